/- The real checker: the hash of a name. -/
import Derived.Test.Qxb6500277aGreatLexR
import Derived.Deep.QuietTactic
import Derived.BigQuiet
import Derived.BigRegion
import Derived.Deep.LoopGhost
namespace Go.Proofs.Qxb6500277aGreat
open Go Go.RowKit

theorem and15F : ∀ m : Fin 331, bits BinOp.and IntKind.i64 (m.val : Int) 15 = ((m.val % 16 : Nat) : Int) := by decide +kernel
theorem and15 (m : Nat) (h : m < 331) : bits BinOp.and IntKind.i64 (m : Int) 15 = ((m % 16 : Nat) : Int) := and15F ⟨m, h⟩
def bkN (s : ByteArray) : Nat → Nat
  | 0 => 0
  | i + 1 => if h : i < s.size then (bkN s i * 5 + s[i].toNat) % 16 else 0
theorem bkN_lt (s : ByteArray) : ∀ i, bkN s i < 16
  | 0 => by simp [bkN]
  | i + 1 => by
    unfold bkN
    split
    · omega
    · omega
def bk (s : ByteArray) : Nat := bkN s s.size
theorem bk_lt (s : ByteArray) : bk s < 16 := bkN_lt s _
set_option maxRecDepth 100000 in
set_option maxHeartbeats 1000000 in
theorem bucketF (s : ByteArray) (hs : s.size ≤ 4096) (w : World) : Calls Tryz.prog 92 #[.string s] w fun e w' => e = .returned (.int .i64 (bk s)) ∧ w' = w := by
  go_enter Tryz.func92, Tryz.ntmps92
  go_wp2_with fail
  go_loopg [4, 3] s.size (fun g kv hv wr => ∃ i : Nat, kv = .int .i64 i ∧ hv = .int .i64 (bkN s i) ∧ i + g = s.size ∧ wr = w)
  case atStart => exact ⟨0, rfl, rfl, by omega, rfl⟩
  case round =>
    obtain ⟨i, rfl, rfl, hg, rfl⟩ := hrel
    have hg' : Hid _ := hg
    by_cases hi : i < s.size
    · have z1 : decide ((i : Int) < (s.size : Nat)) = true := decide_eq_true (by omega)
      have z2 : decide (i < s.size) = true := decide_eq_true hi
      have hb := bkN_lt s i
      have hc := (s[i]).toNat_lt
      have ea := and15 (bkN s i * 5 + s[i].toNat) (by omega)
      have es : Hid (bkN s (i + 1) = (bkN s i * 5 + s[i].toNat) % 16) := by show _ = _; simp only [bkN]; rw [dif_pos hi]
      have ea' : bits BinOp.and IntKind.i64 ((bkN s i : Int) * 5 + (s[i].toNat : Nat)) 15 = (((bkN s i * 5 + s[i].toNat) % 16 : Nat) : Int) := by rw [← ea]; congr 1; 
      have hi2 : i < 4096 := by omega
      clear hg
      go_wp2_with fail
      go_roundg (gk - 1)
      case measure => have := hg'.out; omega
      case rel => exact ⟨i + 1, by simp, by rw [es.out]; simp, by have := hg'.out; omega, rfl⟩
    · have z1 : decide ((i : Int) < (s.size : Nat)) = false := decide_eq_false (by omega)
      have z2 : decide (i < s.size) = false := decide_eq_false hi
      have e : i = s.size := by omega
      subst e
      clear hg hi
      go_wp2_with fail
      go_ret
      exact ⟨rfl, rfl⟩
end Go.Proofs.Qxb6500277aGreat
