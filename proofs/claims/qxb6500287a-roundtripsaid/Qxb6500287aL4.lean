/- The law: Shaped. -/
import Derived.Test.Qxb6500287aL3
namespace Go.Proofs.Qxb6500287a
open Go Go.RowKit

set_option maxRecDepth 100000 in
set_option maxHeartbeats 8000000 in
theorem shaped_err {w : World} {e : Er} {p : ByteArray} (he : e.1 ≠ 0) (hp : e.2 ≤ p.size) : Calls Try.prog 22 #[trErr e, .string p] w fun v w' => v = .returned (.bool true) ∧ Fr (fun _ => False) w w' := by
  have te : (e.1 == 0) = false := by simpa using he
  have te' : (e.1 != 0) = true := by simpa using he
  have k1 : decide ((0 : Int) ≤ (e.2 : Nat)) = true := decide_eq_true (by omega)
  have k2 : decide (((e.2 : Nat) : Int) ≤ p.size) = true := decide_eq_true (by omega)
  have e0 : ∀ w, (binOp .eql 35 (.slice none 0 0) (.slice none 0 0)).run Try.prog w = .ok (.bool true) w := fun w => run_eql_nil_slice w 35 49 none 0 0 0 0 Try.underlying35
  unfold trErr
  go_enter Try.func22, Try.ntmps22
  go_wp2_with fail
  go_ret
  exact ⟨rfl, (Fr.refl _ _).alloc _⟩
set_option maxRecDepth 100000 in
set_option maxHeartbeats 8000000 in
theorem shaped_ok {w : World} {v : Value} {ns : List Nd} {g : Nat} {p : ByteArray} (h : LVn w v ns) (h1 : 0 < ns.length) (hl : ns.length ≤ 24) (hg : g ≤ 3) (hwf : ∀ k (h : k < ns.length), ns[k].a < k ∧ ns[k].b < k) :
    Calls Try.prog 22 #[treeV v ((ns.length - 1 : Nat) : Int) (g : Nat) 0 0, .string p] w fun v w' => v = .returned (.bool true) ∧ Fr (fun _ => False) w w' := by
  rcases h with ⟨_, rfl⟩ | ⟨b, f, rfl, hbk, hf, hp⟩
  · simp at h1
  have hbl := hbk.lt
  have hT := Blk.new w #[.slice (some ⟨b, 0, none⟩) ns.length ns.length, .int .i64 ((ns.length - 1 : Nat) : Int), .int .i64 (g : Nat), .int .i64 0, .int .i64 0] 63 (fun o => (#[.slice (some ⟨b, 0, none⟩) ns.length ns.length, .int .i64 ((ns.length - 1 : Nat) : Int), .int .i64 (g : Nat), .int .i64 0, .int .i64 0] : Array Value).getD o undef) (fun o ho => by
    have ho : o < 5 := by simpa using ho
    rcases lt5 ho with rfl | rfl | rfl | rfl | rfl <;> rfl)
  have F1 := (Fr.refl (fun _ => False) w).alloc (.cells #[.slice (some ⟨b, 0, none⟩) ns.length ns.length, .int .i64 ((ns.length - 1 : Nat) : Int), .int .i64 (g : Nat), .int .i64 0, .int .i64 0] 63)
  have k1 : decide ((ns.length : Int) < 1) = false := decide_eq_false (by omega)
  have k2 : decide ((24 : Int) < ns.length) = false := decide_eq_false (by omega)
  have k3 : (((ns.length - 1 : Nat) : Int) == (ns.length : Int) - 1) = true := by simp; omega
  have k3' : (((ns.length - 1 : Nat) : Int) != (ns.length : Int) - 1) = false := by simp; omega
  have k4 : decide ((g : Int) < 0) = false := decide_eq_false (by omega)
  have k5 : decide ((3 : Int) < g) = false := decide_eq_false (by omega)
  have hlb : (ns.length : Int) ≤ 24 := by omega
  have Hw : Hid _ := hwf
  clear hwf
  unfold treeV
  go_enter Try.func22, Try.ntmps22
  go_wp2_with fail
  go_loopg [6] ns.length (fun gg iv wr => ∃ i : Nat, iv = .int .i64 i ∧ i + gg = ns.length ∧ wr = w.alloc (.cells #[.slice (some ⟨b, 0, none⟩) ns.length ns.length, .int .i64 ((ns.length - 1 : Nat) : Int), .int .i64 (g : Nat), .int .i64 0, .int .i64 0] 63))
  case atStart => exact ⟨0, rfl, by omega, rfl⟩
  case round =>
    obtain ⟨i, rfl, hg2, rfl⟩ := hrel
    have hg2' : i + gk = ns.length := hg2
    clear hg2
    by_cases hlt : i < ns.length
    · have hI : decide ((i : Int) < ns.length) = true := decide_eq_true (by omega)
      have hib : (i : Int) ≤ 23 := by omega
      have hN := hf.at (hbk.frame F1 (fun h => h)) (Nat.le_refl _)
      have n1 := hN i hlt 1 (by omega)
      have n2 := hN i hlt 2 (by omega)
      simp only [ndCell] at n1 n2
      have ka : decide ((i : Int) ≤ ns[i].a) = false := decide_eq_false (by have := (Hw.out i hlt).1; omega)
      have kb : decide ((i : Int) ≤ ns[i].b) = false := decide_eq_false (by have := (Hw.out i hlt).2; omega)
      go_wp2_with fail
      go_roundg (gk - 1)
      case measure => omega
      case rel => exact ⟨i + 1, by simp, by omega, rfl⟩
    · have hI : decide ((i : Int) < ns.length) = false := decide_eq_false (by omega)
      go_wp2_with fail
      go_ret
      exact ⟨rfl, F1⟩
end Go.Proofs.Qxb6500287a
