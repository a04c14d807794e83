/- The law: the desk, Untouched. -/
import Derived.Test.Qxb6500285aGreatLA1
namespace Go.Proofs.Qxb6500285aGreat
open Go Go.RowKit

structure Dk where
  pat : ByteArray
  sub : ByteArray
  l0 : ByteArray
  l1 : ByteArray
  kn : Nat
  an : Nat → Value
  lx : Value
  lm : Value
  old : Nat → Value
  n : Nat
def dkCell (D : Dk) (o : Nat) : Value := match o with | 0 => .string D.pat | 1 => .string D.sub | 2 => .string D.l0 | 3 => .string D.l1 | 4 => .int .i64 (D.kn : Nat) | 16 => D.lx | 17 => D.lm | 18 => D.old 0 | 19 => D.old 1 | 20 => D.old 2 | 21 => D.old 3 | 22 => .int .i64 (D.n : Nat) | o => D.an (o - 5)
theorem dkCell_old (D : Dk) {k : Nat} (h : k < 4) : dkCell D (18 + k) = D.old k := by
  obtain rfl | rfl | rfl | rfl : k = 0 ∨ k = 1 ∨ k = 2 ∨ k = 3 := by omega
  all_goals rfl
def stamps (n : Nat) : List In := List.replicate n stampIn
theorem stamps_len (n : Nat) : (stamps n).length = n := by simp [stamps]
theorem stamps_get (n i : Nat) (h : i < (stamps n).length) : (stamps n)[i] = stampIn := by simp [stamps]
theorem inV_stamp : inV stampIn = .agg #[.int .i64 (-7), .int .i64 (-7), .int .i64 (-7), .int .u64 0, .int .u64 0, .int .u64 0, .int .u64 0] := rfl
def stO : Obj := .cells #[.int .i64 (-7), .int .i64 (-7), .int .i64 (-7), .int .u64 0, .int .u64 0, .int .u64 0, .int .u64 0] 122
theorem lt7 {j : Nat} (h : j < 7) : j = 0 ∨ j = 1 ∨ j = 2 ∨ j = 3 ∨ j = 4 ∨ j = 5 ∨ j = 6 := by omega
theorem Blk.st (w : World) : Blk (w.alloc stO) w.heap.size 7 (inCell stampIn) := Blk.new w _ _ _ fun o ho => by
  rcases lt7 (show o < 7 by simpa using ho) with rfl | rfl | rfl | rfl | rfl | rfl | rfl <;> rfl
set_option maxRecDepth 100000 in
set_option maxHeartbeats 8000000 in
theorem untouched_any {w : World} {d : Nat} {D : Dk} (hd : Blk w d 23 (dkCell D)) (ho : ∀ k, k < 4 → ∃ n, n ≤ 64 ∧ LVi w (D.old k) (stamps n)) :
    Calls Tryz.prog 49 #[.pointer (some ⟨d, 0, none⟩)] w fun e w' => e = .returned (.bool true) ∧ Fr (fun _ => False) w w' := by
  have hdl := hd.lt
  go_enter Tryz.func49, Tryz.ntmps49
  go_wp2_with fail
  refine (stamp_any _).mono ?_
  rintro e w1 ⟨rfl, f1⟩
  rw [inV_stamp]
  have hst := Blk.st w1
  unfold stO at hst
  have F1 := f1.alloc (.cells #[.int .i64 (-7), .int .i64 (-7), .int .i64 (-7), .int .u64 0, .int .u64 0, .int .u64 0, .int .u64 0] 122)
  have hw1 := f1.size
  go_wp2_with fail
  go_loopg [4] 4 (fun g iv wr => ∃ i : Nat, iv = .int .i64 i ∧ i + g = 4 ∧ Fr (fun _ => False) w wr ∧ Blk wr w1.heap.size 7 (inCell stampIn))
  case atStart => exact ⟨0, rfl, by omega, F1, hst⟩
  case round =>
    obtain ⟨i, rfl, hg, hfr, hS⟩ := hrel
    have hg' : i + gk = 4 := hg
    clear hg hst F1
    by_cases hlt : i < 4
    · have hI : decide ((i : Int) < 4) = true := decide_eq_true (by omega)
      have hib : (i : Int) ≤ 3 := by omega
      have hdr := hd.frame hfr (fun h => h)
      obtain ⟨n, hn, hv⟩ := ho i hlt
      have hvr := hv.frame hfr (fun _ _ h => h)
      have hlen := stamps_len n
      go_wp2_with fail
      go_loopg [5] n (fun g2 jv wq => ∃ j : Nat, jv = .int .i64 j ∧ j + g2 = n ∧ Fr (fun _ => False) wr wq)
      case atStart => exact ⟨0, rfl, by omega, Fr.refl _ _⟩
      case round =>
        obtain ⟨j, rfl, hg2, hfq⟩ := hrel
        have hg2' : j + gk = n := hg2
        clear hg2
        have hdq := hdr.frame hfq (fun h => h)
        have hvq := hvr.frame hfq (fun _ _ h => h)
        have hSq := hS.frame hfq (fun h => h)
        have cO := hdq.cell (o := 18 + i) (by omega)
        rw [dkCell_old D hlt] at cO
        have hdql := hdq.lt
        rcases hvq with ⟨hnil, hn0⟩ | ⟨b, f, hsl, hbk, hf, hp⟩
        · rw [hnil] at cO
          have hn00 : n = 0 := by rw [hn0] at hlen; simpa using hlen.symm
          have hjn : j = 0 := by omega
          subst hjn
          go_wp2_with fail
          go_roundg (3 - i)
          case measure => omega
          case rel => exact ⟨i + 1, by simp, by omega, hfr.trans hfq (fun _ _ h => h), hSq⟩
        · rw [hsl, hlen] at cO
          by_cases hj : j < n
          · have hjI : decide ((j : Int) < n) = true := decide_eq_true (by omega)
            have hjb : (j : Int) ≤ 63 := by omega
            have k1 := hf.at hbk (Nat.le_refl _)
            have hjl : j < (stamps n).length := by omega
            have a0 := k1 j hjl 0 (by omega)
            have a1 := k1 j hjl 1 (by omega)
            have a2 := k1 j hjl 2 (by omega)
            have a3 := k1 j hjl 3 (by omega)
            have a4 := k1 j hjl 4 (by omega)
            have a5 := k1 j hjl 5 (by omega)
            have a6 := k1 j hjl 6 (by omega)
            rw [stamps_get n j hjl] at a0 a1 a2 a3 a4 a5 a6
            simp only [inCell, stampIn, Nat.add_zero] at a0 a1 a2 a3 a4 a5 a6
            have s0 := hSq.cell (o := 0) (by omega)
            have s1 := hSq.cell (o := 1) (by omega)
            have s2 := hSq.cell (o := 2) (by omega)
            have s3 := hSq.cell (o := 3) (by omega)
            have s4 := hSq.cell (o := 4) (by omega)
            have s5 := hSq.cell (o := 5) (by omega)
            have s6 := hSq.cell (o := 6) (by omega)
            simp only [inCell, stampIn] at s0 s1 s2 s3 s4 s5 s6
            go_wp2_with fail
            refine wp_region_text (by kernel_rfl) (by kernel_rfl) ?_
            go_wp2_with fail
            rw [← inV_stamp]
            refine (sameInst_any stampIn _).mono ?_
            rintro e w3 ⟨rfl, f3⟩
            go_wp2_with fail
            refine ⟨by kernel_rfl, ?_⟩
            go_wp2_with fail
            go_roundg (gk - 1)
            case measure => omega
            case rel => exact ⟨j + 1, by simp, by omega, hfq.drew.trans f3 (fun _ _ h => h)⟩
          · have hjI : decide ((j : Int) < n) = false := decide_eq_false (by omega)
            go_wp2_with fail
            go_roundg (3 - i)
            case measure => omega
            case rel => exact ⟨i + 1, by simp, by omega, hfr.trans hfq (fun _ _ h => h), hSq⟩
    · have hI : decide ((i : Int) < 4) = false := decide_eq_false (by omega)
      go_wp2_with fail
      go_ret
      exact ⟨rfl, hfr⟩
end Go.Proofs.Qxb6500285aGreat
