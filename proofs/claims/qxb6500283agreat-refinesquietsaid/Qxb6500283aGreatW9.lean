/- measure. -/
import Derived.Test.Qxb6500283aGreatW5
import Derived.Test.Qxb6500283aGreatEqArr
namespace Go.Proofs.Qxb6500283aGreat
open Go Go.RowKit

set_option maxHeartbeats 400000 in
theorem lid_any (n : Nat) (w : World) : Calls Tryz.prog 113 #[.int .i64 (n : Nat)] w fun v w' => v = .returned (.int .i64 (lidN n : Nat)) ∧ w' = w := by
  go_enter Tryz.func113, Tryz.ntmps113
  by_cases h : 31 < n
  · have hd : decide ((31 : Int) < (n : Nat)) = true := decide_eq_true (by omega)
    rw [show lidN n = 32 by unfold lidN; rw [if_pos h]]
    go_wp2_with fail
    go_ret
    exact ⟨rfl, rfl⟩
  · have hd : decide ((31 : Int) < (n : Nat)) = false := decide_eq_false (by omega)
    rw [show lidN n = n by unfold lidN; rw [if_neg h]]
    go_wp2_with fail
    go_ret
    exact ⟨rfl, rfl⟩
def pairV (z : SZ) : Value := .tuple #[.int .i64 (z.1 : Nat), .int .i64 (z.2 : Nat)]
section
variable {w : World} {s x a b m : Nat} {ns out : List Nd} {ws : List Tk} {rs : List Nat}
set_option maxRecDepth 100000 in
set_option maxHeartbeats 4000000 in
theorem catS_any (h : SM w s x out ws rs) (hZ : ZM w s ns m) (hm : m ≤ 24) (ha : a < m) (hb : b < m) (oa : OkZ (zz ns a)) (ob : OkZ (zz ns b)) :
    Calls Tryz.prog 111 #[.pointer (some ⟨s, 0, none⟩), .int .i64 (a : Nat), .int .i64 (b : Nat)] w fun v w' => v = .returned (pairV (catZ (zz ns a) (zz ns b))) ∧ Fr (fun _ => False) w w' := by
  obtain ⟨_, c1, c2, _, hl⟩ := h.cells
  have sa := hZ.shape ha hm
  have sb := hZ.shape hb hm
  have za := hZ.size ha hm
  have zb := hZ.size hb hm
  have haI : (a : Int) ≤ 23 := by omega
  have hbI : (b : Int) ≤ 23 := by omega
  have hl0 : s < w.heap.size := by omega
  have hl1 : s + 1 < w.heap.size := by omega
  have hl2 : s + 2 < w.heap.size := by omega
  have a1 := oa.sh
  have b1 := ob.sh
  have a2 := oa.hi
  have b2 := ob.hi
  have F1 := (Fr.refl (fun _ => False) w).drew
  unfold pairV
  generalize zz ns a = A at *
  generalize zz ns b = B at *
  obtain ⟨A1, A2⟩ := A
  obtain ⟨B1, B2⟩ := B
  simp only at sa sb za zb a1 b1 a2 b2
  clear oa ob
  have hA2 : (A2 : Int) ≤ 32 := by omega
  have hB2 : (B2 : Int) ≤ 32 := by omega
  go_enter Tryz.func111, Tryz.ntmps111
  obtain rfl | rfl | rfl : A1 = 0 ∨ A1 = 1 ∨ A1 = 2 := by omega
  · obtain rfl | rfl | rfl : B1 = 0 ∨ B1 = 1 ∨ B1 = 2 := by omega
    · go_wp2_with fail
      refine wp_region_text (by kernel_rfl) (by kernel_rfl) ?_
      go_wp2_with fail
      refine ⟨by kernel_rfl, ?_⟩
      go_wp2_with fail
      refine wp_region_text (by kernel_rfl) (by kernel_rfl) ?_
      go_wp2_with fail
      refine ⟨by kernel_rfl, ?_⟩
      go_wp2_with fail
      exact bodyPost_ret (v := .tuple #[.int .i64 0, .int .i64 (B2 : Nat)]) (by simp [results, Tryz.results111, go_sem]) rfl ⟨by simp [catZ], F1.drew⟩
    · go_wp2_with fail
      refine wp_region_text (by kernel_rfl) (by kernel_rfl) ?_
      go_wp2_with fail
      refine ⟨by kernel_rfl, ?_⟩
      go_wp2_with fail
      exact bodyPost_ret (v := .tuple #[.int .i64 1, .int .i64 1]) (by simp [results, Tryz.results111, go_sem]) rfl ⟨by simp [catZ], F1⟩
    · go_wp2_with fail
      refine wp_region_text (by kernel_rfl) (by kernel_rfl) ?_
      go_wp2_with fail
      refine ⟨by kernel_rfl, ?_⟩
      go_wp2_with fail
      refine wp_region_text (by kernel_rfl) (by kernel_rfl) ?_
      go_wp2_with fail
      refine ⟨by kernel_rfl, ?_⟩
      go_wp2_with fail
      exact bodyPost_ret (v := .tuple #[.int .i64 2, .int .i64 (B2 : Nat)]) (by simp [results, Tryz.results111, go_sem]) rfl ⟨by simp [catZ], F1.drew⟩
  · go_wp2_with fail
    refine wp_region_text (by kernel_rfl) (by kernel_rfl) ?_
    go_wp2_with fail
    refine ⟨by kernel_rfl, ?_⟩
    go_wp2_with fail
    exact bodyPost_ret (v := .tuple #[.int .i64 1, .int .i64 1]) (by simp [results, Tryz.results111, go_sem]) rfl ⟨by simp [catZ], F1⟩
  · obtain rfl | rfl | rfl : B1 = 0 ∨ B1 = 1 ∨ B1 = 2 := by omega
    · go_wp2_with fail
      refine wp_region_text (by kernel_rfl) (by kernel_rfl) ?_
      go_wp2_with fail
      refine ⟨by kernel_rfl, ?_⟩
      go_wp2_with fail
      refine wp_region_text (by kernel_rfl) (by kernel_rfl) ?_
      go_wp2_with fail
      refine ⟨by kernel_rfl, ?_⟩
      go_wp2_with fail
      exact bodyPost_ret (v := .tuple #[.int .i64 2, .int .i64 (A2 : Nat)]) (by simp [results, Tryz.results111, go_sem]) rfl ⟨by simp [catZ], F1.drew⟩
    · go_wp2_with fail
      refine wp_region_text (by kernel_rfl) (by kernel_rfl) ?_
      go_wp2_with fail
      refine ⟨by kernel_rfl, ?_⟩
      go_wp2_with fail
      exact bodyPost_ret (v := .tuple #[.int .i64 1, .int .i64 1]) (by simp [results, Tryz.results111, go_sem]) rfl ⟨by simp [catZ], F1⟩
    · go_wp2_with fail
      refine wp_region_text (by kernel_rfl) (by kernel_rfl) ?_
      go_wp2_with fail
      refine ⟨by kernel_rfl, ?_⟩
      go_wp2_with fail
      refine wp_region_text (by kernel_rfl) (by kernel_rfl) ?_
      go_wp2_with fail
      refine (lid_any (A2 + B2 + 1) _).mono ?_
      rintro v w9 ⟨rfl, rfl⟩
      go_wp2_with fail
      refine ⟨by kernel_rfl, ?_⟩
      go_wp2_with fail
      exact bodyPost_ret (v := .tuple #[.int .i64 2, .int .i64 (lidN (A2 + B2 + 1) : Nat)]) (by simp [results, Tryz.results111, go_sem]) rfl ⟨by simp [catZ], F1.drew⟩
end
end Go.Proofs.Qxb6500283aGreat
