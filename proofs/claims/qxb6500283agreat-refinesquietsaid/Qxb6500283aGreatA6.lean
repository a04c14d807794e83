/- The model's run: fail, is. -/
import Derived.Test.Qxb6500283aGreatA4
namespace Go.Proofs.Qxb6500283aGreat
open Go Go.RowKit

theorem beqI (a b : Nat) : ((a : Int) == (b : Int)) = (a == b) := by
  rw [Bool.eq_iff_iff]; simp only [beq_iff_eq]; omega
set_option maxHeartbeats 400000 in
theorem failM_any {w : World} {r : Nat} {g : Nat → Value} (hB : Blk w r 6 g) (e0 : Int) (he : g 4 = .int .i64 e0) (e q : Int) : Calls Tryz.prog 79 #[.pointer (some ⟨r, 0, none⟩), .int .i64 e, .int .i64 q] w fun v w' => v = .returned (.int .i64 (-1)) ∧ Blk w' r 6 (if e0 = 0 then upd (upd g 4 (.int .i64 e)) 5 (.int .i64 q) else g) ∧ Fr (fun b => b = r) w w' := by
  have c4 := hB.cell (o := 4) (by omega)
  rw [he] at c4
  have c5 := hB.cell (o := 5) (by omega)
  have z := hB.frozen
  go_enter Tryz.func79, Tryz.ntmps79
  by_cases h0 : e0 = 0
  · subst h0
    go_wp2_with fail
    go_ret
    exact ⟨rfl, (hB.set 4 _).set 5 _, ((Fr.refl (fun b => b = r) w).setC r 4 _ (fun _ => rfl)).setC r 5 _ (fun _ => rfl)⟩
  · have t0 : (e0 == 0) = false := by simpa using h0
    go_wp2_with fail
    go_ret
    exact ⟨rfl, hB, Fr.refl _ _⟩
set_option maxHeartbeats 400000 in
theorem isM_any {w : World} {r : Nat} {g : Nat → Value} {p : ByteArray} {i : Nat} (h : Blk w r 6 g) (h0 : g 0 = .string p) (h1 : g 1 = .int .i64 (i : Nat)) (c : Nat) : Calls Tryz.prog 100 #[.pointer (some ⟨r, 0, none⟩), .int .u8 c] w fun v w' => v = .returned (.bool (isB p i c)) ∧ Blk w' r 6 g ∧ Fr (fun _ => False) w w' := by
  have c0 := h.cell (o := 0) (by omega)
  have c1 := h.cell (o := 1) (by omega)
  rw [h0] at c0
  rw [h1] at c1
  go_enter Tryz.func100, Tryz.ntmps100
  by_cases hi : i < p.size
  · have hd : decide ((i : Int) < p.size) = true := decide_eq_true (by omega)
    have hbt := bt_at p i hi
    have Hbt : Hid _ := hbt
    clear hbt
    go_wp2_with fail
    refine wp_region_text (by kernel_rfl) (by kernel_rfl) ?_
    go_wp2_with fail
    refine ⟨by kernel_rfl, ?_⟩
    go_wp2_with fail
    go_ret
    refine ⟨?_, h.drew, (Fr.refl _ _).drew⟩
    have hb := Hbt.out
    simp [isB, hi, hb, beqI]
  · have hd : decide ((i : Int) < p.size) = false := decide_eq_false (by omega)
    go_wp2_with fail
    refine wp_region_text (by kernel_rfl) (by kernel_rfl) ?_
    go_wp2_with fail
    refine ⟨by kernel_rfl, ?_⟩
    go_wp2_with fail
    go_ret
    exact ⟨by simp [isB, hi], h.drew, (Fr.refl _ _).drew⟩
end Go.Proofs.Qxb6500283aGreat
