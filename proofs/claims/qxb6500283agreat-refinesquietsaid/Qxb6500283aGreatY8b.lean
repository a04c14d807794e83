/- step: the jumps. -/
import Derived.Test.Qxb6500283aGreatY7
namespace Go.Proofs.Qxb6500283aGreat
open Go Go.RowKit

set_option maxRecDepth 100000 in
set_option maxHeartbeats 8000000 in
theorem stepB_1 {D : Nat → Prop} {w : World} {r : Nat} {nv : Value} {cl : List Nd} {code : List In} {T : List Wk} (hM : BMem D w r nv code T.reverse) (hD : ∀ b, w.heap.size ≤ b → D b) {a b : Nat} (ha : a < code.length) (hc : code.length ≤ 200) (ht : T.length ≤ 200) :
    Calls Tryz.prog 88 #[.pointer (some ⟨r, 0, none⟩), .agg #[.int .i64 1, .int .i64 (((a : Nat) : Int)), .int .i64 (((b : Nat) : Int))]] w fun v w' => v = .returned (.tuple #[]) ∧ BMem D w' r nv (stepP cl ⟨1, a, b⟩ code T).1 (stepP cl ⟨1, a, b⟩ code T).2.reverse ∧ Fr D w w' := by
  obtain ⟨c0, hrl, _⟩ := hM.c0
  have F0 := (Fr.refl (fun _ => False) w).alloc (.cells #[.int .i64 1, .int .i64 (((a : Nat) : Int)), .int .i64 (((b : Nat) : Int))] 181)
  have hM0 := (hM.dom (D' := fun b => D b ∧ b ≠ w.heap.size) (fun b hb h => ⟨h, by omega⟩)).frame F0 (fun _ _ h => h)
  have G0 : Fr D w _ := F0.mono (fun _ _ h => h.elim)
  have hD0 : ∀ b, w.heap.size + 1 ≤ b → D b ∧ b ≠ w.heap.size := fun b hb => ⟨hD b (by omega), by omega⟩
  have hx0 : Blk (w.alloc (.cells #[.int .i64 1, .int .i64 (((a : Nat) : Int)), .int .i64 (((b : Nat) : Int))] 181)) w.heap.size 3 (wkCell ⟨1, a, b⟩) := Blk.new w _ _ _ fun o ho => by
    have ho : o < 3 := by simpa using ho
    obtain rfl | rfl | rfl : o = 0 ∨ o = 1 ∨ o = 2 := by omega
    all_goals rfl
  go_enter Tryz.func88, Tryz.ntmps88
  go_wp2_with fail
  refine (layB_any (opIn 2 (-1) 0) hM0 (by omega) (fun b hb => hD0 b (by simpa using hb))).mono ?_
  rintro v w1 ⟨rfl, hM1, f1⟩
  have hl1 : (code ++ [opIn 2 (-1) 0]).length = code.length + 1 := by simp
  obtain ⟨q, qc, q1, qd, qr, ql, qz, qx, qcap, mx1, my1⟩ := hM1.at a (by rw [hl1]; omega)
  rw [hl1] at q1 qcap
  have q1v := qx 1 (by omega)
  have q2v := qx 2 (by omega)
  have hlq : (a : Int) < (code.length : Int) + 1 := by omega
  have hM2 := (my1 (((code.length : Int) + 1))).frame (Fr.refl (fun _ => False) _).drew (fun _ _ h => h)
  have f2 := (f1.setC q (a * 7 + 2) (.int .i64 (((code.length : Int) + 1))) (fun _ => qd)).drew
  have hx2 := hx0.frame f2 (fun h => h.2 rfl)
  have x1 := (hx0.frame f1 (fun h => h.2 rfl)).cell (o := 1) (by omega)
  have x2 := hx2.cell (o := 2) (by omega)
  simp only [wkCell] at x1 x2
  go_wp2_with fail
  refine wp_region_text (by kernel_rfl) (by kernel_rfl) ?_
  go_wp2_with fail
  refine ⟨by kernel_rfl, ?_⟩
  go_wp2_with fail
  refine (pushB_any 2 code.length 0 hM2 (by simp; omega) (fun b hb => hD0 b (by have := f2.size; simp only [World.size_alloc] at *; omega))).mono ?_
  rintro v w3 ⟨rfl, hM3, f3'⟩
  have f3 := f2.trans f3' (fun _ _ h => h)
  have y2 := (hx0.frame f3 (fun h => h.2 rfl)).cell (o := 2) (by omega)
  simp only [wkCell] at y2
  go_wp2_with fail
  refine (pushB_any 0 b 0 hM3 (by simp; omega) (fun b hb => hD0 b (by have := f3.size; simp only [World.size_alloc] at *; omega))).mono ?_
  rintro v w4 ⟨rfl, hM4, f4'⟩
  have f4 := f3.trans f4' (fun _ _ h => h)
  go_wp2_with fail
  go_end0
  refine ⟨rfl, ?_, G0.trans (f4.mono (fun _ _ h => h.1)) (fun _ _ h => h)⟩
  have hf := hM4.dom (D' := D) (fun _ _ h => h.1)
  have e : (stepP cl ⟨1, a, b⟩ code T).2.reverse = T.reverse ++ [⟨2, code.length, 0⟩] ++ [⟨0, b, 0⟩] := by simp [stepP]
  rw [e]
  exact hf
set_option maxRecDepth 100000 in
set_option maxHeartbeats 8000000 in
theorem stepB_2 {D : Nat → Prop} {w : World} {r : Nat} {nv : Value} {cl : List Nd} {code : List In} {T : List Wk} (hM : BMem D w r nv code T.reverse) (hD : ∀ b, w.heap.size ≤ b → D b) {a b : Nat} (ha : a < code.length) :
    Calls Tryz.prog 88 #[.pointer (some ⟨r, 0, none⟩), .agg #[.int .i64 2, .int .i64 (((a : Nat) : Int)), .int .i64 (((b : Nat) : Int))]] w fun v w' => v = .returned (.tuple #[]) ∧ BMem D w' r nv (stepP cl ⟨2, a, b⟩ code T).1 (stepP cl ⟨2, a, b⟩ code T).2.reverse ∧ Fr D w w' := by
  obtain ⟨c0, hrl, _⟩ := hM.c0
  have F0 := (Fr.refl (fun _ => False) w).alloc (.cells #[.int .i64 2, .int .i64 (((a : Nat) : Int)), .int .i64 (((b : Nat) : Int))] 181)
  have hM0 := (hM.dom (D' := fun b => D b ∧ b ≠ w.heap.size) (fun b hb h => ⟨h, by omega⟩)).frame F0 (fun _ _ h => h)
  have G0 : Fr D w _ := F0.mono (fun _ _ h => h.elim)
  have hD0 : ∀ b, w.heap.size + 1 ≤ b → D b ∧ b ≠ w.heap.size := fun b hb => ⟨hD b (by omega), by omega⟩
  have hx0 : Blk (w.alloc (.cells #[.int .i64 2, .int .i64 (((a : Nat) : Int)), .int .i64 (((b : Nat) : Int))] 181)) w.heap.size 3 (wkCell ⟨2, a, b⟩) := Blk.new w _ _ _ fun o ho => by
    have ho : o < 3 := by simpa using ho
    obtain rfl | rfl | rfl : o = 0 ∨ o = 1 ∨ o = 2 := by omega
    all_goals rfl
  go_enter Tryz.func88, Tryz.ntmps88
  have f0 := Fr.refl (fun b => D b ∧ b ≠ w.heap.size) (w.alloc (.cells #[.int .i64 2, .int .i64 ((a : Nat) : Int), .int .i64 ((b : Nat) : Int)] 181))
  obtain ⟨q, qc, q1, qd, qr, ql, qz, qx, qcap, mx1, my1⟩ := hM0.at a ha
  have q1v := qx 1 (by omega)
  have q2v := qx 2 (by omega)
  have hlq : (a : Int) < (code.length : Int) := by omega
  have hM2 := (mx1 ((code.length : Nat))).frame (Fr.refl (fun _ => False) _).drew (fun _ _ h => h)
  have f2 := (f0.setC q (a * 7 + 1) (.int .i64 ((code.length : Nat))) (fun _ => qd)).drew
  have hx2 := hx0.frame f2 (fun h => h.2 rfl)
  have x1 := hx0.cell (o := 1) (by omega)
  simp only [wkCell] at x1
  go_wp2_with fail
  refine wp_region_text (by kernel_rfl) (by kernel_rfl) ?_
  go_wp2_with fail
  refine ⟨by kernel_rfl, ?_⟩
  go_wp2_with fail
  go_end0
  refine ⟨rfl, ?_⟩
  have hf := hM2.dom (D' := D) (fun _ _ h => h.1)
  refine ⟨?_, G0.trans (f2.mono (fun _ _ h => h.1)) (fun _ _ h => h)⟩
  exact hf
set_option maxRecDepth 100000 in
set_option maxHeartbeats 8000000 in
theorem stepB_3l {D : Nat → Prop} {w : World} {r : Nat} {nv : Value} {cl : List Nd} {code : List In} {T : List Wk} (hM : BMem D w r nv code T.reverse) (hD : ∀ b, w.heap.size ≤ b → D b) {a : Nat} (ha : a < code.length) (hc : code.length ≤ 200) :
    Calls Tryz.prog 88 #[.pointer (some ⟨r, 0, none⟩), .agg #[.int .i64 3, .int .i64 (((a : Nat) : Int)), .int .i64 (1)]] w fun v w' => v = .returned (.tuple #[]) ∧ BMem D w' r nv (stepP cl ⟨3, a, 1⟩ code T).1 (stepP cl ⟨3, a, 1⟩ code T).2.reverse ∧ Fr D w w' := by
  obtain ⟨c0, hrl, _⟩ := hM.c0
  have F0 := (Fr.refl (fun _ => False) w).alloc (.cells #[.int .i64 3, .int .i64 (((a : Nat) : Int)), .int .i64 (1)] 181)
  have hM0 := (hM.dom (D' := fun b => D b ∧ b ≠ w.heap.size) (fun b hb h => ⟨h, by omega⟩)).frame F0 (fun _ _ h => h)
  have G0 : Fr D w _ := F0.mono (fun _ _ h => h.elim)
  have hD0 : ∀ b, w.heap.size + 1 ≤ b → D b ∧ b ≠ w.heap.size := fun b hb => ⟨hD b (by omega), by omega⟩
  have hx0 : Blk (w.alloc (.cells #[.int .i64 3, .int .i64 (((a : Nat) : Int)), .int .i64 (1)] 181)) w.heap.size 3 (wkCell ⟨3, a, 1⟩) := Blk.new w _ _ _ fun o ho => by
    have ho : o < 3 := by simpa using ho
    obtain rfl | rfl | rfl : o = 0 ∨ o = 1 ∨ o = 2 := by omega
    all_goals rfl
  go_enter Tryz.func88, Tryz.ntmps88
  go_wp2_with fail
  refine (layB_any (opIn 2 (a : Nat) 0) hM0 (by omega) (fun b hb => hD0 b (by simpa using hb))).mono ?_
  rintro v w1 ⟨rfl, hM1, f1⟩
  have hl1 : (code ++ [opIn 2 (a : Nat) 0]).length = code.length + 1 := by simp
  obtain ⟨q, qc, q1, qd, qr, ql, qz, qx, qcap, mx1, my1⟩ := hM1.at a (by rw [hl1]; omega)
  rw [hl1] at q1 qcap
  have q1v := qx 1 (by omega)
  have q2v := qx 2 (by omega)
  have hlq : (a : Int) < (code.length : Int) + 1 := by omega
  have hM2 := (mx1 (((code.length : Int) + 1))).frame (Fr.refl (fun _ => False) _).drew (fun _ _ h => h)
  have f2 := (f1.setC q (a * 7 + 1) (.int .i64 (((code.length : Int) + 1))) (fun _ => qd)).drew
  have hx2 := hx0.frame f2 (fun h => h.2 rfl)
  have x1 := (hx0.frame f1 (fun h => h.2 rfl)).cell (o := 1) (by omega)
  have x2 := (hx0.frame f1 (fun h => h.2 rfl)).cell (o := 2) (by omega)
  simp only [wkCell] at x1 x2
  go_wp2_with fail
  refine wp_region_text (by kernel_rfl) (by kernel_rfl) ?_
  go_wp2_with fail
  refine ⟨by kernel_rfl, ?_⟩
  go_wp2_with fail
  go_end0
  refine ⟨rfl, ?_⟩
  have hf := hM2.dom (D' := D) (fun _ _ h => h.1)
  refine ⟨?_, G0.trans (f2.mono (fun _ _ h => h.1)) (fun _ _ h => h)⟩
  exact hf
set_option maxRecDepth 100000 in
set_option maxHeartbeats 8000000 in
theorem stepB_3g {D : Nat → Prop} {w : World} {r : Nat} {nv : Value} {cl : List Nd} {code : List In} {T : List Wk} (hM : BMem D w r nv code T.reverse) (hD : ∀ b, w.heap.size ≤ b → D b) {a b : Nat} (ha : a < code.length) (hc : code.length ≤ 200) (hb1 : b ≠ 1) :
    Calls Tryz.prog 88 #[.pointer (some ⟨r, 0, none⟩), .agg #[.int .i64 3, .int .i64 (((a : Nat) : Int)), .int .i64 (((b : Nat) : Int))]] w fun v w' => v = .returned (.tuple #[]) ∧ BMem D w' r nv (stepP cl ⟨3, a, b⟩ code T).1 (stepP cl ⟨3, a, b⟩ code T).2.reverse ∧ Fr D w w' := by
  obtain ⟨c0, hrl, _⟩ := hM.c0
  have F0 := (Fr.refl (fun _ => False) w).alloc (.cells #[.int .i64 3, .int .i64 (((a : Nat) : Int)), .int .i64 (((b : Nat) : Int))] 181)
  have hM0 := (hM.dom (D' := fun b => D b ∧ b ≠ w.heap.size) (fun b hb h => ⟨h, by omega⟩)).frame F0 (fun _ _ h => h)
  have G0 : Fr D w _ := F0.mono (fun _ _ h => h.elim)
  have hD0 : ∀ b, w.heap.size + 1 ≤ b → D b ∧ b ≠ w.heap.size := fun b hb => ⟨hD b (by omega), by omega⟩
  have hx0 : Blk (w.alloc (.cells #[.int .i64 3, .int .i64 (((a : Nat) : Int)), .int .i64 (((b : Nat) : Int))] 181)) w.heap.size 3 (wkCell ⟨3, a, b⟩) := Blk.new w _ _ _ fun o ho => by
    have ho : o < 3 := by simpa using ho
    obtain rfl | rfl | rfl : o = 0 ∨ o = 1 ∨ o = 2 := by omega
    all_goals rfl
  have hbq : ((b : Int) == 1) = false := by simp; omega
  go_enter Tryz.func88, Tryz.ntmps88
  go_wp2_with fail
  refine (layB_any (opIn 2 (a : Nat) 0) hM0 (by omega) (fun b hb => hD0 b (by simpa using hb))).mono ?_
  rintro v w1 ⟨rfl, hM1, f1⟩
  have hl1 : (code ++ [opIn 2 (a : Nat) 0]).length = code.length + 1 := by simp
  obtain ⟨q, qc, q1, qd, qr, ql, qz, qx, qcap, mx1, my1⟩ := hM1.at a (by rw [hl1]; omega)
  rw [hl1] at q1 qcap
  have q1v := qx 1 (by omega)
  have q2v := qx 2 (by omega)
  have hlq : (a : Int) < (code.length : Int) + 1 := by omega
  have hM2 := (my1 (((code.length : Int) + 1))).frame (Fr.refl (fun _ => False) _).drew (fun _ _ h => h)
  have f2 := (f1.setC q (a * 7 + 2) (.int .i64 (((code.length : Int) + 1))) (fun _ => qd)).drew
  have hx2 := hx0.frame f2 (fun h => h.2 rfl)
  have x1 := (hx0.frame f1 (fun h => h.2 rfl)).cell (o := 1) (by omega)
  have x2 := (hx0.frame f1 (fun h => h.2 rfl)).cell (o := 2) (by omega)
  simp only [wkCell] at x1 x2
  go_wp2_with fail
  refine wp_region_text (by kernel_rfl) (by kernel_rfl) ?_
  go_wp2_with fail
  refine ⟨by kernel_rfl, ?_⟩
  go_wp2_with fail
  go_end0
  refine ⟨rfl, ?_⟩
  have hf := hM2.dom (D' := D) (fun _ _ h => h.1)
  refine ⟨?_, G0.trans (f2.mono (fun _ _ h => h.1)) (fun _ _ h => h)⟩
  have e : stepP cl ⟨3, a, b⟩ code T = (modL (code ++ [opIn 2 (a : Nat) 0]) a (fun x => setY x ((code.length : Int) + 1)), T) := by simp [stepP, hb1]
  rw [e]
  exact hf
end Go.Proofs.Qxb6500283aGreat
