/- node: an alternation; a repeat. -/
import Derived.Test.Qxb6500283aGreatY5
import Derived.Test.Qxb6500283aGreatT9
namespace Go.Proofs.Qxb6500283aGreat
open Go Go.RowKit

set_option maxRecDepth 100000 in
set_option maxHeartbeats 8000000 in
theorem nodeB_alt {D : Nat → Prop} {w : World} {r bk cp : Nat} {cl : List Nd} {code : List In} {T : List Wk} (hM : BMem D w r (.slice (some ⟨bk, 0, none⟩) cl.length cp) code T.reverse) (hD : ∀ b, w.heap.size ≤ b → D b) (hN : NPAt w bk cl) {n : Nat} (A B : Nat) (cap : Int) (mn mx : Int) (lz : Bool) (st : BSet) (hget : cl[n]? = some ⟨5, ((A : Nat) : Int), ((B : Nat) : Int), mn, mx, cap, lz, st⟩)
    (hc : code.length ≤ 200) (ht : T.length ≤ 200) :
    Calls Tryz.prog 123 #[.pointer (some ⟨r, 0, none⟩), .int .i64 (n : Nat)] w fun v w' => v = .returned (.tuple #[]) ∧ BMem D w' r (.slice (some ⟨bk, 0, none⟩) cl.length cp) (nodeP cl n code T).1 (nodeP cl n code T).2.reverse ∧ Fr D w w' := by
  obtain ⟨c0, hrl, _⟩ := hM.c0
  obtain ⟨hn, hnd⟩ := getE hget
  have n0 := hN n hn 0 (by omega)
  have n1 := hN n hn 1 (by omega)
  have n2 := hN n hn 2 (by omega)
  have n3 := hN n hn 3 (by omega)
  have n4 := hN n hn 4 (by omega)
  have n5 := hN n hn 5 (by omega)
  have n6 := hN n hn 6 (by omega)
  have n7 := hN n hn 7 (by omega)
  have n8 := hN n hn 8 (by omega)
  have n9 := hN n hn 9 (by omega)
  have n10 := hN n hn 10 (by omega)
  rw [hnd] at n0 n1 n2 n3 n4 n5 n6 n7 n8 n9 n10
  simp only [ndCell, Nat.add_zero] at n0 n1 n2 n3 n4 n5 n6 n7 n8 n9 n10
  have hk24 : (n : Int) < cl.length := by omega
  have hP : nodeP cl n code T = nodeP cl n code T := rfl
  conv at hP => rhs; unfold nodeP; rw [hget]
  clear hn hget hnd
  have F0 := (Fr.refl (fun _ => False) w).alloc (.cells #[.int .i64 5, .int .i64 (((A : Nat) : Int)), .int .i64 (((B : Nat) : Int)), .int .i64 mn, .int .i64 mx, .int .i64 (cap), .bool lz, .int .u64 (wd st 0 : Nat), .int .u64 (wd st 1 : Nat), .int .u64 (wd st 2 : Nat), .int .u64 (wd st 3 : Nat)] 97)
  have hM0 := (hM.dom (D' := fun b => D b ∧ b ≠ w.heap.size) (fun b hb h => ⟨h, by omega⟩)).frame F0 (fun _ _ h => h)
  have G0 : Fr D w _ := F0.mono (fun _ _ h => h.elim)
  have hD0 : ∀ b, w.heap.size + 1 ≤ b → D b ∧ b ≠ w.heap.size := fun b hb => ⟨hD b (by omega), by omega⟩
  have hx0 := Blk.nd w ⟨5, ((A : Nat) : Int), ((B : Nat) : Int), mn, mx, cap, lz, st⟩
  rw [hP]
  clear hP
  go_enter Tryz.func123, Tryz.ntmps123
  go_wp2_with fail
  refine (layB_any (opIn 1 (-1) (-1)) hM0 (by omega) (fun b hb => hD0 b (by simpa using hb))).mono ?_
  rintro v w1 ⟨rfl, hM1, f1⟩
  have hl1 : (code ++ [opIn 1 (-1) (-1)]).length = code.length + 1 := by simp
  obtain ⟨q, qc, q1, qd, qr, ql, qz, qx, qcap, mx1, my1⟩ := hM1.at code.length (by simp)
  rw [hl1] at q1
  have q1v := qx 1 (by omega)
  have q2v := qx 2 (by omega)
  simp only [List.getElem_append_right (Nat.le_refl _), Nat.sub_self, List.getElem_cons_zero, inCell, opIn] at q1v q2v
  have hlq : (code.length : Int) < ((code.length + 1 : Nat) : Int) := by omega
  have hM2 := mx1 ((code.length : Int) + 1)
  have hm2 : modL (code ++ [opIn 1 (-1) (-1)]) code.length (fun x => setX x ((code.length : Int) + 1)) = code ++ [opIn 1 ((code.length : Int) + 1) (-1)] := by
    have := modL_at code (opIn 1 (-1) (-1)) [] (fun x => setX x ((code.length : Int) + 1))
    rw [this]; rfl
  rw [hm2] at hM2
  have f2 := f1.setC q (code.length * 7 + 1) (.int .i64 ((code.length : Int) + 1)) (fun _ => qd)
  have hx2 := hx0.frame f2 (fun h => h.2 rfl)
  have x1 := hx2.cell (o := 1) (by omega)
  have x2 := hx2.cell (o := 2) (by omega)
  simp only [ndCell] at x1 x2
  go_wp2_with fail
  refine (pushB_any 1 code.length B hM2 (by simp; omega) (fun b hb => hD0 b (by have := f2.size; simp only [World.size_alloc] at *; omega))).mono ?_
  rintro v w3 ⟨rfl, hM3, f3'⟩
  have f3 := (f2.trans f3' (fun _ _ h => h))
  have hx3 := hx0.frame f3 (fun h => h.2 rfl)
  have y1 := hx3.cell (o := 1) (by omega)
  simp only [ndCell] at y1
  go_wp2_with fail
  refine (pushB_any 0 A 0 hM3 (by simp; omega) (fun b hb => hD0 b (by have := f3.size; simp only [World.size_alloc] at *; omega))).mono ?_
  rintro v w4 ⟨rfl, hM4, f4'⟩
  have f4 := (f3.trans f4' (fun _ _ h => h))
  have hx4 := hx0.frame f4 (fun h => h.2 rfl)
  go_wp2_with fail
  go_end0
  refine ⟨rfl, ?_⟩
  have hf := hM4.dom (D' := D) (fun _ _ h => h.1)
  refine ⟨?_, G0.trans (f4.mono (fun _ _ h => h.1)) (fun _ _ h => h)⟩
  simpa using hf
set_option maxRecDepth 100000 in
set_option maxHeartbeats 8000000 in
theorem nodeB_repg {D : Nat → Prop} {w : World} {r bk cp : Nat} {cl : List Nd} {code : List In} {T : List Wk} (hM : BMem D w r (.slice (some ⟨bk, 0, none⟩) cl.length cp) code T.reverse) (hD : ∀ b, w.heap.size ≤ b → D b) (hN : NPAt w bk cl) {n : Nat} (A : Nat) (cap : Int) (mn mx : Int) (st : BSet) (hget : cl[n]? = some ⟨6, ((A : Nat) : Int), -1, mn, mx, cap, false, st⟩)
    (hc : code.length ≤ 200) (ht : T.length ≤ 200) :
    Calls Tryz.prog 123 #[.pointer (some ⟨r, 0, none⟩), .int .i64 (n : Nat)] w fun v w' => v = .returned (.tuple #[]) ∧ BMem D w' r (.slice (some ⟨bk, 0, none⟩) cl.length cp) (nodeP cl n code T).1 (nodeP cl n code T).2.reverse ∧ Fr D w w' := by
  obtain ⟨c0, hrl, _⟩ := hM.c0
  obtain ⟨hn, hnd⟩ := getE hget
  have n0 := hN n hn 0 (by omega)
  have n1 := hN n hn 1 (by omega)
  have n2 := hN n hn 2 (by omega)
  have n3 := hN n hn 3 (by omega)
  have n4 := hN n hn 4 (by omega)
  have n5 := hN n hn 5 (by omega)
  have n6 := hN n hn 6 (by omega)
  have n7 := hN n hn 7 (by omega)
  have n8 := hN n hn 8 (by omega)
  have n9 := hN n hn 9 (by omega)
  have n10 := hN n hn 10 (by omega)
  rw [hnd] at n0 n1 n2 n3 n4 n5 n6 n7 n8 n9 n10
  simp only [ndCell, Nat.add_zero] at n0 n1 n2 n3 n4 n5 n6 n7 n8 n9 n10
  have hk24 : (n : Int) < cl.length := by omega
  have hP : nodeP cl n code T = nodeP cl n code T := rfl
  conv at hP => rhs; unfold nodeP; rw [hget]
  clear hn hget hnd
  have F0 := (Fr.refl (fun _ => False) w).alloc (.cells #[.int .i64 6, .int .i64 (((A : Nat) : Int)), .int .i64 (-1), .int .i64 mn, .int .i64 mx, .int .i64 (cap), .bool false, .int .u64 (wd st 0 : Nat), .int .u64 (wd st 1 : Nat), .int .u64 (wd st 2 : Nat), .int .u64 (wd st 3 : Nat)] 97)
  have hM0 := (hM.dom (D' := fun b => D b ∧ b ≠ w.heap.size) (fun b hb h => ⟨h, by omega⟩)).frame F0 (fun _ _ h => h)
  have G0 : Fr D w _ := F0.mono (fun _ _ h => h.elim)
  have hD0 : ∀ b, w.heap.size + 1 ≤ b → D b ∧ b ≠ w.heap.size := fun b hb => ⟨hD b (by omega), by omega⟩
  have hx0 := Blk.nd w ⟨6, ((A : Nat) : Int), -1, mn, mx, cap, false, st⟩
  rw [hP]
  clear hP
  go_enter Tryz.func123, Tryz.ntmps123
  go_wp2_with fail
  refine (layB_any (opIn 1 (-1) (-1)) hM0 (by omega) (fun b hb => hD0 b (by simpa using hb))).mono ?_
  rintro v w1 ⟨rfl, hM1, f1⟩
  have hl1 : (code ++ [opIn 1 (-1) (-1)]).length = code.length + 1 := by simp
  obtain ⟨q, qc, q1, qd, qr, ql, qz, qx, qcap, mx1, my1⟩ := hM1.at code.length (by simp)
  rw [hl1] at q1
  have q1v := qx 1 (by omega)
  have q2v := qx 2 (by omega)
  simp only [List.getElem_append_right (Nat.le_refl _), Nat.sub_self, List.getElem_cons_zero, inCell, opIn] at q1v q2v
  have hlq : (code.length : Int) < ((code.length + 1 : Nat) : Int) := by omega
  have x6 := (hx0.frame f1 (fun h => h.2 rfl)).cell (o := 6) (by omega)
  simp only [ndCell] at x6
  have hM2 := mx1 ((code.length : Int) + 1)
  have hm2 : modL (code ++ [opIn 1 (-1) (-1)]) code.length (fun x => setX x ((code.length : Int) + 1)) = code ++ [opIn 1 ((code.length : Int) + 1) (-1)] := by
    have := modL_at code (opIn 1 (-1) (-1)) [] (fun x => setX x ((code.length : Int) + 1))
    rw [this]; rfl
  rw [hm2] at hM2
  have f2 := f1.setC q (code.length * 7 + 1) (.int .i64 ((code.length : Int) + 1)) (fun _ => qd)
  have hx2 := hx0.frame f2 (fun h => h.2 rfl)
  have x1 := hx2.cell (o := 1) (by omega)
  have x2 := hx2.cell (o := 2) (by omega)
  simp only [ndCell] at x1 x2
  go_wp2_with fail
  refine (pushB_any 3 code.length 0 hM2 (by simp; omega) (fun b hb => hD0 b (by have := f2.size; simp only [World.size_alloc] at *; omega))).mono ?_
  rintro v w3 ⟨rfl, hM3, f3'⟩
  have f3 := (f2.trans f3' (fun _ _ h => h))
  have hx3 := hx0.frame f3 (fun h => h.2 rfl)
  have y1 := hx3.cell (o := 1) (by omega)
  simp only [ndCell] at y1
  go_wp2_with fail
  refine (pushB_any 0 A 0 hM3 (by simp; omega) (fun b hb => hD0 b (by have := f3.size; simp only [World.size_alloc] at *; omega))).mono ?_
  rintro v w4 ⟨rfl, hM4, f4'⟩
  have f4 := (f3.trans f4' (fun _ _ h => h))
  have hx4 := hx0.frame f4 (fun h => h.2 rfl)
  go_wp2_with fail
  go_end0
  refine ⟨rfl, ?_⟩
  have hf := hM4.dom (D' := D) (fun _ _ h => h.1)
  refine ⟨?_, G0.trans (f4.mono (fun _ _ h => h.1)) (fun _ _ h => h)⟩
  simpa using hf
set_option maxRecDepth 100000 in
set_option maxHeartbeats 8000000 in
theorem nodeB_repl {D : Nat → Prop} {w : World} {r bk cp : Nat} {cl : List Nd} {code : List In} {T : List Wk} (hM : BMem D w r (.slice (some ⟨bk, 0, none⟩) cl.length cp) code T.reverse) (hD : ∀ b, w.heap.size ≤ b → D b) (hN : NPAt w bk cl) {n : Nat} (A : Nat) (cap : Int) (mn mx : Int) (st : BSet) (hget : cl[n]? = some ⟨6, ((A : Nat) : Int), -1, mn, mx, cap, true, st⟩)
    (hc : code.length ≤ 200) (ht : T.length ≤ 200) :
    Calls Tryz.prog 123 #[.pointer (some ⟨r, 0, none⟩), .int .i64 (n : Nat)] w fun v w' => v = .returned (.tuple #[]) ∧ BMem D w' r (.slice (some ⟨bk, 0, none⟩) cl.length cp) (nodeP cl n code T).1 (nodeP cl n code T).2.reverse ∧ Fr D w w' := by
  obtain ⟨c0, hrl, _⟩ := hM.c0
  obtain ⟨hn, hnd⟩ := getE hget
  have n0 := hN n hn 0 (by omega)
  have n1 := hN n hn 1 (by omega)
  have n2 := hN n hn 2 (by omega)
  have n3 := hN n hn 3 (by omega)
  have n4 := hN n hn 4 (by omega)
  have n5 := hN n hn 5 (by omega)
  have n6 := hN n hn 6 (by omega)
  have n7 := hN n hn 7 (by omega)
  have n8 := hN n hn 8 (by omega)
  have n9 := hN n hn 9 (by omega)
  have n10 := hN n hn 10 (by omega)
  rw [hnd] at n0 n1 n2 n3 n4 n5 n6 n7 n8 n9 n10
  simp only [ndCell, Nat.add_zero] at n0 n1 n2 n3 n4 n5 n6 n7 n8 n9 n10
  have hk24 : (n : Int) < cl.length := by omega
  have hP : nodeP cl n code T = nodeP cl n code T := rfl
  conv at hP => rhs; unfold nodeP; rw [hget]
  clear hn hget hnd
  have F0 := (Fr.refl (fun _ => False) w).alloc (.cells #[.int .i64 6, .int .i64 (((A : Nat) : Int)), .int .i64 (-1), .int .i64 mn, .int .i64 mx, .int .i64 (cap), .bool true, .int .u64 (wd st 0 : Nat), .int .u64 (wd st 1 : Nat), .int .u64 (wd st 2 : Nat), .int .u64 (wd st 3 : Nat)] 97)
  have hM0 := (hM.dom (D' := fun b => D b ∧ b ≠ w.heap.size) (fun b hb h => ⟨h, by omega⟩)).frame F0 (fun _ _ h => h)
  have G0 : Fr D w _ := F0.mono (fun _ _ h => h.elim)
  have hD0 : ∀ b, w.heap.size + 1 ≤ b → D b ∧ b ≠ w.heap.size := fun b hb => ⟨hD b (by omega), by omega⟩
  have hx0 := Blk.nd w ⟨6, ((A : Nat) : Int), -1, mn, mx, cap, true, st⟩
  rw [hP]
  clear hP
  go_enter Tryz.func123, Tryz.ntmps123
  go_wp2_with fail
  refine (layB_any (opIn 1 (-1) (-1)) hM0 (by omega) (fun b hb => hD0 b (by simpa using hb))).mono ?_
  rintro v w1 ⟨rfl, hM1, f1⟩
  have hl1 : (code ++ [opIn 1 (-1) (-1)]).length = code.length + 1 := by simp
  obtain ⟨q, qc, q1, qd, qr, ql, qz, qx, qcap, mx1, my1⟩ := hM1.at code.length (by simp)
  rw [hl1] at q1
  have q1v := qx 1 (by omega)
  have q2v := qx 2 (by omega)
  simp only [List.getElem_append_right (Nat.le_refl _), Nat.sub_self, List.getElem_cons_zero, inCell, opIn] at q1v q2v
  have hlq : (code.length : Int) < ((code.length + 1 : Nat) : Int) := by omega
  have x6 := (hx0.frame f1 (fun h => h.2 rfl)).cell (o := 6) (by omega)
  simp only [ndCell] at x6
  have hM2 := my1 ((code.length : Int) + 1)
  have hm2 : modL (code ++ [opIn 1 (-1) (-1)]) code.length (fun x => setY x ((code.length : Int) + 1)) = code ++ [opIn 1 (-1) ((code.length : Int) + 1)] := by
    have := modL_at code (opIn 1 (-1) (-1)) [] (fun x => setY x ((code.length : Int) + 1))
    rw [this]; rfl
  rw [hm2] at hM2
  have f2 := f1.setC q (code.length * 7 + 2) (.int .i64 ((code.length : Int) + 1)) (fun _ => qd)
  have hx2 := hx0.frame f2 (fun h => h.2 rfl)
  have x1 := hx2.cell (o := 1) (by omega)
  have x2 := hx2.cell (o := 2) (by omega)
  simp only [ndCell] at x1 x2
  go_wp2_with fail
  refine (pushB_any 3 code.length 1 hM2 (by simp; omega) (fun b hb => hD0 b (by have := f2.size; simp only [World.size_alloc] at *; omega))).mono ?_
  rintro v w3 ⟨rfl, hM3, f3'⟩
  have f3 := (f2.trans f3' (fun _ _ h => h))
  have hx3 := hx0.frame f3 (fun h => h.2 rfl)
  have y1 := hx3.cell (o := 1) (by omega)
  simp only [ndCell] at y1
  go_wp2_with fail
  refine (pushB_any 0 A 0 hM3 (by simp; omega) (fun b hb => hD0 b (by have := f3.size; simp only [World.size_alloc] at *; omega))).mono ?_
  rintro v w4 ⟨rfl, hM4, f4'⟩
  have f4 := (f3.trans f4' (fun _ _ h => h))
  have hx4 := hx0.frame f4 (fun h => h.2 rfl)
  go_wp2_with fail
  go_end0
  refine ⟨rfl, ?_⟩
  have hf := hM4.dom (D' := D) (fun _ _ h => h.1)
  refine ⟨?_, G0.trans (f4.mono (fun _ _ h => h.1)) (fun _ _ h => h)⟩
  simpa using hf
end Go.Proofs.Qxb6500283aGreat
