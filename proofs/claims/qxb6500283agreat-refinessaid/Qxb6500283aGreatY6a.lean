/- node: the leaves. -/
import Derived.Test.Qxb6500283aGreatY5
import Derived.Test.Qxb6500283aGreatT9
namespace Go.Proofs.Qxb6500283aGreat
open Go Go.RowKit

set_option maxRecDepth 100000 in
set_option maxHeartbeats 8000000 in
theorem nodeB_emp {D : Nat → Prop} {w : World} {r bk cp : Nat} {cl : List Nd} {code : List In} {T : List Wk} (hM : BMem D w r (.slice (some ⟨bk, 0, none⟩) cl.length cp) code T.reverse) (hN : NPAt w bk cl) {n : Nat} (cap : Int) (mn mx : Int) (lz : Bool) (st : BSet) (hget : cl[n]? = some ⟨0, -1, -1, mn, mx, cap, lz, st⟩)
      :
    Calls Tryz.prog 123 #[.pointer (some ⟨r, 0, none⟩), .int .i64 (n : Nat)] w fun v w' => v = .returned (.tuple #[]) ∧ BMem D w' r (.slice (some ⟨bk, 0, none⟩) cl.length cp) (nodeP cl n code T).1 (nodeP cl n code T).2.reverse ∧ Fr D w w' := by
  obtain ⟨c0, hrl, _⟩ := hM.c0
  obtain ⟨hn, hnd⟩ := getE hget
  have n0 := hN n hn 0 (by omega)
  have n1 := hN n hn 1 (by omega)
  have n2 := hN n hn 2 (by omega)
  have n3 := hN n hn 3 (by omega)
  have n4 := hN n hn 4 (by omega)
  have n5 := hN n hn 5 (by omega)
  have n6 := hN n hn 6 (by omega)
  have n7 := hN n hn 7 (by omega)
  have n8 := hN n hn 8 (by omega)
  have n9 := hN n hn 9 (by omega)
  have n10 := hN n hn 10 (by omega)
  rw [hnd] at n0 n1 n2 n3 n4 n5 n6 n7 n8 n9 n10
  simp only [ndCell, Nat.add_zero] at n0 n1 n2 n3 n4 n5 n6 n7 n8 n9 n10
  have hk24 : (n : Int) < cl.length := by omega
  have hP : nodeP cl n code T = nodeP cl n code T := rfl
  conv at hP => rhs; unfold nodeP; rw [hget]
  clear hn hget hnd
  have F0 := (Fr.refl (fun _ => False) w).alloc (.cells #[.int .i64 0, .int .i64 (-1), .int .i64 (-1), .int .i64 mn, .int .i64 mx, .int .i64 (cap), .bool lz, .int .u64 (wd st 0 : Nat), .int .u64 (wd st 1 : Nat), .int .u64 (wd st 2 : Nat), .int .u64 (wd st 3 : Nat)] 97)
  have hM0 := (hM.dom (D' := fun b => D b ∧ b ≠ w.heap.size) (fun b hb h => ⟨h, by omega⟩)).frame F0 (fun _ _ h => h)
  have G0 : Fr D w _ := F0.mono (fun _ _ h => h.elim)
  have _ := Blk.nd w ⟨0, -1, -1, mn, mx, cap, lz, st⟩
  rw [hP]
  clear hP
  go_enter Tryz.func123, Tryz.ntmps123
  go_wp2_with fail
  go_end0
  exact ⟨rfl, hM0.dom (fun _ _ h => h.1), G0⟩
set_option maxRecDepth 100000 in
set_option maxHeartbeats 8000000 in
theorem nodeB_set {D : Nat → Prop} {w : World} {r bk cp : Nat} {cl : List Nd} {code : List In} {T : List Wk} (hM : BMem D w r (.slice (some ⟨bk, 0, none⟩) cl.length cp) code T.reverse) (hD : ∀ b, w.heap.size ≤ b → D b) (hN : NPAt w bk cl) {n : Nat} (cap : Int) (mn mx : Int) (lz : Bool) (st : BSet) (hget : cl[n]? = some ⟨1, -1, -1, mn, mx, cap, lz, st⟩)
    (hc : code.length ≤ 200)  :
    Calls Tryz.prog 123 #[.pointer (some ⟨r, 0, none⟩), .int .i64 (n : Nat)] w fun v w' => v = .returned (.tuple #[]) ∧ BMem D w' r (.slice (some ⟨bk, 0, none⟩) cl.length cp) (nodeP cl n code T).1 (nodeP cl n code T).2.reverse ∧ Fr D w w' := by
  obtain ⟨c0, hrl, _⟩ := hM.c0
  obtain ⟨hn, hnd⟩ := getE hget
  have n0 := hN n hn 0 (by omega)
  have n1 := hN n hn 1 (by omega)
  have n2 := hN n hn 2 (by omega)
  have n3 := hN n hn 3 (by omega)
  have n4 := hN n hn 4 (by omega)
  have n5 := hN n hn 5 (by omega)
  have n6 := hN n hn 6 (by omega)
  have n7 := hN n hn 7 (by omega)
  have n8 := hN n hn 8 (by omega)
  have n9 := hN n hn 9 (by omega)
  have n10 := hN n hn 10 (by omega)
  rw [hnd] at n0 n1 n2 n3 n4 n5 n6 n7 n8 n9 n10
  simp only [ndCell, Nat.add_zero] at n0 n1 n2 n3 n4 n5 n6 n7 n8 n9 n10
  have hk24 : (n : Int) < cl.length := by omega
  have hP : nodeP cl n code T = nodeP cl n code T := rfl
  conv at hP => rhs; unfold nodeP; rw [hget]
  clear hn hget hnd
  have F0 := (Fr.refl (fun _ => False) w).alloc (.cells #[.int .i64 1, .int .i64 (-1), .int .i64 (-1), .int .i64 mn, .int .i64 mx, .int .i64 (cap), .bool lz, .int .u64 (wd st 0 : Nat), .int .u64 (wd st 1 : Nat), .int .u64 (wd st 2 : Nat), .int .u64 (wd st 3 : Nat)] 97)
  have hM0 := (hM.dom (D' := fun b => D b ∧ b ≠ w.heap.size) (fun b hb h => ⟨h, by omega⟩)).frame F0 (fun _ _ h => h)
  have G0 : Fr D w _ := F0.mono (fun _ _ h => h.elim)
  have hD0 : ∀ b, w.heap.size + 1 ≤ b → D b ∧ b ≠ w.heap.size := fun b hb => ⟨hD b (by omega), by omega⟩
  have _ := Blk.nd w ⟨1, -1, -1, mn, mx, cap, lz, st⟩
  rw [hP]
  clear hP
  go_enter Tryz.func123, Tryz.ntmps123
  go_wp2_with fail
  refine (layB_any (chIn st) hM0 (by omega) (fun b hb => hD0 b (by simpa using hb))).mono ?_
  rintro v w1 ⟨rfl, hM1, f1⟩
  go_wp2_with fail
  go_end0
  exact ⟨rfl, ⟨hM1.dom (fun _ _ h => h.1), G0.trans (f1.mono (fun _ _ h => h.1)) (fun _ _ h => h)⟩⟩
set_option maxRecDepth 100000 in
set_option maxHeartbeats 8000000 in
theorem nodeB_bol {D : Nat → Prop} {w : World} {r bk cp : Nat} {cl : List Nd} {code : List In} {T : List Wk} (hM : BMem D w r (.slice (some ⟨bk, 0, none⟩) cl.length cp) code T.reverse) (hD : ∀ b, w.heap.size ≤ b → D b) (hN : NPAt w bk cl) {n : Nat} (cap : Int) (mn mx : Int) (lz : Bool) (st : BSet) (hget : cl[n]? = some ⟨2, -1, -1, mn, mx, cap, lz, st⟩)
    (hc : code.length ≤ 200)  :
    Calls Tryz.prog 123 #[.pointer (some ⟨r, 0, none⟩), .int .i64 (n : Nat)] w fun v w' => v = .returned (.tuple #[]) ∧ BMem D w' r (.slice (some ⟨bk, 0, none⟩) cl.length cp) (nodeP cl n code T).1 (nodeP cl n code T).2.reverse ∧ Fr D w w' := by
  obtain ⟨c0, hrl, _⟩ := hM.c0
  obtain ⟨hn, hnd⟩ := getE hget
  have n0 := hN n hn 0 (by omega)
  have n1 := hN n hn 1 (by omega)
  have n2 := hN n hn 2 (by omega)
  have n3 := hN n hn 3 (by omega)
  have n4 := hN n hn 4 (by omega)
  have n5 := hN n hn 5 (by omega)
  have n6 := hN n hn 6 (by omega)
  have n7 := hN n hn 7 (by omega)
  have n8 := hN n hn 8 (by omega)
  have n9 := hN n hn 9 (by omega)
  have n10 := hN n hn 10 (by omega)
  rw [hnd] at n0 n1 n2 n3 n4 n5 n6 n7 n8 n9 n10
  simp only [ndCell, Nat.add_zero] at n0 n1 n2 n3 n4 n5 n6 n7 n8 n9 n10
  have hk24 : (n : Int) < cl.length := by omega
  have hP : nodeP cl n code T = nodeP cl n code T := rfl
  conv at hP => rhs; unfold nodeP; rw [hget]
  clear hn hget hnd
  have F0 := (Fr.refl (fun _ => False) w).alloc (.cells #[.int .i64 2, .int .i64 (-1), .int .i64 (-1), .int .i64 mn, .int .i64 mx, .int .i64 (cap), .bool lz, .int .u64 (wd st 0 : Nat), .int .u64 (wd st 1 : Nat), .int .u64 (wd st 2 : Nat), .int .u64 (wd st 3 : Nat)] 97)
  have hM0 := (hM.dom (D' := fun b => D b ∧ b ≠ w.heap.size) (fun b hb h => ⟨h, by omega⟩)).frame F0 (fun _ _ h => h)
  have G0 : Fr D w _ := F0.mono (fun _ _ h => h.elim)
  have hD0 : ∀ b, w.heap.size + 1 ≤ b → D b ∧ b ≠ w.heap.size := fun b hb => ⟨hD b (by omega), by omega⟩
  have _ := Blk.nd w ⟨2, -1, -1, mn, mx, cap, lz, st⟩
  rw [hP]
  clear hP
  go_enter Tryz.func123, Tryz.ntmps123
  go_wp2_with fail
  refine (layB_any (opIn 4 0 0) hM0 (by omega) (fun b hb => hD0 b (by simpa using hb))).mono ?_
  rintro v w1 ⟨rfl, hM1, f1⟩
  go_wp2_with fail
  go_end0
  exact ⟨rfl, ⟨hM1.dom (fun _ _ h => h.1), G0.trans (f1.mono (fun _ _ h => h.1)) (fun _ _ h => h)⟩⟩
set_option maxRecDepth 100000 in
set_option maxHeartbeats 8000000 in
theorem nodeB_eol {D : Nat → Prop} {w : World} {r bk cp : Nat} {cl : List Nd} {code : List In} {T : List Wk} (hM : BMem D w r (.slice (some ⟨bk, 0, none⟩) cl.length cp) code T.reverse) (hD : ∀ b, w.heap.size ≤ b → D b) (hN : NPAt w bk cl) {n : Nat} (cap : Int) (mn mx : Int) (lz : Bool) (st : BSet) (hget : cl[n]? = some ⟨3, -1, -1, mn, mx, cap, lz, st⟩)
    (hc : code.length ≤ 200)  :
    Calls Tryz.prog 123 #[.pointer (some ⟨r, 0, none⟩), .int .i64 (n : Nat)] w fun v w' => v = .returned (.tuple #[]) ∧ BMem D w' r (.slice (some ⟨bk, 0, none⟩) cl.length cp) (nodeP cl n code T).1 (nodeP cl n code T).2.reverse ∧ Fr D w w' := by
  obtain ⟨c0, hrl, _⟩ := hM.c0
  obtain ⟨hn, hnd⟩ := getE hget
  have n0 := hN n hn 0 (by omega)
  have n1 := hN n hn 1 (by omega)
  have n2 := hN n hn 2 (by omega)
  have n3 := hN n hn 3 (by omega)
  have n4 := hN n hn 4 (by omega)
  have n5 := hN n hn 5 (by omega)
  have n6 := hN n hn 6 (by omega)
  have n7 := hN n hn 7 (by omega)
  have n8 := hN n hn 8 (by omega)
  have n9 := hN n hn 9 (by omega)
  have n10 := hN n hn 10 (by omega)
  rw [hnd] at n0 n1 n2 n3 n4 n5 n6 n7 n8 n9 n10
  simp only [ndCell, Nat.add_zero] at n0 n1 n2 n3 n4 n5 n6 n7 n8 n9 n10
  have hk24 : (n : Int) < cl.length := by omega
  have hP : nodeP cl n code T = nodeP cl n code T := rfl
  conv at hP => rhs; unfold nodeP; rw [hget]
  clear hn hget hnd
  have F0 := (Fr.refl (fun _ => False) w).alloc (.cells #[.int .i64 3, .int .i64 (-1), .int .i64 (-1), .int .i64 mn, .int .i64 mx, .int .i64 (cap), .bool lz, .int .u64 (wd st 0 : Nat), .int .u64 (wd st 1 : Nat), .int .u64 (wd st 2 : Nat), .int .u64 (wd st 3 : Nat)] 97)
  have hM0 := (hM.dom (D' := fun b => D b ∧ b ≠ w.heap.size) (fun b hb h => ⟨h, by omega⟩)).frame F0 (fun _ _ h => h)
  have G0 : Fr D w _ := F0.mono (fun _ _ h => h.elim)
  have hD0 : ∀ b, w.heap.size + 1 ≤ b → D b ∧ b ≠ w.heap.size := fun b hb => ⟨hD b (by omega), by omega⟩
  have _ := Blk.nd w ⟨3, -1, -1, mn, mx, cap, lz, st⟩
  rw [hP]
  clear hP
  go_enter Tryz.func123, Tryz.ntmps123
  go_wp2_with fail
  refine (layB_any (opIn 5 0 0) hM0 (by omega) (fun b hb => hD0 b (by simpa using hb))).mono ?_
  rintro v w1 ⟨rfl, hM1, f1⟩
  go_wp2_with fail
  go_end0
  exact ⟨rfl, ⟨hM1.dom (fun _ _ h => h.1), G0.trans (f1.mono (fun _ _ h => h.1)) (fun _ _ h => h)⟩⟩
end Go.Proofs.Qxb6500283aGreat
