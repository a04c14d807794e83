/- step. -/
import Derived.Test.Qxb6500283aGreatY7
namespace Go.Proofs.Qxb6500283aGreat
open Go Go.RowKit

set_option maxRecDepth 100000 in
set_option maxHeartbeats 8000000 in
theorem stepB_0 {D : Nat → Prop} {w : World} {r : Nat} {nv : Value} {cl : List Nd} {code : List In} {T : List Wk} (hM : BMem D w r nv code T.reverse) (hD : ∀ b, w.heap.size ≤ b → D b) {a b bk cp : Nat} (hnv : nv = .slice (some ⟨bk, 0, none⟩) cl.length cp) (hN : NPAt w bk cl) (hO : NdsOk cl) (hn : a < cl.length) (hc : code.length ≤ 200) (ht : T.length ≤ 200) :
    Calls Tryz.prog 88 #[.pointer (some ⟨r, 0, none⟩), .agg #[.int .i64 0, .int .i64 (((a : Nat) : Int)), .int .i64 (((b : Nat) : Int))]] w fun v w' => v = .returned (.tuple #[]) ∧ BMem D w' r nv (stepP cl ⟨0, a, b⟩ code T).1 (stepP cl ⟨0, a, b⟩ code T).2.reverse ∧ Fr D w w' := by
  obtain ⟨c0, hrl, _⟩ := hM.c0
  have F0 := (Fr.refl (fun _ => False) w).alloc (.cells #[.int .i64 0, .int .i64 (((a : Nat) : Int)), .int .i64 (((b : Nat) : Int))] 181)
  have hM0 := (hM.dom (D' := fun b => D b ∧ b ≠ w.heap.size) (fun b hb h => ⟨h, by omega⟩)).frame F0 (fun _ _ h => h)
  have G0 : Fr D w _ := F0.mono (fun _ _ h => h.elim)
  have hD0 : ∀ b, w.heap.size + 1 ≤ b → D b ∧ b ≠ w.heap.size := fun b hb => ⟨hD b (by omega), by omega⟩
  have _hx0 : Blk (w.alloc (.cells #[.int .i64 0, .int .i64 (((a : Nat) : Int)), .int .i64 (((b : Nat) : Int))] 181)) w.heap.size 3 (wkCell ⟨0, a, b⟩) := Blk.new w _ _ _ fun o ho => by
    have ho : o < 3 := by simpa using ho
    obtain rfl | rfl | rfl : o = 0 ∨ o = 1 ∨ o = 2 := by omega
    all_goals rfl
  subst hnv
  go_enter Tryz.func88, Tryz.ntmps88
  go_wp2_with fail
  refine (nodeB_any hM0 (fun b hb => hD0 b (by simpa using hb)) (hN.frame F0 (fun h => h)) hO hn hc ht).mono ?_
  rintro v w1 ⟨rfl, hM1, f1⟩
  go_wp2_with fail
  go_end0
  exact ⟨rfl, hM1.dom (fun _ _ h => h.1), G0.trans (f1.mono (fun _ _ h => h.1)) (fun _ _ h => h)⟩
set_option maxRecDepth 100000 in
set_option maxHeartbeats 8000000 in
theorem stepB_4 {D : Nat → Prop} {w : World} {r : Nat} {nv : Value} {cl : List Nd} {code : List In} {T : List Wk} (hM : BMem D w r nv code T.reverse) (hD : ∀ b, w.heap.size ≤ b → D b) {a b : Nat} (hc : code.length ≤ 200) :
    Calls Tryz.prog 88 #[.pointer (some ⟨r, 0, none⟩), .agg #[.int .i64 4, .int .i64 (((a : Nat) : Int)), .int .i64 (((b : Nat) : Int))]] w fun v w' => v = .returned (.tuple #[]) ∧ BMem D w' r nv (stepP cl ⟨4, a, b⟩ code T).1 (stepP cl ⟨4, a, b⟩ code T).2.reverse ∧ Fr D w w' := by
  obtain ⟨c0, hrl, _⟩ := hM.c0
  have F0 := (Fr.refl (fun _ => False) w).alloc (.cells #[.int .i64 4, .int .i64 (((a : Nat) : Int)), .int .i64 (((b : Nat) : Int))] 181)
  have hM0 := (hM.dom (D' := fun b => D b ∧ b ≠ w.heap.size) (fun b hb h => ⟨h, by omega⟩)).frame F0 (fun _ _ h => h)
  have G0 : Fr D w _ := F0.mono (fun _ _ h => h.elim)
  have hD0 : ∀ b, w.heap.size + 1 ≤ b → D b ∧ b ≠ w.heap.size := fun b hb => ⟨hD b (by omega), by omega⟩
  have _hx0 : Blk (w.alloc (.cells #[.int .i64 4, .int .i64 (((a : Nat) : Int)), .int .i64 (((b : Nat) : Int))] 181)) w.heap.size 3 (wkCell ⟨4, a, b⟩) := Blk.new w _ _ _ fun o ho => by
    have ho : o < 3 := by simpa using ho
    obtain rfl | rfl | rfl : o = 0 ∨ o = 1 ∨ o = 2 := by omega
    all_goals rfl
  go_enter Tryz.func88, Tryz.ntmps88
  go_wp2_with fail
  refine (layB_any (opIn 3 (a : Nat) 0) hM0 (by omega) (fun b hb => hD0 b (by simpa using hb))).mono ?_
  rintro v w1 ⟨rfl, hM1, f1⟩
  go_wp2_with fail
  go_end0
  refine ⟨rfl, ?_⟩
  have hf := hM1.dom (D' := D) (fun _ _ h => h.1)
  refine ⟨?_, G0.trans (f1.mono (fun _ _ h => h.1)) (fun _ _ h => h)⟩
  exact hf
end Go.Proofs.Qxb6500283aGreat
