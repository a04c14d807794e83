/- The engine's Match and Has: a text too long. -/
import Derived.Test.Qxb6500283aGreatZ3
import Derived.Test.Qxb6500283aGreatZ4
namespace Go.Proofs.Qxb6500283aGreat
open Go Go.RowKit

set_option maxRecDepth 100000 in
set_option maxHeartbeats 8000000 in
theorem matchE_long (p s : ByteArray) (h : 128 < p.size ∨ 256 < s.size) (e : Nat) (fr : Int) (w : World) :
    Calls Tryz.prog 43 #[.pointer (some ⟨e, 0, none⟩), .string p, .string s, .int .i64 fr] w fun v w' => v = .returned (foundV 12 0 false noC) ∧ Fr (fun _ => False) w w' := by
  have hp : (128 < (p.size : Int)) ∨ ((p.size : Int) ≤ 128 ∧ 256 < (s.size : Int)) := by omega
  clear h
  have hRc := Blk.z11 w
  have f2 := (Fr.refl (fun _ => False) w).alloc (.cells #[.int .i64 0, .int .i64 0, .bool false, .int .i64 0, .int .i64 0, .int .i64 0, .int .i64 0, .int .i64 0, .int .i64 0, .int .i64 0, .int .i64 0] 66)
  go_enter Tryz.func43, Tryz.ntmps43
  rcases hp with hp | ⟨hp, hs⟩
  · go_wp2_with fail
    refine (refusedF_any 12 0 _).mono ?_
    rintro v w3 ⟨rfl, f3⟩
    have hRc3 := hRc.frame f3 (fun h => h)
    have F3 := f2.trans f3 (fun _ _ h => h)
    have m0 := hRc3.cell (o := 0) (by omega)
    have m1 := hRc3.cell (o := 1) (by omega)
    have m2 := hRc3.cell (o := 2) (by omega)
    have m3 := hRc3.cell (o := 3) (by omega)
    have m4 := hRc3.cell (o := 4) (by omega)
    have m5 := hRc3.cell (o := 5) (by omega)
    have m6 := hRc3.cell (o := 6) (by omega)
    have m7 := hRc3.cell (o := 7) (by omega)
    have m8 := hRc3.cell (o := 8) (by omega)
    have m9 := hRc3.cell (o := 9) (by omega)
    have m10 := hRc3.cell (o := 10) (by omega)
    have zR := hRc3.frozen
    have lR := hRc3.lt
    rw [foundV_no]
    go_wp2_with fail
    have e11 := cells11 hRc3 (.int .i64 12) (.int .i64 0) (.bool false) (.int .i64 (-1)) (.int .i64 (-1)) (.int .i64 (-1)) (.int .i64 (-1)) (.int .i64 (-1)) (.int .i64 (-1)) (.int .i64 (-1)) (.int .i64 (-1))
    have FF := F3.trans (fr11 w3 w.heap.size (.int .i64 12) (.int .i64 0) (.bool false) (.int .i64 (-1)) (.int .i64 (-1)) (.int .i64 (-1)) (.int .i64 (-1)) (.int .i64 (-1)) (.int .i64 (-1)) (.int .i64 (-1)) (.int .i64 (-1))) (fun b hb h => by omega)
    have r0 := e11.cell (o := 0) (by omega)
    have r1 := e11.cell (o := 1) (by omega)
    have r2 := e11.cell (o := 2) (by omega)
    have r3 := e11.cell (o := 3) (by omega)
    have r4 := e11.cell (o := 4) (by omega)
    have r5 := e11.cell (o := 5) (by omega)
    have r6 := e11.cell (o := 6) (by omega)
    have r7 := e11.cell (o := 7) (by omega)
    have r8 := e11.cell (o := 8) (by omega)
    have r9 := e11.cell (o := 9) (by omega)
    have r10 := e11.cell (o := 10) (by omega)
    simp only [get11] at r0 r1 r2 r3 r4 r5 r6 r7 r8 r9 r10
    exact bodyPost_ret (v := foundV 12 0 false noC) (by simp [results, Tryz.results43, go_sem, foundV, noC, r0, r1, r2, r3, r4, r5, r6, r7, r8, r9, r10]) rfl ⟨rfl, FF⟩
  · go_wp2_with fail
    refine (refusedF_any 12 0 _).mono ?_
    rintro v w3 ⟨rfl, f3⟩
    have hRc3 := hRc.frame f3 (fun h => h)
    have F3 := f2.trans f3 (fun _ _ h => h)
    have m0 := hRc3.cell (o := 0) (by omega)
    have m1 := hRc3.cell (o := 1) (by omega)
    have m2 := hRc3.cell (o := 2) (by omega)
    have m3 := hRc3.cell (o := 3) (by omega)
    have m4 := hRc3.cell (o := 4) (by omega)
    have m5 := hRc3.cell (o := 5) (by omega)
    have m6 := hRc3.cell (o := 6) (by omega)
    have m7 := hRc3.cell (o := 7) (by omega)
    have m8 := hRc3.cell (o := 8) (by omega)
    have m9 := hRc3.cell (o := 9) (by omega)
    have m10 := hRc3.cell (o := 10) (by omega)
    have zR := hRc3.frozen
    have lR := hRc3.lt
    rw [foundV_no]
    go_wp2_with fail
    have e11 := cells11 hRc3 (.int .i64 12) (.int .i64 0) (.bool false) (.int .i64 (-1)) (.int .i64 (-1)) (.int .i64 (-1)) (.int .i64 (-1)) (.int .i64 (-1)) (.int .i64 (-1)) (.int .i64 (-1)) (.int .i64 (-1))
    have FF := F3.trans (fr11 w3 w.heap.size (.int .i64 12) (.int .i64 0) (.bool false) (.int .i64 (-1)) (.int .i64 (-1)) (.int .i64 (-1)) (.int .i64 (-1)) (.int .i64 (-1)) (.int .i64 (-1)) (.int .i64 (-1)) (.int .i64 (-1))) (fun b hb h => by omega)
    have r0 := e11.cell (o := 0) (by omega)
    have r1 := e11.cell (o := 1) (by omega)
    have r2 := e11.cell (o := 2) (by omega)
    have r3 := e11.cell (o := 3) (by omega)
    have r4 := e11.cell (o := 4) (by omega)
    have r5 := e11.cell (o := 5) (by omega)
    have r6 := e11.cell (o := 6) (by omega)
    have r7 := e11.cell (o := 7) (by omega)
    have r8 := e11.cell (o := 8) (by omega)
    have r9 := e11.cell (o := 9) (by omega)
    have r10 := e11.cell (o := 10) (by omega)
    simp only [get11] at r0 r1 r2 r3 r4 r5 r6 r7 r8 r9 r10
    exact bodyPost_ret (v := foundV 12 0 false noC) (by simp [results, Tryz.results43, go_sem, foundV, noC, r0, r1, r2, r3, r4, r5, r6, r7, r8, r9, r10]) rfl ⟨rfl, FF⟩
set_option maxRecDepth 100000 in
set_option maxHeartbeats 8000000 in
theorem hasE_long (p s : ByteArray) (h : 128 < p.size ∨ 256 < s.size) (e : Nat) (fr : Int) (w : World) :
    Calls Tryz.prog 57 #[.pointer (some ⟨e, 0, none⟩), .string p, .string s, .int .i64 fr] w fun v w' => v = .returned (foundV 12 0 false noC) ∧ Fr (fun _ => False) w w' := by
  have hp : (128 < (p.size : Int)) ∨ ((p.size : Int) ≤ 128 ∧ 256 < (s.size : Int)) := by omega
  clear h
  have hRc := Blk.z11 w
  have f2 := (Fr.refl (fun _ => False) w).alloc (.cells #[.int .i64 0, .int .i64 0, .bool false, .int .i64 0, .int .i64 0, .int .i64 0, .int .i64 0, .int .i64 0, .int .i64 0, .int .i64 0, .int .i64 0] 66)
  go_enter Tryz.func57, Tryz.ntmps57
  rcases hp with hp | ⟨hp, hs⟩
  · go_wp2_with fail
    refine (refusedF_any 12 0 _).mono ?_
    rintro v w3 ⟨rfl, f3⟩
    have hRc3 := hRc.frame f3 (fun h => h)
    have F3 := f2.trans f3 (fun _ _ h => h)
    have m0 := hRc3.cell (o := 0) (by omega)
    have m1 := hRc3.cell (o := 1) (by omega)
    have m2 := hRc3.cell (o := 2) (by omega)
    have m3 := hRc3.cell (o := 3) (by omega)
    have m4 := hRc3.cell (o := 4) (by omega)
    have m5 := hRc3.cell (o := 5) (by omega)
    have m6 := hRc3.cell (o := 6) (by omega)
    have m7 := hRc3.cell (o := 7) (by omega)
    have m8 := hRc3.cell (o := 8) (by omega)
    have m9 := hRc3.cell (o := 9) (by omega)
    have m10 := hRc3.cell (o := 10) (by omega)
    have zR := hRc3.frozen
    have lR := hRc3.lt
    rw [foundV_no]
    go_wp2_with fail
    have e11 := cells11 hRc3 (.int .i64 12) (.int .i64 0) (.bool false) (.int .i64 (-1)) (.int .i64 (-1)) (.int .i64 (-1)) (.int .i64 (-1)) (.int .i64 (-1)) (.int .i64 (-1)) (.int .i64 (-1)) (.int .i64 (-1))
    have FF := F3.trans (fr11 w3 w.heap.size (.int .i64 12) (.int .i64 0) (.bool false) (.int .i64 (-1)) (.int .i64 (-1)) (.int .i64 (-1)) (.int .i64 (-1)) (.int .i64 (-1)) (.int .i64 (-1)) (.int .i64 (-1)) (.int .i64 (-1))) (fun b hb h => by omega)
    have r0 := e11.cell (o := 0) (by omega)
    have r1 := e11.cell (o := 1) (by omega)
    have r2 := e11.cell (o := 2) (by omega)
    have r3 := e11.cell (o := 3) (by omega)
    have r4 := e11.cell (o := 4) (by omega)
    have r5 := e11.cell (o := 5) (by omega)
    have r6 := e11.cell (o := 6) (by omega)
    have r7 := e11.cell (o := 7) (by omega)
    have r8 := e11.cell (o := 8) (by omega)
    have r9 := e11.cell (o := 9) (by omega)
    have r10 := e11.cell (o := 10) (by omega)
    simp only [get11] at r0 r1 r2 r3 r4 r5 r6 r7 r8 r9 r10
    exact bodyPost_ret (v := foundV 12 0 false noC) (by simp [results, Tryz.results57, go_sem, foundV, noC, r0, r1, r2, r3, r4, r5, r6, r7, r8, r9, r10]) rfl ⟨rfl, FF⟩
  · go_wp2_with fail
    refine (refusedF_any 12 0 _).mono ?_
    rintro v w3 ⟨rfl, f3⟩
    have hRc3 := hRc.frame f3 (fun h => h)
    have F3 := f2.trans f3 (fun _ _ h => h)
    have m0 := hRc3.cell (o := 0) (by omega)
    have m1 := hRc3.cell (o := 1) (by omega)
    have m2 := hRc3.cell (o := 2) (by omega)
    have m3 := hRc3.cell (o := 3) (by omega)
    have m4 := hRc3.cell (o := 4) (by omega)
    have m5 := hRc3.cell (o := 5) (by omega)
    have m6 := hRc3.cell (o := 6) (by omega)
    have m7 := hRc3.cell (o := 7) (by omega)
    have m8 := hRc3.cell (o := 8) (by omega)
    have m9 := hRc3.cell (o := 9) (by omega)
    have m10 := hRc3.cell (o := 10) (by omega)
    have zR := hRc3.frozen
    have lR := hRc3.lt
    rw [foundV_no]
    go_wp2_with fail
    have e11 := cells11 hRc3 (.int .i64 12) (.int .i64 0) (.bool false) (.int .i64 (-1)) (.int .i64 (-1)) (.int .i64 (-1)) (.int .i64 (-1)) (.int .i64 (-1)) (.int .i64 (-1)) (.int .i64 (-1)) (.int .i64 (-1))
    have FF := F3.trans (fr11 w3 w.heap.size (.int .i64 12) (.int .i64 0) (.bool false) (.int .i64 (-1)) (.int .i64 (-1)) (.int .i64 (-1)) (.int .i64 (-1)) (.int .i64 (-1)) (.int .i64 (-1)) (.int .i64 (-1)) (.int .i64 (-1))) (fun b hb h => by omega)
    have r0 := e11.cell (o := 0) (by omega)
    have r1 := e11.cell (o := 1) (by omega)
    have r2 := e11.cell (o := 2) (by omega)
    have r3 := e11.cell (o := 3) (by omega)
    have r4 := e11.cell (o := 4) (by omega)
    have r5 := e11.cell (o := 5) (by omega)
    have r6 := e11.cell (o := 6) (by omega)
    have r7 := e11.cell (o := 7) (by omega)
    have r8 := e11.cell (o := 8) (by omega)
    have r9 := e11.cell (o := 9) (by omega)
    have r10 := e11.cell (o := 10) (by omega)
    simp only [get11] at r0 r1 r2 r3 r4 r5 r6 r7 r8 r9 r10
    exact bodyPost_ret (v := foundV 12 0 false noC) (by simp [results, Tryz.results57, go_sem, foundV, noC, r0, r1, r2, r3, r4, r5, r6, r7, r8, r9, r10]) rfl ⟨rfl, FF⟩
end Go.Proofs.Qxb6500283aGreat
