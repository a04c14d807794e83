/- Leftmost. -/
import Derived.Test.Qxb6500283aGreatX7
namespace Go.Proofs.Qxb6500283aGreat
open Go Go.RowKit

theorem cells11 {w : World} {b : Nat} {f : Nat → Value} (h : Blk w b 11 f) (v0 v1 v2 v3 v4 v5 v6 v7 v8 v9 v10 : Value) : Blk (((((((((((w.setCell ⟨b, 0, none⟩ v0).setCell ⟨b, 1, none⟩ v1).setCell ⟨b, 2, none⟩ v2).setCell ⟨b, 3, none⟩ v3).setCell ⟨b, 4, none⟩ v4).setCell ⟨b, 5, none⟩ v5).setCell ⟨b, 6, none⟩ v6).setCell ⟨b, 7, none⟩ v7).setCell ⟨b, 8, none⟩ v8).setCell ⟨b, 9, none⟩ v9).setCell ⟨b, 10, none⟩ v10) b 11 (fun o => (#[v0, v1, v2, v3, v4, v5, v6, v7, v8, v9, v10] : Array Value).getD o undef) :=
  (((((((((((h.set 0 v0).set 1 v1).set 2 v2).set 3 v3).set 4 v4).set 5 v5).set 6 v6).set 7 v7).set 8 v8).set 9 v9).set 10 v10).congr fun o ho => by
    obtain rfl | rfl | rfl | rfl | rfl | rfl | rfl | rfl | rfl | rfl | rfl : o = 0 ∨ o = 1 ∨ o = 2 ∨ o = 3 ∨ o = 4 ∨ o = 5 ∨ o = 6 ∨ o = 7 ∨ o = 8 ∨ o = 9 ∨ o = 10 := by omega
    all_goals simp [upd]
theorem fr11 (w : World) (b : Nat) (v0 v1 v2 v3 v4 v5 v6 v7 v8 v9 v10 : Value) : Fr (fun c => c = b) w (((((((((((w.setCell ⟨b, 0, none⟩ v0).setCell ⟨b, 1, none⟩ v1).setCell ⟨b, 2, none⟩ v2).setCell ⟨b, 3, none⟩ v3).setCell ⟨b, 4, none⟩ v4).setCell ⟨b, 5, none⟩ v5).setCell ⟨b, 6, none⟩ v6).setCell ⟨b, 7, none⟩ v7).setCell ⟨b, 8, none⟩ v8).setCell ⟨b, 9, none⟩ v9).setCell ⟨b, 10, none⟩ v10) := ((((((((((((Fr.refl (fun c => c = b) w).setC b 0 v0 (fun _ => rfl)).setC b 1 v1 (fun _ => rfl)).setC b 2 v2 (fun _ => rfl)).setC b 3 v3 (fun _ => rfl)).setC b 4 v4 (fun _ => rfl)).setC b 5 v5 (fun _ => rfl)).setC b 6 v6 (fun _ => rfl)).setC b 7 v7 (fun _ => rfl)).setC b 8 v8 (fun _ => rfl)).setC b 9 v9 (fun _ => rfl)).setC b 10 v10 (fun _ => rfl))
theorem get11 (v0 v1 v2 v3 v4 v5 v6 v7 v8 v9 v10 : Value) : (#[v0, v1, v2, v3, v4, v5, v6, v7, v8, v9, v10] : Array Value).getD 0 undef = v0 ∧ (#[v0, v1, v2, v3, v4, v5, v6, v7, v8, v9, v10] : Array Value).getD 1 undef = v1 ∧ (#[v0, v1, v2, v3, v4, v5, v6, v7, v8, v9, v10] : Array Value).getD 2 undef = v2 ∧ (#[v0, v1, v2, v3, v4, v5, v6, v7, v8, v9, v10] : Array Value).getD 3 undef = v3 ∧ (#[v0, v1, v2, v3, v4, v5, v6, v7, v8, v9, v10] : Array Value).getD 4 undef = v4 ∧ (#[v0, v1, v2, v3, v4, v5, v6, v7, v8, v9, v10] : Array Value).getD 5 undef = v5 ∧ (#[v0, v1, v2, v3, v4, v5, v6, v7, v8, v9, v10] : Array Value).getD 6 undef = v6 ∧ (#[v0, v1, v2, v3, v4, v5, v6, v7, v8, v9, v10] : Array Value).getD 7 undef = v7 ∧ (#[v0, v1, v2, v3, v4, v5, v6, v7, v8, v9, v10] : Array Value).getD 8 undef = v8 ∧ (#[v0, v1, v2, v3, v4, v5, v6, v7, v8, v9, v10] : Array Value).getD 9 undef = v9 ∧ (#[v0, v1, v2, v3, v4, v5, v6, v7, v8, v9, v10] : Array Value).getD 10 undef = v10 := ⟨rfl, rfl, rfl, rfl, rfl, rfl, rfl, rfl, rfl, rfl, rfl⟩
def z11 (o : Nat) : Value := if o = 2 then .bool false else .int .i64 0
theorem Blk.z11 (w : World) : Blk (w.alloc (.cells #[.int .i64 0, .int .i64 0, .bool false, .int .i64 0, .int .i64 0, .int .i64 0, .int .i64 0, .int .i64 0, .int .i64 0, .int .i64 0, .int .i64 0] 66)) w.heap.size 11 z11 := Blk.new w _ _ _ fun o ho => by
  obtain rfl | rfl | rfl | rfl | rfl | rfl | rfl | rfl | rfl | rfl | rfl : o = 0 ∨ o = 1 ∨ o = 2 ∨ o = 3 ∨ o = 4 ∨ o = 5 ∨ o = 6 ∨ o = 7 ∨ o = 8 ∨ o = 9 ∨ o = 10 := by simp at ho; omega
  all_goals rfl
def leftG (f : Wf) : Nat → Nat → Option Cp
  | 0, _ => none
  | m + 1, a => match matchP f a with | some c => some c | none => leftG f m (a + 1)
section
variable {ns : List Nd} {bk cp y : Nat} {g : Int} {s : ByteArray} {f : Wf} {w : World}
set_option maxRecDepth 100000 in
set_option maxHeartbeats 8000000 in
theorem left_long (hs : 256 < s.size) (fr : Int) : Calls Tryz.prog 67 #[.agg #[.slice (some ⟨bk, 0, none⟩) ns.length cp, .int .i64 (y : Nat), .int .i64 g, .int .i64 0, .int .i64 0], .string s, .int .i64 fr] w fun e w' => e = .returned (foundV 12 0 false noC) ∧ Fr (fun _ => False) w w' := by
  have t1 : (256 : Int) < s.size := by omega
  have hTv := (Blk.tv w (.slice (some ⟨bk, 0, none⟩) ns.length cp) (.int .i64 (y : Nat)) (.int .i64 g) (.int .i64 0) (.int .i64 0)).alloc (.cells #[.int .i64 0, .int .i64 0, .bool false, .int .i64 0, .int .i64 0, .int .i64 0, .int .i64 0, .int .i64 0, .int .i64 0, .int .i64 0, .int .i64 0] 66)
  have hRc := Blk.z11 (w.alloc (.cells #[.slice (some ⟨bk, 0, none⟩) ns.length cp, .int .i64 (y : Nat), .int .i64 g, .int .i64 0, .int .i64 0] 148))
  have f2 := ((Fr.refl (fun _ => False) w).alloc (.cells #[.slice (some ⟨bk, 0, none⟩) ns.length cp, .int .i64 (y : Nat), .int .i64 g, .int .i64 0, .int .i64 0] 148)).alloc (.cells #[.int .i64 0, .int .i64 0, .bool false, .int .i64 0, .int .i64 0, .int .i64 0, .int .i64 0, .int .i64 0, .int .i64 0, .int .i64 0, .int .i64 0] 66)
  simp only [World.size_alloc] at hRc
  clear hTv
  go_enter Tryz.func67, Tryz.ntmps67
  go_wp2_with fail
  refine (refusedF_any 12 0 _).mono ?_
  rintro v w3 ⟨rfl, f3⟩
  have hRc3 := hRc.frame f3 (fun h => h)
  have F3 := f2.trans f3 (fun _ _ h => h)
  have m0 := hRc3.cell (o := 0) (by omega)
  have m1 := hRc3.cell (o := 1) (by omega)
  have m2 := hRc3.cell (o := 2) (by omega)
  have m3 := hRc3.cell (o := 3) (by omega)
  have m4 := hRc3.cell (o := 4) (by omega)
  have m5 := hRc3.cell (o := 5) (by omega)
  have m6 := hRc3.cell (o := 6) (by omega)
  have m7 := hRc3.cell (o := 7) (by omega)
  have m8 := hRc3.cell (o := 8) (by omega)
  have m9 := hRc3.cell (o := 9) (by omega)
  have m10 := hRc3.cell (o := 10) (by omega)
  have zR := hRc3.frozen
  have lR := hRc3.lt
  rw [foundV_no]
  go_wp2_with fail
  have e11 := cells11 hRc3 (.int .i64 12) (.int .i64 0) (.bool false) (.int .i64 (-1)) (.int .i64 (-1)) (.int .i64 (-1)) (.int .i64 (-1)) (.int .i64 (-1)) (.int .i64 (-1)) (.int .i64 (-1)) (.int .i64 (-1))
  have FF := F3.trans (fr11 w3 (w.heap.size + 1) (.int .i64 12) (.int .i64 0) (.bool false) (.int .i64 (-1)) (.int .i64 (-1)) (.int .i64 (-1)) (.int .i64 (-1)) (.int .i64 (-1)) (.int .i64 (-1)) (.int .i64 (-1)) (.int .i64 (-1))) (fun b hb h => by omega)
  have r0 := e11.cell (o := 0) (by omega)
  have r1 := e11.cell (o := 1) (by omega)
  have r2 := e11.cell (o := 2) (by omega)
  have r3 := e11.cell (o := 3) (by omega)
  have r4 := e11.cell (o := 4) (by omega)
  have r5 := e11.cell (o := 5) (by omega)
  have r6 := e11.cell (o := 6) (by omega)
  have r7 := e11.cell (o := 7) (by omega)
  have r8 := e11.cell (o := 8) (by omega)
  have r9 := e11.cell (o := 9) (by omega)
  have r10 := e11.cell (o := 10) (by omega)
  simp only [get11] at r0 r1 r2 r3 r4 r5 r6 r7 r8 r9 r10
  exact bodyPost_ret (v := foundV 12 0 false noC) (by simp [results, Tryz.results67, go_sem, foundV, noC, r0, r1, r2, r3, r4, r5, r6, r7, r8, r9, r10]) rfl ⟨rfl, FF⟩
set_option maxRecDepth 100000 in
set_option maxHeartbeats 8000000 in
theorem left_range (hs : s.size ≤ 256) (fr : Int) (hfr : fr < 0 ∨ (s.size : Int) < fr) : Calls Tryz.prog 67 #[.agg #[.slice (some ⟨bk, 0, none⟩) ns.length cp, .int .i64 (y : Nat), .int .i64 g, .int .i64 0, .int .i64 0], .string s, .int .i64 fr] w fun e w' => e = .returned (foundV 10 0 false noC) ∧ Fr (fun _ => False) w w' := by
  have t1 : decide ((256 : Int) < s.size) = false := decide_eq_false (by omega)
  have t1' : (s.size : Int) ≤ 256 := by omega
  have hTv := (Blk.tv w (.slice (some ⟨bk, 0, none⟩) ns.length cp) (.int .i64 (y : Nat)) (.int .i64 g) (.int .i64 0) (.int .i64 0)).alloc (.cells #[.int .i64 0, .int .i64 0, .bool false, .int .i64 0, .int .i64 0, .int .i64 0, .int .i64 0, .int .i64 0, .int .i64 0, .int .i64 0, .int .i64 0] 66)
  have hRc := Blk.z11 (w.alloc (.cells #[.slice (some ⟨bk, 0, none⟩) ns.length cp, .int .i64 (y : Nat), .int .i64 g, .int .i64 0, .int .i64 0] 148))
  have f2 := ((Fr.refl (fun _ => False) w).alloc (.cells #[.slice (some ⟨bk, 0, none⟩) ns.length cp, .int .i64 (y : Nat), .int .i64 g, .int .i64 0, .int .i64 0] 148)).alloc (.cells #[.int .i64 0, .int .i64 0, .bool false, .int .i64 0, .int .i64 0, .int .i64 0, .int .i64 0, .int .i64 0, .int .i64 0, .int .i64 0, .int .i64 0] 66)
  simp only [World.size_alloc] at hRc
  clear hTv
  go_enter Tryz.func67, Tryz.ntmps67
  by_cases h0 : fr < 0
  · have t2 : decide (fr < 0) = true := decide_eq_true h0
    clear hfr
    go_wp2_with fail
    refine (refusedF_any 10 0 _).mono ?_
    rintro v w3 ⟨rfl, f3⟩
    have hRc3 := hRc.frame f3 (fun h => h)
    have F3 := f2.trans f3 (fun _ _ h => h)
    have m0 := hRc3.cell (o := 0) (by omega)
    have m1 := hRc3.cell (o := 1) (by omega)
    have m2 := hRc3.cell (o := 2) (by omega)
    have m3 := hRc3.cell (o := 3) (by omega)
    have m4 := hRc3.cell (o := 4) (by omega)
    have m5 := hRc3.cell (o := 5) (by omega)
    have m6 := hRc3.cell (o := 6) (by omega)
    have m7 := hRc3.cell (o := 7) (by omega)
    have m8 := hRc3.cell (o := 8) (by omega)
    have m9 := hRc3.cell (o := 9) (by omega)
    have m10 := hRc3.cell (o := 10) (by omega)
    have zR := hRc3.frozen
    have lR := hRc3.lt
    rw [foundV_no]
    go_wp2_with fail
    have e11 := cells11 hRc3 (.int .i64 10) (.int .i64 0) (.bool false) (.int .i64 (-1)) (.int .i64 (-1)) (.int .i64 (-1)) (.int .i64 (-1)) (.int .i64 (-1)) (.int .i64 (-1)) (.int .i64 (-1)) (.int .i64 (-1))
    have FF := F3.trans (fr11 w3 (w.heap.size + 1) (.int .i64 10) (.int .i64 0) (.bool false) (.int .i64 (-1)) (.int .i64 (-1)) (.int .i64 (-1)) (.int .i64 (-1)) (.int .i64 (-1)) (.int .i64 (-1)) (.int .i64 (-1)) (.int .i64 (-1))) (fun b hb h => by omega)
    have r0 := e11.cell (o := 0) (by omega)
    have r1 := e11.cell (o := 1) (by omega)
    have r2 := e11.cell (o := 2) (by omega)
    have r3 := e11.cell (o := 3) (by omega)
    have r4 := e11.cell (o := 4) (by omega)
    have r5 := e11.cell (o := 5) (by omega)
    have r6 := e11.cell (o := 6) (by omega)
    have r7 := e11.cell (o := 7) (by omega)
    have r8 := e11.cell (o := 8) (by omega)
    have r9 := e11.cell (o := 9) (by omega)
    have r10 := e11.cell (o := 10) (by omega)
    simp only [get11] at r0 r1 r2 r3 r4 r5 r6 r7 r8 r9 r10
    exact bodyPost_ret (v := foundV 10 0 false noC) (by simp [results, Tryz.results67, go_sem, foundV, noC, r0, r1, r2, r3, r4, r5, r6, r7, r8, r9, r10]) rfl ⟨rfl, FF⟩
  · have t2 : decide (fr < 0) = false := decide_eq_false h0
    have h3 : (s.size : Int) < fr := hfr.resolve_left h0
    have t3 : decide ((s.size : Int) < fr) = true := decide_eq_true h3
    clear hfr
    go_wp2_with fail
    refine (refusedF_any 10 0 _).mono ?_
    rintro v w3 ⟨rfl, f3⟩
    have hRc3 := hRc.frame f3 (fun h => h)
    have F3 := f2.trans f3 (fun _ _ h => h)
    have m0 := hRc3.cell (o := 0) (by omega)
    have m1 := hRc3.cell (o := 1) (by omega)
    have m2 := hRc3.cell (o := 2) (by omega)
    have m3 := hRc3.cell (o := 3) (by omega)
    have m4 := hRc3.cell (o := 4) (by omega)
    have m5 := hRc3.cell (o := 5) (by omega)
    have m6 := hRc3.cell (o := 6) (by omega)
    have m7 := hRc3.cell (o := 7) (by omega)
    have m8 := hRc3.cell (o := 8) (by omega)
    have m9 := hRc3.cell (o := 9) (by omega)
    have m10 := hRc3.cell (o := 10) (by omega)
    have zR := hRc3.frozen
    have lR := hRc3.lt
    rw [foundV_no]
    go_wp2_with fail
    have e11 := cells11 hRc3 (.int .i64 10) (.int .i64 0) (.bool false) (.int .i64 (-1)) (.int .i64 (-1)) (.int .i64 (-1)) (.int .i64 (-1)) (.int .i64 (-1)) (.int .i64 (-1)) (.int .i64 (-1)) (.int .i64 (-1))
    have FF := F3.trans (fr11 w3 (w.heap.size + 1) (.int .i64 10) (.int .i64 0) (.bool false) (.int .i64 (-1)) (.int .i64 (-1)) (.int .i64 (-1)) (.int .i64 (-1)) (.int .i64 (-1)) (.int .i64 (-1)) (.int .i64 (-1)) (.int .i64 (-1))) (fun b hb h => by omega)
    have r0 := e11.cell (o := 0) (by omega)
    have r1 := e11.cell (o := 1) (by omega)
    have r2 := e11.cell (o := 2) (by omega)
    have r3 := e11.cell (o := 3) (by omega)
    have r4 := e11.cell (o := 4) (by omega)
    have r5 := e11.cell (o := 5) (by omega)
    have r6 := e11.cell (o := 6) (by omega)
    have r7 := e11.cell (o := 7) (by omega)
    have r8 := e11.cell (o := 8) (by omega)
    have r9 := e11.cell (o := 9) (by omega)
    have r10 := e11.cell (o := 10) (by omega)
    simp only [get11] at r0 r1 r2 r3 r4 r5 r6 r7 r8 r9 r10
    exact bodyPost_ret (v := foundV 10 0 false noC) (by simp [results, Tryz.results67, go_sem, foundV, noC, r0, r1, r2, r3, r4, r5, r6, r7, r8, r9, r10]) rfl ⟨rfl, FF⟩
theorem leftG_some {m a : Nat} {c : Cp} (h : matchP f a = some c) : leftG f (m + 1) a = some c := by simp only [leftG]; rw [h]
theorem leftG_none {m a : Nat} (h : matchP f a = none) : leftG f (m + 1) a = leftG f m (a + 1) := by simp only [leftG]; rw [h]
set_option maxRecDepth 100000 in
set_option maxHeartbeats 16000000 in
theorem left_in (hs : s.size ≤ 256) (gf : Good s.size f) (hF : WC ns bk cp (y : Nat) g s y f) (hN : NPAt w bk ns) (hbl : bk < w.heap.size) (fr : Nat) (hfr : fr ≤ s.size) : Calls Tryz.prog 67 #[.agg #[.slice (some ⟨bk, 0, none⟩) ns.length cp, .int .i64 (y : Nat), .int .i64 g, .int .i64 0, .int .i64 0], .string s, .int .i64 (fr : Nat)] w fun e w' => e = .returned (foundV 0 0 (okOf (leftG f (s.size + 1 - fr) fr)) (cpOf (leftG f (s.size + 1 - fr) fr))) ∧ Fr (fun _ => False) w w' := by
  have t1 : decide ((256 : Int) < s.size) = false := decide_eq_false (by omega)
  have t1' : (s.size : Int) ≤ 256 := by omega
  have t2 : decide ((fr : Int) < 0) = false := decide_eq_false (by omega)
  have t3 : decide ((s.size : Int) < fr) = false := decide_eq_false (by omega)
  have t3n : decide (s.size < fr) = false := decide_eq_false (by omega)
  have hfrI : (fr : Int) ≤ s.size := by omega
  obtain ⟨lg, Hlg⟩ : ∃ lg, Hid (lg = leftG f (s.size + 1 - fr) fr) := ⟨_, rfl⟩
  rw [← Hlg.out]
  have hTv := (Blk.tv w (.slice (some ⟨bk, 0, none⟩) ns.length cp) (.int .i64 (y : Nat)) (.int .i64 g) (.int .i64 0) (.int .i64 0)).alloc (.cells #[.int .i64 0, .int .i64 0, .bool false, .int .i64 0, .int .i64 0, .int .i64 0, .int .i64 0, .int .i64 0, .int .i64 0, .int .i64 0, .int .i64 0] 66)
  have hRc := Blk.z11 (w.alloc (.cells #[.slice (some ⟨bk, 0, none⟩) ns.length cp, .int .i64 (y : Nat), .int .i64 g, .int .i64 0, .int .i64 0] 148))
  have f2 := ((Fr.refl (fun _ => False) w).alloc (.cells #[.slice (some ⟨bk, 0, none⟩) ns.length cp, .int .i64 (y : Nat), .int .i64 g, .int .i64 0, .int .i64 0] 148)).alloc (.cells #[.int .i64 0, .int .i64 0, .bool false, .int .i64 0, .int .i64 0, .int .i64 0, .int .i64 0, .int .i64 0, .int .i64 0, .int .i64 0, .int .i64 0] 66)
  simp only [World.size_alloc] at hRc
  go_enter Tryz.func67, Tryz.ntmps67
  go_wp2_with fail
  go_loopg [7] (s.size + 1 - fr) (fun gq kv wr => ∃ a : Nat, kv = .int .i64 (a : Nat) ∧ a + gq = s.size + 1 ∧ Hid (lg = leftG f gq a) ∧ Fr (fun _ => False) ((w.alloc (.cells #[.slice (some ⟨bk, 0, none⟩) ns.length cp, .int .i64 (y : Nat), .int .i64 g, .int .i64 0, .int .i64 0] 148)).alloc (.cells #[.int .i64 0, .int .i64 0, .bool false, .int .i64 0, .int .i64 0, .int .i64 0, .int .i64 0, .int .i64 0, .int .i64 0, .int .i64 0, .int .i64 0] 66)) wr)
  case atStart => exact ⟨fr, rfl, by omega, Hlg, Fr.refl _ _⟩
  case round =>
    obtain ⟨a, rfl, hag', Ha, hr⟩ := hrel
    have hag : a + gk = s.size + 1 := hag'
    clear hag'
    have hTvr := hTv.frame hr (fun h => h)
    have hRcr := hRc.frame hr (fun h => h)
    have FR := f2.trans hr (fun _ _ h => h)
    have q0 := hTvr.cell (o := 0) (by omega)
    have q1 := hTvr.cell (o := 1) (by omega)
    have q2 := hTvr.cell (o := 2) (by omega)
    have q3 := hTvr.cell (o := 3) (by omega)
    have q4 := hTvr.cell (o := 4) (by omega)
    simp only [trF5] at q0 q1 q2 q3 q4
    have lTv := hTvr.lt
    by_cases hal : a ≤ s.size
    · have tA : decide ((a : Int) ≤ s.size) = true := decide_eq_true (by omega)
      have tN : decide (a ≤ s.size) = true := decide_eq_true (by omega)
      have haI : (a : Int) ≤ s.size := by omega
      have hMA := matchAt_any hs gf hF (hN.frame FR (fun h => h)) (by have := FR.size; omega) hal
      have HMA : Hid _ := hMA
      clear hMA
      obtain ⟨o, Ho⟩ : ∃ o, Hid (o = matchP f a) := ⟨_, rfl⟩
      rw [← Ho.out] at HMA
      go_wp2_with fail
      refine Calls.mono HMA.out ?_
      rintro v w3 ⟨rfl, f3⟩
      have hRc3 := hRcr.frame f3 (fun h => h)
      have F3 := FR.trans f3 (fun _ _ h => h)
      cases o with
      | none =>
        simp only [okOf, cpOf]
        rw [capV_no]
        go_wp2_with fail
        go_roundg (gk - 1)
        case measure => omega
        case rel =>
          refine ⟨a + 1, by simp, by omega, ?_, (hr.trans f3 (fun _ _ h => h)).alloc _⟩
          show lg = leftG f (gk - 1) (a + 1)
          rw [Ha.out]
          obtain ⟨m, rfl⟩ : ∃ m, gk = m + 1 := ⟨gk - 1, by omega⟩
          exact leftG_none Ho.out.symm
      | some c =>
        have HL : Hid (lg = some c) := by
          show lg = some c
          rw [Ha.out]
          obtain ⟨m, rfl⟩ : ∃ m, gk = m + 1 := ⟨gk - 1, by omega⟩
          exact leftG_some Ho.out.symm
        obtain rfl := HL.out
        simp only [okOf, cpOf]
        unfold capV
        have m0 := hRc3.cell (o := 0) (by omega)
        have m1 := hRc3.cell (o := 1) (by omega)
        have m2 := hRc3.cell (o := 2) (by omega)
        have m3 := hRc3.cell (o := 3) (by omega)
        have m4 := hRc3.cell (o := 4) (by omega)
        have m5 := hRc3.cell (o := 5) (by omega)
        have m6 := hRc3.cell (o := 6) (by omega)
        have m7 := hRc3.cell (o := 7) (by omega)
        have m8 := hRc3.cell (o := 8) (by omega)
        have m9 := hRc3.cell (o := 9) (by omega)
        have m10 := hRc3.cell (o := 10) (by omega)
        have zR := hRc3.frozen
        have lR := hRc3.lt
        go_wp2_with fail
        have e11 := (cells11 hRc3 (.int .i64 0) (.int .i64 0) (.bool true) (.int .i64 (c 0)) (.int .i64 (c 1)) (.int .i64 (c 2)) (.int .i64 (c 3)) (.int .i64 (c 4)) (.int .i64 (c 5)) (.int .i64 (c 6)) (.int .i64 (c 7))).alloc (.cells #[.int .i64 (c 0), .int .i64 (c 1), .int .i64 (c 2), .int .i64 (c 3), .int .i64 (c 4), .int .i64 (c 5), .int .i64 (c 6), .int .i64 (c 7)] 64)
        have FF := (F3.trans (fr11 w3 (w.heap.size + 1) (.int .i64 0) (.int .i64 0) (.bool true) (.int .i64 (c 0)) (.int .i64 (c 1)) (.int .i64 (c 2)) (.int .i64 (c 3)) (.int .i64 (c 4)) (.int .i64 (c 5)) (.int .i64 (c 6)) (.int .i64 (c 7))) (fun b hb h => by omega)).alloc (.cells #[.int .i64 (c 0), .int .i64 (c 1), .int .i64 (c 2), .int .i64 (c 3), .int .i64 (c 4), .int .i64 (c 5), .int .i64 (c 6), .int .i64 (c 7)] 64)
        have r0 := e11.cell (o := 0) (by omega)
        have r1 := e11.cell (o := 1) (by omega)
        have r2 := e11.cell (o := 2) (by omega)
        have r3 := e11.cell (o := 3) (by omega)
        have r4 := e11.cell (o := 4) (by omega)
        have r5 := e11.cell (o := 5) (by omega)
        have r6 := e11.cell (o := 6) (by omega)
        have r7 := e11.cell (o := 7) (by omega)
        have r8 := e11.cell (o := 8) (by omega)
        have r9 := e11.cell (o := 9) (by omega)
        have r10 := e11.cell (o := 10) (by omega)
        simp only [get11] at r0 r1 r2 r3 r4 r5 r6 r7 r8 r9 r10
        exact bodyPost_ret (v := foundV 0 0 true c) (by simp [results, Tryz.results67, go_sem, foundV, r0, r1, r2, r3, r4, r5, r6, r7, r8, r9, r10]) rfl ⟨rfl, FF⟩
    · have tA : decide ((a : Int) ≤ s.size) = false := decide_eq_false (by omega)
      have tN : decide (a ≤ s.size) = false := decide_eq_false (by omega)
      have HL : Hid (lg = none) := by
        show lg = none
        rw [Ha.out, show gk = 0 by omega]
        rfl
      obtain rfl := HL.out
      go_wp2_with fail
      refine (nothing_any _).mono ?_
      rintro v w3 ⟨rfl, f3⟩
      have hRc3 := hRcr.frame f3 (fun h => h)
      have F3 := FR.trans f3 (fun _ _ h => h)
      have m0 := hRc3.cell (o := 0) (by omega)
      have m1 := hRc3.cell (o := 1) (by omega)
      have m2 := hRc3.cell (o := 2) (by omega)
      have m3 := hRc3.cell (o := 3) (by omega)
      have m4 := hRc3.cell (o := 4) (by omega)
      have m5 := hRc3.cell (o := 5) (by omega)
      have m6 := hRc3.cell (o := 6) (by omega)
      have m7 := hRc3.cell (o := 7) (by omega)
      have m8 := hRc3.cell (o := 8) (by omega)
      have m9 := hRc3.cell (o := 9) (by omega)
      have m10 := hRc3.cell (o := 10) (by omega)
      have zR := hRc3.frozen
      have lR := hRc3.lt
      rw [foundV_no]
      go_wp2_with fail
      have e11 := cells11 hRc3 (.int .i64 0) (.int .i64 0) (.bool false) (.int .i64 (-1)) (.int .i64 (-1)) (.int .i64 (-1)) (.int .i64 (-1)) (.int .i64 (-1)) (.int .i64 (-1)) (.int .i64 (-1)) (.int .i64 (-1))
      have FF := F3.trans (fr11 w3 (w.heap.size + 1) (.int .i64 0) (.int .i64 0) (.bool false) (.int .i64 (-1)) (.int .i64 (-1)) (.int .i64 (-1)) (.int .i64 (-1)) (.int .i64 (-1)) (.int .i64 (-1)) (.int .i64 (-1)) (.int .i64 (-1))) (fun b hb h => by omega)
      have r0 := e11.cell (o := 0) (by omega)
      have r1 := e11.cell (o := 1) (by omega)
      have r2 := e11.cell (o := 2) (by omega)
      have r3 := e11.cell (o := 3) (by omega)
      have r4 := e11.cell (o := 4) (by omega)
      have r5 := e11.cell (o := 5) (by omega)
      have r6 := e11.cell (o := 6) (by omega)
      have r7 := e11.cell (o := 7) (by omega)
      have r8 := e11.cell (o := 8) (by omega)
      have r9 := e11.cell (o := 9) (by omega)
      have r10 := e11.cell (o := 10) (by omega)
      simp only [get11] at r0 r1 r2 r3 r4 r5 r6 r7 r8 r9 r10
      exact bodyPost_ret (v := foundV 0 0 false noC) (by simp [results, Tryz.results67, go_sem, foundV, noC, r0, r1, r2, r3, r4, r5, r6, r7, r8, r9, r10]) rfl ⟨rfl, FF⟩
end
end Go.Proofs.Qxb6500283aGreat
