/- The model's engine: Has, New. -/
import Derived.Test.Qxb6500285aGreatE6
namespace Go.Proofs.Qxb6500285aGreat
open Go Go.RowKit

theorem fnd11 (w : World) (er q : Int) (ok : Bool) (c : Cp) : Blk (w.alloc (.cells #[.int .i64 er, .int .i64 q, .bool ok, .int .i64 (c 0), .int .i64 (c 1), .int .i64 (c 2), .int .i64 (c 3), .int .i64 (c 4), .int .i64 (c 5), .int .i64 (c 6), .int .i64 (c 7)] 43)) w.heap.size 11 (fun o => (#[.int .i64 er, .int .i64 q, .bool ok, .int .i64 (c 0), .int .i64 (c 1), .int .i64 (c 2), .int .i64 (c 3), .int .i64 (c 4), .int .i64 (c 5), .int .i64 (c 6), .int .i64 (c 7)] : Array Value).getD o undef) :=
  Blk.new w _ _ _ fun o ho => by
    have ho : o < 11 := by simpa using ho
    obtain rfl | rfl | rfl | rfl | rfl | rfl | rfl | rfl | rfl | rfl | rfl : o = 0 ∨ o = 1 ∨ o = 2 ∨ o = 3 ∨ o = 4 ∨ o = 5 ∨ o = 6 ∨ o = 7 ∨ o = 8 ∨ o = 9 ∨ o = 10 := by omega
    all_goals rfl
section
variable {w : World} {m sx mc sp G K : Nat}
set_option maxRecDepth 100000 in
set_option maxHeartbeats 8000000 in
theorem hasM (h : ME w m sx mc sp G K) (hG : G ≤ 10000000000000) (hK : K ≤ 10000000000000) (p s : ByteArray) (fr : Int) :
    Calls Tryz.prog 39 #[.pointer (some ⟨m, 0, none⟩), .string p, .string s, .int .i64 fr] w fun v w' => (∃ er q o, v = .returned (foundV er q (okOf o) noC) ∧ Sol p s fr er q o) ∧ ME w' m sx mc sp (G + 1) (K + 1) ∧ Fr (MO m sx mc sp) w w' := by
  have ap := h.ap
  obtain ⟨⟨c3, c4, l3, l4, hb⟩, hs, hm, _⟩ := h
  have lt : ∀ c, MO m sx mc sp c → c < w.heap.size := fun c hc => by unfold MO at hc; omega
  have m2 := hb.cell (o := 3) (by omega)
  simp only [meCell] at m2
  have zm := hb.frozen
  have hcb : (c4 : Int) ≤ 10000000000000 := by omega
  have hb1 := (hb.set 3 (.int .i64 ((c4 : Int) + 1))).congr (meCell3 sx mc c3 c4)
  have f1 := (Fr.refl (fun c => c = m) w).setC m 3 (.int .i64 ((c4 : Int) + 1)) (fun _ => rfl)
  have h1 : ME (w.setCell ⟨m, 3, none⟩ (.int .i64 ((c4 : Int) + 1))) m sx mc sp G (K + 1) := by
    obtain ⟨c, lc, hs⟩ := hs
    obtain ⟨d, ld, hm⟩ := hm
    exact ⟨⟨c3, c4 + 1, by omega, by omega, hb1⟩, ⟨c, lc, hs.frame f1 (by omega)⟩, ⟨d, ld, hm.frame f1 (by omega) (by omega)⟩, ap.1, ap.2.1, ap.2.2.1, by simp only [World.size_setCell]; omega⟩
  have hRc := Blk.z11 (w.setCell ⟨m, 3, none⟩ (.int .i64 ((c4 : Int) + 1)))
  have f2 := (Fr.refl (fun _ => False) (w.setCell ⟨m, 3, none⟩ (.int .i64 ((c4 : Int) + 1)))).alloc (.cells #[.int .i64 0, .int .i64 0, .bool false, .int .i64 0, .int .i64 0, .int .i64 0, .int .i64 0, .int .i64 0, .int .i64 0, .int .i64 0, .int .i64 0] 43)
  simp only [World.size_setCell] at hRc
  have h2 := h1.frame f2 (fun _ _ h => h)
  have F2 : Fr (MO m sx mc sp) w _ := (f1.mono (S' := MO m sx mc sp) (fun _ _ e => .inl e)).trans f2 (fun _ _ h => h.elim)
  clear hs hm hb1
  go_enter Tryz.func39, Tryz.ntmps39
  go_wp2_with fail
  refine (searchM h2 hG p s fr).mono ?_
  rintro v w3 ⟨⟨er, q, o, rfl, hS⟩, h3, f3⟩
  have hRc3 := hRc.frame f3 (fun hc => by have := lt _ hc; omega)
  have F3 := F2.trans f3 (fun _ _ h => h)
  have hz3 := f3.size
  simp only [World.size_alloc, World.size_setCell] at hz3
  clear m2
  have hF := fnd11 w3 er q (okOf o) (cpOf o)
  have k3 := (Fr.refl (fun _ => False) w3).alloc (.cells #[.int .i64 er, .int .i64 q, .bool (okOf o), .int .i64 (cpOf o 0), .int .i64 (cpOf o 1), .int .i64 (cpOf o 2), .int .i64 (cpOf o 3), .int .i64 (cpOf o 4), .int .i64 (cpOf o 5), .int .i64 (cpOf o 6), .int .i64 (cpOf o 7)] 43)
  unfold foundV
  go_wp2_with fail
  refine (nocaps_any _).mono ?_
  rintro v w4 ⟨rfl, f4⟩
  have hF4 := hF.frame f4 (fun h => h)
  have k4 := k3.trans f4 (fun _ _ h => h)
  have hRc4 := hRc3.frame k4 (fun h => h)
  have hne : w.heap.size ≠ w3.heap.size := by omega
  have hne' : w3.heap.size ≠ w.heap.size := by omega
  have g0 := hF4.cell (o := 0) (by omega)
  have g1 := hF4.cell (o := 1) (by omega)
  have g2 := hF4.cell (o := 2) (by omega)
  have g3 := hF4.cell (o := 3) (by omega)
  have g4 := hF4.cell (o := 4) (by omega)
  have g5 := hF4.cell (o := 5) (by omega)
  have g6 := hF4.cell (o := 6) (by omega)
  have g7 := hF4.cell (o := 7) (by omega)
  have g8 := hF4.cell (o := 8) (by omega)
  have g9 := hF4.cell (o := 9) (by omega)
  have g10 := hF4.cell (o := 10) (by omega)
  have zg := hF4.frozen
  have lg := hF4.lt
  have q0 := hRc4.cell (o := 0) (by omega)
  have q1 := hRc4.cell (o := 1) (by omega)
  have q2 := hRc4.cell (o := 2) (by omega)
  have q3 := hRc4.cell (o := 3) (by omega)
  have q4 := hRc4.cell (o := 4) (by omega)
  have q5 := hRc4.cell (o := 5) (by omega)
  have q6 := hRc4.cell (o := 6) (by omega)
  have q7 := hRc4.cell (o := 7) (by omega)
  have q8 := hRc4.cell (o := 8) (by omega)
  have q9 := hRc4.cell (o := 9) (by omega)
  have q10 := hRc4.cell (o := 10) (by omega)
  have zq := hRc4.frozen
  have lq := hRc4.lt
  rw [capV_no]
  simp only [get11] at g0 g1 g2 g3 g4 g5 g6 g7 g8 g9 g10
  go_wp2_with fail
  have hRc8 := ((((((((hRc4.setOther ⟨w3.heap.size, 3, none⟩ (.int .i64 (-1)) hne).setOther ⟨w3.heap.size, 4, none⟩ (.int .i64 (-1)) hne).setOther ⟨w3.heap.size, 5, none⟩ (.int .i64 (-1)) hne).setOther ⟨w3.heap.size, 6, none⟩ (.int .i64 (-1)) hne).setOther ⟨w3.heap.size, 7, none⟩ (.int .i64 (-1)) hne).setOther ⟨w3.heap.size, 8, none⟩ (.int .i64 (-1)) hne).setOther ⟨w3.heap.size, 9, none⟩ (.int .i64 (-1)) hne).setOther ⟨w3.heap.size, 10, none⟩ (.int .i64 (-1)) hne)
  have k8 := (((((((((Fr.refl (fun c => c = w3.heap.size) w4).setC w3.heap.size 3 (.int .i64 (-1)) (fun _ => rfl)).setC w3.heap.size 4 (.int .i64 (-1)) (fun _ => rfl)).setC w3.heap.size 5 (.int .i64 (-1)) (fun _ => rfl)).setC w3.heap.size 6 (.int .i64 (-1)) (fun _ => rfl)).setC w3.heap.size 7 (.int .i64 (-1)) (fun _ => rfl)).setC w3.heap.size 8 (.int .i64 (-1)) (fun _ => rfl)).setC w3.heap.size 9 (.int .i64 (-1)) (fun _ => rfl)).setC w3.heap.size 10 (.int .i64 (-1)) (fun _ => rfl))
  have e11 := cells11 hRc8 (.int .i64 er) (.int .i64 q) (.bool (okOf o)) (.int .i64 (-1)) (.int .i64 (-1)) (.int .i64 (-1)) (.int .i64 (-1)) (.int .i64 (-1)) (.int .i64 (-1)) (.int .i64 (-1)) (.int .i64 (-1))
  have k5 := fr11 ((((((((w4.setCell ⟨w3.heap.size, 3, none⟩ (.int .i64 (-1))).setCell ⟨w3.heap.size, 4, none⟩ (.int .i64 (-1))).setCell ⟨w3.heap.size, 5, none⟩ (.int .i64 (-1))).setCell ⟨w3.heap.size, 6, none⟩ (.int .i64 (-1))).setCell ⟨w3.heap.size, 7, none⟩ (.int .i64 (-1))).setCell ⟨w3.heap.size, 8, none⟩ (.int .i64 (-1))).setCell ⟨w3.heap.size, 9, none⟩ (.int .i64 (-1))).setCell ⟨w3.heap.size, 10, none⟩ (.int .i64 (-1))) w.heap.size (.int .i64 er) (.int .i64 q) (.bool (okOf o)) (.int .i64 (-1)) (.int .i64 (-1)) (.int .i64 (-1)) (.int .i64 (-1)) (.int .i64 (-1)) (.int .i64 (-1)) (.int .i64 (-1)) (.int .i64 (-1))
  have r0 := e11.cell (o := 0) (by omega)
  have r1 := e11.cell (o := 1) (by omega)
  have r2 := e11.cell (o := 2) (by omega)
  have r3 := e11.cell (o := 3) (by omega)
  have r4 := e11.cell (o := 4) (by omega)
  have r5 := e11.cell (o := 5) (by omega)
  have r6 := e11.cell (o := 6) (by omega)
  have r7 := e11.cell (o := 7) (by omega)
  have r8 := e11.cell (o := 8) (by omega)
  have r9 := e11.cell (o := 9) (by omega)
  have r10 := e11.cell (o := 10) (by omega)
  simp only [get11] at r0 r1 r2 r3 r4 r5 r6 r7 r8 r9 r10
  have k9 := (k4.mono (S' := fun c => c = w3.heap.size) (fun _ _ h => h.elim)).trans k8 (fun _ _ h => h)
  have k10 := (k9.mono (S' := fun c => c = w3.heap.size ∨ c = w.heap.size) (fun _ _ h => .inl h)).trans k5 (fun _ _ h => .inr h)
  have FF := F3.trans k10 (fun c hl hc => by omega)
  have KK := h3.frame k10 (fun c hc e => by have := lt c hc; omega)
  exact bodyPost_ret (v := foundV er q (okOf o) noC) (by simp [results, Tryz.results39, go_sem, foundV, noC, r0, r1, r2, r3, r4, r5, r6, r7, r8, r9, r10]) rfl ⟨⟨er, q, o, rfl, hS⟩, KK, FF⟩
set_option maxHeartbeats 1000000 in
theorem newME (w : World) : Calls Tryz.prog 10 #[] w fun v w' => ∃ m mc sp, v = .returned (.pointer (some ⟨m, 0, none⟩)) ∧ ME w' m w.heap.size mc sp 0 0 ∧ Fr (fun _ => False) w w' := by
  go_enter Tryz.func10, Tryz.ntmps10
  go_wp2_with fail
  refine (newM_any w).mono ?_
  rintro v w1 ⟨rfl, hb, f1⟩
  go_wp2_with fail
  refine (newC_any w1).mono ?_
  rintro v w2 ⟨mc, rfl, hlt, hmc, f2⟩
  have hn := Blk.new w2 #[.pointer (some ⟨w.heap.size, 0, none⟩), .pointer (some ⟨mc, 0, none⟩), .int .i64 0, .int .i64 0] 74 (meCell w.heap.size mc 0 0) (fun o ho => by
    have ho : o < 4 := by simpa using ho
    obtain rfl | rfl | rfl | rfl : o = 0 ∨ o = 1 ∨ o = 2 ∨ o = 3 := by omega
    all_goals rfl)
  have k := (Fr.refl (fun _ => False) w2).alloc (.cells #[.pointer (some ⟨w.heap.size, 0, none⟩), .pointer (some ⟨mc, 0, none⟩), .int .i64 0, .int .i64 0] 74)
  have hl := hb.lt
  have hml := hmc.1.lt
  go_wp2_with fail
  go_ret
  exact ⟨_, mc, _, rfl, ⟨⟨0, 0, Nat.le_refl _, Nat.le_refl _, hn⟩, ⟨0, Nat.le_refl _, (hb.frame f2 (fun h => h)).frame k (fun h => h)⟩, ⟨0, Nat.le_refl _, hmc.frame k (fun h => h) (fun h => h)⟩, hl, hlt, hml, by simp⟩, (f1.trans f2 (fun _ _ h => h)).trans k (fun _ _ h => h)⟩
end
end Go.Proofs.Qxb6500285aGreat
