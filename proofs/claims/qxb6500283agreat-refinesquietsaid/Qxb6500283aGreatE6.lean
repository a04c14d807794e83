/- The model's engine: Match, Has, New. -/
import Derived.Test.Qxb6500283aGreatE5
namespace Go.Proofs.Qxb6500283aGreat
open Go Go.RowKit

theorem meCell2 (sx mc c3 c4 : Nat) : ∀ o, o < 4 → upd (meCell sx mc c3 c4) 2 (.int .i64 ((c3 : Int) + 1)) o = meCell sx mc (c3 + 1) c4 o := by
  intro o ho
  obtain rfl | rfl | rfl | rfl : o = 0 ∨ o = 1 ∨ o = 2 ∨ o = 3 := by omega
  all_goals simp [upd, meCell]
theorem meCell3 (sx mc c3 c4 : Nat) : ∀ o, o < 4 → upd (meCell sx mc c3 c4) 3 (.int .i64 ((c4 : Int) + 1)) o = meCell sx mc c3 (c4 + 1) o := by
  intro o ho
  obtain rfl | rfl | rfl | rfl : o = 0 ∨ o = 1 ∨ o = 2 ∨ o = 3 := by omega
  all_goals simp [upd, meCell]
section
variable {w : World} {m sx mc sp G K : Nat}
set_option maxRecDepth 100000 in
set_option maxHeartbeats 8000000 in
theorem matchM (h : ME w m sx mc sp G K) (hG : G ≤ 1000000000000000000) (hK : K ≤ 1000000000000000000) (p s : ByteArray) (fr : Int) :
    Calls Tryz.prog 40 #[.pointer (some ⟨m, 0, none⟩), .string p, .string s, .int .i64 fr] w fun v w' => (∃ er q o, v = .returned (foundV er q (okOf o) (cpOf o)) ∧ Sol p s fr er q o) ∧ ME w' m sx mc sp (G + 1) (K + 1) ∧ Fr (MO m sx mc sp) w w' := by
  have ap := h.ap
  obtain ⟨⟨c3, c4, l3, l4, hb⟩, hs, hm, _⟩ := h
  have lt : ∀ c, MO m sx mc sp c → c < w.heap.size := fun c hc => by unfold MO at hc; omega
  have m2 := hb.cell (o := 2) (by omega)
  simp only [meCell] at m2
  have zm := hb.frozen
  have hcb : (c3 : Int) ≤ 1000000000000000000 := by omega
  have hb1 := (hb.set 2 (.int .i64 ((c3 : Int) + 1))).congr (meCell2 sx mc c3 c4)
  have f1 := (Fr.refl (fun c => c = m) w).setC m 2 (.int .i64 ((c3 : Int) + 1)) (fun _ => rfl)
  have h1 : ME (w.setCell ⟨m, 2, none⟩ (.int .i64 ((c3 : Int) + 1))) m sx mc sp G (K + 1) := by
    obtain ⟨c, lc, hs⟩ := hs
    obtain ⟨d, ld, hm⟩ := hm
    exact ⟨⟨c3 + 1, c4, by omega, by omega, hb1⟩, ⟨c, lc, hs.frame f1 (by omega)⟩, ⟨d, ld, hm.frame f1 (by omega) (by omega)⟩, ap.1, ap.2.1, ap.2.2.1, by simp only [World.size_setCell]; omega⟩
  have hRc := Blk.z11 (w.setCell ⟨m, 2, none⟩ (.int .i64 ((c3 : Int) + 1)))
  have f2 := (Fr.refl (fun _ => False) (w.setCell ⟨m, 2, none⟩ (.int .i64 ((c3 : Int) + 1)))).alloc (.cells #[.int .i64 0, .int .i64 0, .bool false, .int .i64 0, .int .i64 0, .int .i64 0, .int .i64 0, .int .i64 0, .int .i64 0, .int .i64 0, .int .i64 0] 66)
  simp only [World.size_setCell] at hRc
  have h2 := h1.frame f2 (fun _ _ h => h)
  have F2 : Fr (MO m sx mc sp) w _ := (f1.mono (S' := MO m sx mc sp) (fun _ _ e => .inl e)).trans f2 (fun _ _ h => h.elim)
  clear hs hm hb1
  go_enter Tryz.func40, Tryz.ntmps40
  go_wp2_with fail
  refine (searchM h2 hG p s fr).mono ?_
  rintro v w3 ⟨⟨er, q, o, rfl, hS⟩, h3, f3⟩
  have hRc3 := hRc.frame f3 (fun hc => by have := lt _ hc; omega)
  have F3 := F2.trans f3 (fun _ _ h => h)
  clear m2
  have q0 := hRc3.cell (o := 0) (by omega)
  have q1 := hRc3.cell (o := 1) (by omega)
  have q2 := hRc3.cell (o := 2) (by omega)
  have q3 := hRc3.cell (o := 3) (by omega)
  have q4 := hRc3.cell (o := 4) (by omega)
  have q5 := hRc3.cell (o := 5) (by omega)
  have q6 := hRc3.cell (o := 6) (by omega)
  have q7 := hRc3.cell (o := 7) (by omega)
  have q8 := hRc3.cell (o := 8) (by omega)
  have q9 := hRc3.cell (o := 9) (by omega)
  have q10 := hRc3.cell (o := 10) (by omega)
  have zR := hRc3.frozen
  have lR := hRc3.lt
  unfold foundV
  go_wp2_with fail
  have e11 := cells11 hRc3 (.int .i64 er) (.int .i64 q) (.bool (okOf o)) (.int .i64 (cpOf o 0)) (.int .i64 (cpOf o 1)) (.int .i64 (cpOf o 2)) (.int .i64 (cpOf o 3)) (.int .i64 (cpOf o 4)) (.int .i64 (cpOf o 5)) (.int .i64 (cpOf o 6)) (.int .i64 (cpOf o 7))
  have k5 := fr11 w3 w.heap.size (.int .i64 er) (.int .i64 q) (.bool (okOf o)) (.int .i64 (cpOf o 0)) (.int .i64 (cpOf o 1)) (.int .i64 (cpOf o 2)) (.int .i64 (cpOf o 3)) (.int .i64 (cpOf o 4)) (.int .i64 (cpOf o 5)) (.int .i64 (cpOf o 6)) (.int .i64 (cpOf o 7))
  have r0 := e11.cell (o := 0) (by omega)
  have r1 := e11.cell (o := 1) (by omega)
  have r2 := e11.cell (o := 2) (by omega)
  have r3 := e11.cell (o := 3) (by omega)
  have r4 := e11.cell (o := 4) (by omega)
  have r5 := e11.cell (o := 5) (by omega)
  have r6 := e11.cell (o := 6) (by omega)
  have r7 := e11.cell (o := 7) (by omega)
  have r8 := e11.cell (o := 8) (by omega)
  have r9 := e11.cell (o := 9) (by omega)
  have r10 := e11.cell (o := 10) (by omega)
  simp only [get11] at r0 r1 r2 r3 r4 r5 r6 r7 r8 r9 r10
  have FF := F3.trans k5 (fun c hl hc => by omega)
  have KK := h3.frame k5 (fun c hc e => by have := lt c hc; omega)
  exact bodyPost_ret (v := foundV er q (okOf o) (cpOf o)) (by simp [results, Tryz.results40, go_sem, foundV, r0, r1, r2, r3, r4, r5, r6, r7, r8, r9, r10]) rfl ⟨⟨er, q, o, rfl, hS⟩, KK, FF⟩
end
end Go.Proofs.Qxb6500283aGreat
