/- Find. -/
import Derived.Test.Qxb6500283aGreatHG3
namespace Go.Proofs.Qxb6500283aGreat
open Go Go.RowKit

theorem Sol.none {p s : ByteArray} {fr er q : Int} {o : Option Cp} (h : Sol p s fr er q o) (he : er ≠ 0) : o = .none := by
  cases h with
  | long => rfl
  | err => rfl
  | ok => exact lf_none he
set_option maxRecDepth 100000 in
set_option maxHeartbeats 8000000 in
theorem findF {X : Nat → Prop} {w : World} {A : Fa} {cs : List Cp} {ps : List Pc} {G : Nat} (h : Fnd X w A cs ps G) (hG : G ≤ 700000000000000000) (p s : ByteArray) :
    Calls Tryz.prog 44 #[.pointer (some ⟨A.fb, 0, none⟩), .string p, .string s] w fun v w' => (∃ er q o, v = .returned (foundV er q (okOf o) (cpOf o)) ∧ Sol p s 0 er q o) ∧ Fnd X w' A cs ps (G + 300) ∧ Fr (fun c => A.eo c ∨ A.fo c) w w' := by
  have f2 := (Fr.refl (fun _ => False) w).alloc (.cells #[.int .i64 0, .int .i64 0, .bool false, .int .i64 0, .int .i64 0, .int .i64 0, .int .i64 0, .int .i64 0, .int .i64 0, .int .i64 0, .int .i64 0] 66)
  have hRc := Blk.z11 w
  have h2 := h.step (X' := fun c => X c ∨ c = w.heap.size) f2 (fun _ h => h.elim) (fun c hc => hc.imp id (fun e => by simp [e]))
  have F0 : Fr (fun c => A.eo c ∨ A.fo c) w _ := f2.mono (fun _ _ h => h.elim)
  by_cases hL : 128 < p.size ∨ 256 < s.size
  · have hsol : Sol p s 0 12 0 none := .long hL
    have hd : (128 < (p.size : Int)) ∨ ((p.size : Int) ≤ 128 ∧ 256 < (s.size : Int)) := by omega
    clear hL
    rcases hd with hd | ⟨hd, hd2⟩
    all_goals
      go_enter Tryz.func44, Tryz.ntmps44
      go_wp2_with fail
      refine (refusedF_any 12 0 _).mono ?_
      rintro v w3 ⟨rfl, f3⟩
      have hRc3 := hRc.frame f3 (fun h => h)
      have fd3 := h2.same f3
      have F3 := F0.trans f3 (fun _ _ h => h.elim)
      have m0 := hRc3.cell (o := 0) (by omega)
      have m1 := hRc3.cell (o := 1) (by omega)
      have m2 := hRc3.cell (o := 2) (by omega)
      have m3 := hRc3.cell (o := 3) (by omega)
      have m4 := hRc3.cell (o := 4) (by omega)
      have m5 := hRc3.cell (o := 5) (by omega)
      have m6 := hRc3.cell (o := 6) (by omega)
      have m7 := hRc3.cell (o := 7) (by omega)
      have m8 := hRc3.cell (o := 8) (by omega)
      have m9 := hRc3.cell (o := 9) (by omega)
      have m10 := hRc3.cell (o := 10) (by omega)
      have zR := hRc3.frozen
      have lR := hRc3.lt
      rw [foundV_no]
      go_wp2_with fail
      have e11 := (cells11 hRc3 (.int .i64 12) (.int .i64 0) (.bool false) (.int .i64 (-1)) (.int .i64 (-1)) (.int .i64 (-1)) (.int .i64 (-1)) (.int .i64 (-1)) (.int .i64 (-1)) (.int .i64 (-1)) (.int .i64 (-1)))
      have k5 := (fr11 w3 w.heap.size (.int .i64 12) (.int .i64 0) (.bool false) (.int .i64 (-1)) (.int .i64 (-1)) (.int .i64 (-1)) (.int .i64 (-1)) (.int .i64 (-1)) (.int .i64 (-1)) (.int .i64 (-1)) (.int .i64 (-1)))
      have r0 := e11.cell (o := 0) (by omega)
      have r1 := e11.cell (o := 1) (by omega)
      have r2 := e11.cell (o := 2) (by omega)
      have r3 := e11.cell (o := 3) (by omega)
      have r4 := e11.cell (o := 4) (by omega)
      have r5 := e11.cell (o := 5) (by omega)
      have r6 := e11.cell (o := 6) (by omega)
      have r7 := e11.cell (o := 7) (by omega)
      have r8 := e11.cell (o := 8) (by omega)
      have r9 := e11.cell (o := 9) (by omega)
      have r10 := e11.cell (o := 10) (by omega)
      simp only [get11] at r0 r1 r2 r3 r4 r5 r6 r7 r8 r9 r10
      have KK := ((fd3.step (X' := X) k5 (fun c hc => .inl (.inr hc)) (fun c hc => .inl (.inl hc)))).le (show _ ≤ G + 300 by omega)
      have FF := F3.trans k5 (fun c hl hc => by omega)
      exact bodyPost_ret (v := foundV 12 0 false noC) (by simp [results, Tryz.results44, go_sem, foundV, noC, r0, r1, r2, r3, r4, r5, r6, r7, r8, r9, r10]) rfl ⟨⟨_, _, none, rfl, hsol⟩, KK, FF⟩
  · have hp1 : (p.size : Int) ≤ 128 := by omega
    have hs1 : (s.size : Int) ≤ 256 := by omega
    clear hL
    obtain ⟨ea, eb, hE⟩ := h2.eng
    have g0 := h2.pm.fd.cell (o := 0) (by omega)
    simp only [fdCell] at g0
    have lF := h2.pm.fd.lt
    go_enter Tryz.func44, Tryz.ntmps44
    go_wp2_with fail
    refine (hasG hE (by omega) p s 0).mono ?_
    rintro v w1 ⟨⟨er, q, o, rfl, hS⟩, n1, m1, hE1, f1⟩
    have fd1 := h2.ofE f1 hE1
    have F1 := F0.trans f1 (fun _ _ h => .inl h)
    have hRc1 := hRc.frame f1 (h2.ef (.inr (.inr rfl)))
    have HS : Hid _ := hS
    clear hE hE1 g0 lF f1
    have g0 := fd1.pm.fd.cell (o := 0) (by omega)
    simp only [fdCell] at g0
    have lF := fd1.pm.fd.lt
    rw [foundV_no]
    by_cases he : er = 0
    · subst he
      cases o with
      | none =>
        rw [show okOf none = false from rfl]
        have m0 := hRc1.cell (o := 0) (by omega)
        have m1 := hRc1.cell (o := 1) (by omega)
        have m2 := hRc1.cell (o := 2) (by omega)
        have m3 := hRc1.cell (o := 3) (by omega)
        have m4 := hRc1.cell (o := 4) (by omega)
        have m5 := hRc1.cell (o := 5) (by omega)
        have m6 := hRc1.cell (o := 6) (by omega)
        have m7 := hRc1.cell (o := 7) (by omega)
        have m8 := hRc1.cell (o := 8) (by omega)
        have m9 := hRc1.cell (o := 9) (by omega)
        have m10 := hRc1.cell (o := 10) (by omega)
        have zR := hRc1.frozen
        have lR := hRc1.lt
        go_wp2_with fail
        have e11 := (cells11 hRc1 (.int .i64 0) (.int .i64 q) (.bool false) (.int .i64 (-1)) (.int .i64 (-1)) (.int .i64 (-1)) (.int .i64 (-1)) (.int .i64 (-1)) (.int .i64 (-1)) (.int .i64 (-1)) (.int .i64 (-1))).alloc (.cells #[.int .i64 0, .int .i64 q, .bool false, .int .i64 (-1), .int .i64 (-1), .int .i64 (-1), .int .i64 (-1), .int .i64 (-1), .int .i64 (-1), .int .i64 (-1), .int .i64 (-1)] 66)
        have k5 := (fr11 w1 w.heap.size (.int .i64 0) (.int .i64 q) (.bool false) (.int .i64 (-1)) (.int .i64 (-1)) (.int .i64 (-1)) (.int .i64 (-1)) (.int .i64 (-1)) (.int .i64 (-1)) (.int .i64 (-1)) (.int .i64 (-1))).alloc (.cells #[.int .i64 0, .int .i64 q, .bool false, .int .i64 (-1), .int .i64 (-1), .int .i64 (-1), .int .i64 (-1), .int .i64 (-1), .int .i64 (-1), .int .i64 (-1), .int .i64 (-1)] 66)
        have r0 := e11.cell (o := 0) (by omega)
        have r1 := e11.cell (o := 1) (by omega)
        have r2 := e11.cell (o := 2) (by omega)
        have r3 := e11.cell (o := 3) (by omega)
        have r4 := e11.cell (o := 4) (by omega)
        have r5 := e11.cell (o := 5) (by omega)
        have r6 := e11.cell (o := 6) (by omega)
        have r7 := e11.cell (o := 7) (by omega)
        have r8 := e11.cell (o := 8) (by omega)
        have r9 := e11.cell (o := 9) (by omega)
        have r10 := e11.cell (o := 10) (by omega)
        simp only [get11] at r0 r1 r2 r3 r4 r5 r6 r7 r8 r9 r10
        have KK := ((fd1.step (X' := X) k5 (fun c hc => .inl (.inr hc)) (fun c hc => .inl (.inl hc)))).le (show _ ≤ G + 300 by omega)
        have FF := F1.trans k5 (fun c hl hc => by omega)
        exact bodyPost_ret (v := foundV 0 q false noC) (by simp [results, Tryz.results44, go_sem, foundV, noC, r0, r1, r2, r3, r4, r5, r6, r7, r8, r9, r10]) rfl ⟨⟨_, _, none, rfl, HS.out⟩, KK, FF⟩
      | some c =>
        rw [show okOf (some c) = true from rfl]
        have kA := (Fr.refl (fun _ => False) w1).alloc (.cells #[.int .i64 0, .int .i64 q, .bool true, .int .i64 (-1), .int .i64 (-1), .int .i64 (-1), .int .i64 (-1), .int .i64 (-1), .int .i64 (-1), .int .i64 (-1), .int .i64 (-1)] 66)
        have fd2 := fd1.same kA
        have F2 := F1.trans kA (fun _ _ h => h.elim)
        have hRc2 := hRc1.frame kA (fun h => h)
        obtain ⟨ec, ed, hE2⟩ := fd2.eng
        go_wp2_with fail
        refine (matchG hE2 p s 0).mono ?_
        rintro v w3 ⟨⟨er3, q3, o3, rfl, hS3⟩, n3, m3, hE3, f3⟩
        have fd3 := fd2.ofE f3 hE3
        have F3 := F2.trans f3 (fun _ _ h => .inl h)
        have hRc3 := hRc2.frame f3 (fd2.ef (.inr (.inr rfl)))
        have HS3 : Hid _ := hS3
        clear hE2 hE3 hS3 hS g0 lF
        have m0 := hRc3.cell (o := 0) (by omega)
        have m1 := hRc3.cell (o := 1) (by omega)
        have m2 := hRc3.cell (o := 2) (by omega)
        have m3 := hRc3.cell (o := 3) (by omega)
        have m4 := hRc3.cell (o := 4) (by omega)
        have m5 := hRc3.cell (o := 5) (by omega)
        have m6 := hRc3.cell (o := 6) (by omega)
        have m7 := hRc3.cell (o := 7) (by omega)
        have m8 := hRc3.cell (o := 8) (by omega)
        have m9 := hRc3.cell (o := 9) (by omega)
        have m10 := hRc3.cell (o := 10) (by omega)
        have zR := hRc3.frozen
        have lR := hRc3.lt
        unfold foundV
        go_wp2_with fail
        have e11 := (cells11 hRc3 (.int .i64 er3) (.int .i64 q3) (.bool (okOf o3)) (.int .i64 (cpOf o3 0)) (.int .i64 (cpOf o3 1)) (.int .i64 (cpOf o3 2)) (.int .i64 (cpOf o3 3)) (.int .i64 (cpOf o3 4)) (.int .i64 (cpOf o3 5)) (.int .i64 (cpOf o3 6)) (.int .i64 (cpOf o3 7)))
        have k5 := (fr11 w3 w.heap.size (.int .i64 er3) (.int .i64 q3) (.bool (okOf o3)) (.int .i64 (cpOf o3 0)) (.int .i64 (cpOf o3 1)) (.int .i64 (cpOf o3 2)) (.int .i64 (cpOf o3 3)) (.int .i64 (cpOf o3 4)) (.int .i64 (cpOf o3 5)) (.int .i64 (cpOf o3 6)) (.int .i64 (cpOf o3 7)))
        have r0 := e11.cell (o := 0) (by omega)
        have r1 := e11.cell (o := 1) (by omega)
        have r2 := e11.cell (o := 2) (by omega)
        have r3 := e11.cell (o := 3) (by omega)
        have r4 := e11.cell (o := 4) (by omega)
        have r5 := e11.cell (o := 5) (by omega)
        have r6 := e11.cell (o := 6) (by omega)
        have r7 := e11.cell (o := 7) (by omega)
        have r8 := e11.cell (o := 8) (by omega)
        have r9 := e11.cell (o := 9) (by omega)
        have r10 := e11.cell (o := 10) (by omega)
        simp only [get11] at r0 r1 r2 r3 r4 r5 r6 r7 r8 r9 r10
        have KK := ((fd3.step (X' := X) k5 (fun c hc => .inl (.inr hc)) (fun c hc => .inl (.inl hc)))).le (show _ ≤ G + 300 by omega)
        have FF := F3.trans k5 (fun c hl hc => by omega)
        exact bodyPost_ret (v := foundV er3 q3 (okOf o3) (cpOf o3)) (by simp [results, Tryz.results44, go_sem, foundV, r0, r1, r2, r3, r4, r5, r6, r7, r8, r9, r10]) rfl ⟨⟨_, _, o3, rfl, HS3.out⟩, KK, FF⟩
    · have ho := hS.none he
      subst ho
      have t0 : (er != 0) = true := by simpa using he
      rw [show okOf none = false from rfl]
      clear he hS
      have m0 := hRc1.cell (o := 0) (by omega)
      have m1 := hRc1.cell (o := 1) (by omega)
      have m2 := hRc1.cell (o := 2) (by omega)
      have m3 := hRc1.cell (o := 3) (by omega)
      have m4 := hRc1.cell (o := 4) (by omega)
      have m5 := hRc1.cell (o := 5) (by omega)
      have m6 := hRc1.cell (o := 6) (by omega)
      have m7 := hRc1.cell (o := 7) (by omega)
      have m8 := hRc1.cell (o := 8) (by omega)
      have m9 := hRc1.cell (o := 9) (by omega)
      have m10 := hRc1.cell (o := 10) (by omega)
      have zR := hRc1.frozen
      have lR := hRc1.lt
      go_wp2_with fail
      have e11 := (cells11 hRc1 (.int .i64 er) (.int .i64 q) (.bool false) (.int .i64 (-1)) (.int .i64 (-1)) (.int .i64 (-1)) (.int .i64 (-1)) (.int .i64 (-1)) (.int .i64 (-1)) (.int .i64 (-1)) (.int .i64 (-1))).alloc (.cells #[.int .i64 er, .int .i64 q, .bool false, .int .i64 (-1), .int .i64 (-1), .int .i64 (-1), .int .i64 (-1), .int .i64 (-1), .int .i64 (-1), .int .i64 (-1), .int .i64 (-1)] 66)
      have k5 := (fr11 w1 w.heap.size (.int .i64 er) (.int .i64 q) (.bool false) (.int .i64 (-1)) (.int .i64 (-1)) (.int .i64 (-1)) (.int .i64 (-1)) (.int .i64 (-1)) (.int .i64 (-1)) (.int .i64 (-1)) (.int .i64 (-1))).alloc (.cells #[.int .i64 er, .int .i64 q, .bool false, .int .i64 (-1), .int .i64 (-1), .int .i64 (-1), .int .i64 (-1), .int .i64 (-1), .int .i64 (-1), .int .i64 (-1), .int .i64 (-1)] 66)
      have r0 := e11.cell (o := 0) (by omega)
      have r1 := e11.cell (o := 1) (by omega)
      have r2 := e11.cell (o := 2) (by omega)
      have r3 := e11.cell (o := 3) (by omega)
      have r4 := e11.cell (o := 4) (by omega)
      have r5 := e11.cell (o := 5) (by omega)
      have r6 := e11.cell (o := 6) (by omega)
      have r7 := e11.cell (o := 7) (by omega)
      have r8 := e11.cell (o := 8) (by omega)
      have r9 := e11.cell (o := 9) (by omega)
      have r10 := e11.cell (o := 10) (by omega)
      simp only [get11] at r0 r1 r2 r3 r4 r5 r6 r7 r8 r9 r10
      have KK := ((fd1.step (X' := X) k5 (fun c hc => .inl (.inr hc)) (fun c hc => .inl (.inl hc)))).le (show _ ≤ G + 300 by omega)
      have FF := F1.trans k5 (fun c hl hc => by omega)
      exact bodyPost_ret (v := foundV er q false noC) (by simp [results, Tryz.results44, go_sem, foundV, noC, r0, r1, r2, r3, r4, r5, r6, r7, r8, r9, r10]) rfl ⟨⟨_, _, none, rfl, HS.out⟩, KK, FF⟩
end Go.Proofs.Qxb6500283aGreat
