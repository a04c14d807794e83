/- The engine's Match. -/
import Derived.Test.Qxb6500283aGreatE1
namespace Go.Proofs.Qxb6500283aGreat
open Go Go.RowKit

section
variable {X : Nat → Prop} {w : World} {e sm x pk df : Nat} {a b : Ent} {G : Nat}
set_option maxRecDepth 100000 in
set_option maxHeartbeats 8000000 in
theorem matchG (h : Eng X w e sm x pk df a b G) (p s : ByteArray) (fr : Int) :
    Calls Tryz.prog 43 #[.pointer (some ⟨e, 0, none⟩), .string p, .string s, .int .i64 fr] w fun v w' => (∃ er q o, v = .returned (foundV er q (okOf o) (cpOf o)) ∧ Sol p s fr er q o) ∧ ∃ n m, Eng X w' e sm x pk df n m G ∧ Fr (EO e sm x pk df) w w' := by
  by_cases hL : 128 < p.size ∨ 256 < s.size
  · refine (matchE_long p s hL e fr w).mono ?_
    rintro v w' ⟨rfl, f⟩
    exact ⟨⟨_, _, none, rfl, .long hL⟩, a, b, h.same f, f.mono (fun _ _ h => h.elim)⟩
  · have hps : p.size ≤ 128 := by omega
    have hss : s.size ≤ 256 := by omega
    have hp1 : (p.size : Int) ≤ 128 := by omega
    have hs1 : (s.size : Int) ≤ 256 := by omega
    clear hL
    have f2 := (Fr.refl (fun _ => False) w).alloc (.cells #[.int .i64 0, .int .i64 0, .bool false, .int .i64 0, .int .i64 0, .int .i64 0, .int .i64 0, .int .i64 0, .int .i64 0, .int .i64 0, .int .i64 0] 66)
    have hRc := Blk.z11 w
    have h2 := h.step (X' := fun c => X c ∨ c = w.heap.size) f2 (fun _ h => h.elim) (fun c hc => hc.imp id (fun e => by simp [e]))
    have hout : ∀ c, EO e sm x pk df c → c < w.heap.size := fun c hc => h.lt hc
    go_enter Tryz.func43, Tryz.ntmps43
    go_wp2_with fail
    refine (recallG h2 p hps).mono ?_
    rintro v w3 ⟨rfl, n, m, hn, h3, f3⟩
    have hRc3 := hRc.frame f3 (fun hh => by have := hout _ hh; omega)
    have F3 : Fr (EO e sm x pk df) w w3 := (f2.mono (fun _ _ h => h.elim)).trans f3 (fun _ _ h => h)
    obtain ⟨c0, c1, c2, c3, c4, c5, c6, c7, _⟩ := eCells h3.mem.blk
    cases hn with
    | @err o er hM hO2 =>
      simp only at c6 c7
      have hne := coreO_err hM hO2
      have t1 : (er.1 != 0) = true := by simpa using hne
      have HM : Hid _ := hM
      have HO : Hid _ := hO2
      clear hM hO2 hne
      go_wp2_with fail
      refine wp_region_text (by kernel_rfl) (by kernel_rfl) ?_
      go_wp2_with fail
      refine (refusedF_any er.1 (er.2 : Nat) _).mono ?_
      rintro v w4 ⟨rfl, f4⟩
      have k4 := ((Fr.refl (fun _ => False) w3).drew).trans f4 (fun _ _ h => h)
      have hRc4 := hRc3.frame k4 (fun h => h)
      have hE4 := h3.same k4
      have F4 := F3.trans k4 (fun _ _ h => h.elim)
      have m0 := hRc4.cell (o := 0) (by omega)
      have m1 := hRc4.cell (o := 1) (by omega)
      have m2 := hRc4.cell (o := 2) (by omega)
      have m3 := hRc4.cell (o := 3) (by omega)
      have m4 := hRc4.cell (o := 4) (by omega)
      have m5 := hRc4.cell (o := 5) (by omega)
      have m6 := hRc4.cell (o := 6) (by omega)
      have m7 := hRc4.cell (o := 7) (by omega)
      have m8 := hRc4.cell (o := 8) (by omega)
      have m9 := hRc4.cell (o := 9) (by omega)
      have m10 := hRc4.cell (o := 10) (by omega)
      have zR := hRc4.frozen
      have lR := hRc4.lt
      rw [foundV_no]
      go_wp2_with fail
      refine ⟨by kernel_rfl, ?_⟩
      go_wp2_with fail
      have e11 := cells11 hRc4 (.int .i64 er.1) (.int .i64 (er.2 : Nat)) (.bool false) (.int .i64 (-1)) (.int .i64 (-1)) (.int .i64 (-1)) (.int .i64 (-1)) (.int .i64 (-1)) (.int .i64 (-1)) (.int .i64 (-1)) (.int .i64 (-1))
      have k5 := fr11 w4 w.heap.size (.int .i64 er.1) (.int .i64 (er.2 : Nat)) (.bool false) (.int .i64 (-1)) (.int .i64 (-1)) (.int .i64 (-1)) (.int .i64 (-1)) (.int .i64 (-1)) (.int .i64 (-1)) (.int .i64 (-1)) (.int .i64 (-1))
      have r0 := e11.cell (o := 0) (by omega)
      have r1 := e11.cell (o := 1) (by omega)
      have r2 := e11.cell (o := 2) (by omega)
      have r3 := e11.cell (o := 3) (by omega)
      have r4 := e11.cell (o := 4) (by omega)
      have r5 := e11.cell (o := 5) (by omega)
      have r6 := e11.cell (o := 6) (by omega)
      have r7 := e11.cell (o := 7) (by omega)
      have r8 := e11.cell (o := 8) (by omega)
      have r9 := e11.cell (o := 9) (by omega)
      have r10 := e11.cell (o := 10) (by omega)
      simp only [get11] at r0 r1 r2 r3 r4 r5 r6 r7 r8 r9 r10
      have K5 := hE4.step (X' := X) k5 (fun c hc => .inl (.inr hc)) (fun c hc => .inl (.inl hc))
      have FF := F4.trans k5 (fun c hl hc => by omega)
      exact bodyPost_ret (v := foundV er.1 (er.2 : Nat) false noC) (by simp [results, Tryz.results43, go_sem, foundV, noC, r0, r1, r2, r3, r4, r5, r6, r7, r8, r9, r10]) rfl ⟨⟨_, _, none, rfl, .err hps hss HM.out HO.out⟩, _, m, K5, FF⟩
    | @ok ns y g cb r code f hM hz hok hT hW hrun hcb hH =>
      simp only at c5 c6 c7
      have hp : PAt w3 cb code := hH.at hcb (Nat.le_refl _)
      have hcf : ¬ pOwn pk cb := fun hc => h3.mem.farA cb rfl (.inr (by unfold EO; simp [hc]))
      have H1 : Hid _ := hM
      have H2 : Hid _ := hrun
      have H3 : Hid _ := And.intro hz (And.intro hT hW)
      clear hM hrun hz hT hW
      obtain ⟨st, hpr, hci⟩ := h3.pr
      go_wp2_with fail
      refine wp_region_text (by kernel_rfl) (by kernel_rfl) ?_
      go_wp2_with fail
      refine (searchE_any hpr.drew hci code cb code.length hok (hp.frame (Fr.refl (fun _ => False) w3).drew (fun h => h)) hcf s hss fr (wy s r) (fun m a hh => H2.out s m a hh)).mono ?_
      rintro v w4 ⟨rfl, ⟨st', hpr', hci'⟩, f4⟩
      have k4 := ((Fr.refl (pOwn pk) w3).drew).trans f4 (fun _ _ h => h)
      have hRc4 := hRc3.frame k4 (fun hh => by have := hout w.heap.size (by unfold EO; simp [hh]); omega)
      have hE4 := h3.pike k4 hpr' hci'
      have F4 := F3.trans k4 (fun c _ hc => by unfold EO; simp [hc])
      have m0 := hRc4.cell (o := 0) (by omega)
      have m1 := hRc4.cell (o := 1) (by omega)
      have m2 := hRc4.cell (o := 2) (by omega)
      have m3 := hRc4.cell (o := 3) (by omega)
      have m4 := hRc4.cell (o := 4) (by omega)
      have m5 := hRc4.cell (o := 5) (by omega)
      have m6 := hRc4.cell (o := 6) (by omega)
      have m7 := hRc4.cell (o := 7) (by omega)
      have m8 := hRc4.cell (o := 8) (by omega)
      have m9 := hRc4.cell (o := 9) (by omega)
      have m10 := hRc4.cell (o := 10) (by omega)
      have zR := hRc4.frozen
      have lR := hRc4.lt
      unfold foundV
      go_wp2_with fail
      refine ⟨by kernel_rfl, ?_⟩
      go_wp2_with fail
      have e11 := cells11 hRc4 (.int .i64 (lfE s fr)) (.int .i64 0) (.bool (okOf (lfO s fr (wy s r)))) (.int .i64 (cpOf (lfO s fr (wy s r)) 0)) (.int .i64 (cpOf (lfO s fr (wy s r)) 1)) (.int .i64 (cpOf (lfO s fr (wy s r)) 2)) (.int .i64 (cpOf (lfO s fr (wy s r)) 3)) (.int .i64 (cpOf (lfO s fr (wy s r)) 4)) (.int .i64 (cpOf (lfO s fr (wy s r)) 5)) (.int .i64 (cpOf (lfO s fr (wy s r)) 6)) (.int .i64 (cpOf (lfO s fr (wy s r)) 7))
      have k5 := fr11 w4 w.heap.size (.int .i64 (lfE s fr)) (.int .i64 0) (.bool (okOf (lfO s fr (wy s r)))) (.int .i64 (cpOf (lfO s fr (wy s r)) 0)) (.int .i64 (cpOf (lfO s fr (wy s r)) 1)) (.int .i64 (cpOf (lfO s fr (wy s r)) 2)) (.int .i64 (cpOf (lfO s fr (wy s r)) 3)) (.int .i64 (cpOf (lfO s fr (wy s r)) 4)) (.int .i64 (cpOf (lfO s fr (wy s r)) 5)) (.int .i64 (cpOf (lfO s fr (wy s r)) 6)) (.int .i64 (cpOf (lfO s fr (wy s r)) 7))
      have r0 := e11.cell (o := 0) (by omega)
      have r1 := e11.cell (o := 1) (by omega)
      have r2 := e11.cell (o := 2) (by omega)
      have r3 := e11.cell (o := 3) (by omega)
      have r4 := e11.cell (o := 4) (by omega)
      have r5 := e11.cell (o := 5) (by omega)
      have r6 := e11.cell (o := 6) (by omega)
      have r7 := e11.cell (o := 7) (by omega)
      have r8 := e11.cell (o := 8) (by omega)
      have r9 := e11.cell (o := 9) (by omega)
      have r10 := e11.cell (o := 10) (by omega)
      simp only [get11] at r0 r1 r2 r3 r4 r5 r6 r7 r8 r9 r10
      have K5 := hE4.step (X' := X) k5 (fun c hc => .inl (.inr hc)) (fun c hc => .inl (.inl hc))
      have FF := F4.trans k5 (fun c hl hc => by omega)
      exact bodyPost_ret (v := foundV (lfE s fr) 0 (okOf (lfO s fr (wy s r))) (cpOf (lfO s fr (wy s r)))) (by simp [results, Tryz.results43, go_sem, foundV, r0, r1, r2, r3, r4, r5, r6, r7, r8, r9, r10]) rfl ⟨⟨_, _, lfO s fr (wy s r), rfl, .ok hps hss H1.out H3.out.1 H3.out.2.1 H3.out.2.2⟩, _, m, K5, FF⟩
end
end Go.Proofs.Qxb6500283aGreat
