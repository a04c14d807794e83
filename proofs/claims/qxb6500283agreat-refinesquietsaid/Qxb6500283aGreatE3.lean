/- The engine's Has. -/
import Derived.Test.Qxb6500283aGreatE1
namespace Go.Proofs.Qxb6500283aGreat
open Go Go.RowKit

theorem dErr_lf {p : List In} {s : ByteArray} {fr : Int} (hok : OkProg p) : dErr p s fr = lfE s fr := by
  unfold dErr lfE
  rw [progOK_of hok]
  simp
theorem dOk_lf {p : List In} {s : ByteArray} {fr : Int} {f : Wf} (hok : OkProg p) (hf : ∀ m a : Nat, a + m ≤ s.size + 1 → runFrom p s m a = leftG f m a) : dOk p s fr = okOf (lfO s fr f) := by
  unfold dOk
  rw [dErr_lf hok]
  unfold lfE lfO
  by_cases h1 : 256 < s.size
  · rw [if_pos h1, if_pos h1]; rfl
  · rw [if_neg h1, if_neg h1]
    by_cases h2 : fr < 0 ∨ (s.size : Int) < fr
    · rw [if_pos h2, if_pos h2]; rfl
    · rw [if_neg h2, if_neg h2]
      have e1 : runFrom p s (s.size + 1 - fr.toNat) fr.toNat = runS p s fr.toNat := rfl
      rw [← hf _ _ (by omega), e1]
      cases runS p s fr.toNat <;> rfl
theorem lf_none {s : ByteArray} {fr : Int} {f : Wf} (h : lfE s fr ≠ 0) : lfO s fr f = none := by
  unfold lfE at h
  unfold lfO
  split
  · rfl
  · rw [if_neg (by assumption)] at h
    split
    · rfl
    · rw [if_neg (by assumption)] at h; exact absurd rfl h
section
variable {X : Nat → Prop} {w w' : World} {e sm x pk df : Nat} {a b : Ent} {G : Nat}
theorem Eng.any {kv : Value} {K : List In} {ds : DS} {p : List In} {s : ByteArray} {fr : Int} (h : Eng X w e sm x pk df a b G) (hs : s.size ≤ 256) (h2 : ∀ c n k, kv = .slice (some ⟨c, 0, none⟩) n k → ¬ (X c ∨ EO e sm x pk df c)) (h3 : ds.built ≤ G ∧ ds.flushes ≤ G ∧ ds.worked ≤ G) (hA : AnyS w w' df kv K ds p s fr) : Eng X w' e sm x pk df a b (G + 300) ∧ Fr (EO e sm x pk df) w w' := by
  rcases hA with ⟨_, f⟩ | ⟨_, kv', s', hD, hG, hk, f⟩
  · exact ⟨(h.same f).le (by omega), f.mono (fun _ _ h => h.elim)⟩
  · refine ⟨h.dfa f hD (fun c n q hc => ?_) ?_, f.mono (fun c _ hc => by unfold EO; simp [hc])⟩
    · rcases hk with rfl | ⟨kb, n', c', e1, hl⟩
      · exact h2 c n q hc
      · rw [e1] at hc
        injection hc with hc
        injection hc with hc
        injection hc with hc
        rintro (hx | hx)
        · have := h.xlt hx; omega
        · have := h.lt hx; omega
    · have := hG.b2
      have := hG.f1
      have := hG.w1
      omega
set_option maxRecDepth 100000 in
set_option maxHeartbeats 8000000 in
theorem hasG (h : Eng X w e sm x pk df a b G) (hG : G ≤ 900000000000000000) (p s : ByteArray) (fr : Int) :
    Calls Tryz.prog 57 #[.pointer (some ⟨e, 0, none⟩), .string p, .string s, .int .i64 fr] w fun v w' => (∃ er q o, v = .returned (foundV er q (okOf o) noC) ∧ Sol p s fr er q o) ∧ ∃ n m, Eng X w' e sm x pk df n m (G + 300) ∧ Fr (EO e sm x pk df) w w' := by
  by_cases hL : 128 < p.size ∨ 256 < s.size
  · refine (hasE_long p s hL e fr w).mono ?_
    rintro v w' ⟨rfl, f⟩
    exact ⟨⟨_, _, none, rfl, .long hL⟩, a, b, (h.same f).le (by omega), f.mono (fun _ _ h => h.elim)⟩
  · have hps : p.size ≤ 128 := by omega
    have hss : s.size ≤ 256 := by omega
    have hp1 : (p.size : Int) ≤ 128 := by omega
    have hs1 : (s.size : Int) ≤ 256 := by omega
    clear hL
    have f2 := (Fr.refl (fun _ => False) w).alloc (.cells #[.int .i64 0, .int .i64 0, .bool false, .int .i64 0, .int .i64 0, .int .i64 0, .int .i64 0, .int .i64 0, .int .i64 0, .int .i64 0, .int .i64 0] 66)
    have hRc := Blk.z11 w
    have h2 := h.step (X' := fun c => X c ∨ c = w.heap.size) f2 (fun _ h => h.elim) (fun c hc => hc.imp id (fun e => by simp [e]))
    have hout : ∀ c, EO e sm x pk df c → c < w.heap.size := fun c hc => h.lt hc
    go_enter Tryz.func57, Tryz.ntmps57
    go_wp2_with fail
    refine (recallG h2 p hps).mono ?_
    rintro v w3 ⟨rfl, n, m, hn, h3, f3⟩
    have hRc3 := hRc.frame f3 (fun hh => by have := hout _ hh; omega)
    have F3 : Fr (EO e sm x pk df) w w3 := (f2.mono (fun _ _ h => h.elim)).trans f3 (fun _ _ h => h)
    obtain ⟨c0, c1, c2, c3, c4, c5, c6, c7, _⟩ := eCells h3.mem.blk
    cases hn with
    | @err o er hM hO2 =>
      simp only at c6 c7
      have hne := coreO_err hM hO2
      have t1 : (er.1 != 0) = true := by simpa using hne
      have HM : Hid _ := hM
      have HO : Hid _ := hO2
      clear hM hO2 hne
      go_wp2_with fail
      refine wp_region_text (by kernel_rfl) (by kernel_rfl) ?_
      go_wp2_with fail
      refine (refusedF_any er.1 (er.2 : Nat) _).mono ?_
      rintro v w4 ⟨rfl, f4⟩
      have k4 := ((Fr.refl (fun _ => False) w3).drew).trans f4 (fun _ _ h => h)
      have hRc4 := hRc3.frame k4 (fun h => h)
      have hE4 := h3.same k4
      have F4 := F3.trans k4 (fun _ _ h => h.elim)
      have m0 := hRc4.cell (o := 0) (by omega)
      have m1 := hRc4.cell (o := 1) (by omega)
      have m2 := hRc4.cell (o := 2) (by omega)
      have m3 := hRc4.cell (o := 3) (by omega)
      have m4 := hRc4.cell (o := 4) (by omega)
      have m5 := hRc4.cell (o := 5) (by omega)
      have m6 := hRc4.cell (o := 6) (by omega)
      have m7 := hRc4.cell (o := 7) (by omega)
      have m8 := hRc4.cell (o := 8) (by omega)
      have m9 := hRc4.cell (o := 9) (by omega)
      have m10 := hRc4.cell (o := 10) (by omega)
      have zR := hRc4.frozen
      have lR := hRc4.lt
      rw [foundV_no]
      go_wp2_with fail
      refine ⟨by kernel_rfl, ?_⟩
      go_wp2_with fail
      have e11 := cells11 hRc4 (.int .i64 er.1) (.int .i64 (er.2 : Nat)) (.bool false) (.int .i64 (-1)) (.int .i64 (-1)) (.int .i64 (-1)) (.int .i64 (-1)) (.int .i64 (-1)) (.int .i64 (-1)) (.int .i64 (-1)) (.int .i64 (-1))
      have k5 := fr11 w4 w.heap.size (.int .i64 er.1) (.int .i64 (er.2 : Nat)) (.bool false) (.int .i64 (-1)) (.int .i64 (-1)) (.int .i64 (-1)) (.int .i64 (-1)) (.int .i64 (-1)) (.int .i64 (-1)) (.int .i64 (-1)) (.int .i64 (-1))
      have r0 := e11.cell (o := 0) (by omega)
      have r1 := e11.cell (o := 1) (by omega)
      have r2 := e11.cell (o := 2) (by omega)
      have r3 := e11.cell (o := 3) (by omega)
      have r4 := e11.cell (o := 4) (by omega)
      have r5 := e11.cell (o := 5) (by omega)
      have r6 := e11.cell (o := 6) (by omega)
      have r7 := e11.cell (o := 7) (by omega)
      have r8 := e11.cell (o := 8) (by omega)
      have r9 := e11.cell (o := 9) (by omega)
      have r10 := e11.cell (o := 10) (by omega)
      simp only [get11] at r0 r1 r2 r3 r4 r5 r6 r7 r8 r9 r10
      have K5 := hE4.step (X' := X) k5 (fun c hc => .inl (.inr hc)) (fun c hc => .inl (.inl hc))
      have FF := F4.trans k5 (fun c hl hc => by omega)
      exact bodyPost_ret (v := foundV er.1 (er.2 : Nat) false noC) (by simp [results, Tryz.results57, go_sem, foundV, noC, r0, r1, r2, r3, r4, r5, r6, r7, r8, r9, r10]) rfl ⟨⟨_, _, none, rfl, .err hps hss HM.out HO.out⟩, _, m, K5.le (by omega), FF⟩
    | @ok ns y g cb r code f hM hz hok hT hW hrun hcb hH =>
      simp only at c5 c6 c7
      have hcf : ¬ mOwn df cb := fun hc => h3.mem.farA cb rfl (.inr (by unfold EO; simp [hc]))
      have eE := dErr_lf (s := s) (fr := fr) hok
      have eO := dOk_lf (fr := fr) hok (hrun s)
      have hlen : code.length ≤ 65 := by have := hok.max; omega
      have H1 : Hid _ := hM
      have H3 : Hid _ := And.intro hz (And.intro hT hW)
      clear hM hrun hz hT hW
      obtain ⟨kv, K, ds, hD, hkv, hb1, hb2, hb3⟩ := h3.di
      go_wp2_with fail
      refine wp_region_text (by kernel_rfl) (by kernel_rfl) ?_
      go_wp2_with fail
      have kd := (Fr.refl (fun _ => False) w3).drew
      refine (any_all (hD.frame kd) (hcb.frame kd (fun h => h)) hH (Nat.le_refl _) hcf hlen s fr (by omega) (by omega) (by omega)).mono ?_
      rintro v w4 ⟨rfl, hA⟩
      rw [eE, eO]
      obtain ⟨hE4, k4⟩ := (h3.same kd).any hss hkv ⟨hb1, hb2, hb3⟩ hA
      have hRc4 := (hRc3.frame kd (fun h => h)).frame k4 (fun hh => by have := hout w.heap.size hh; omega)
      have F4 := (F3.trans kd (fun _ _ h => h.elim)).trans k4 (fun c _ hc => hc)
      clear hA hD hkv eE eO
      by_cases hz0 : lfE s fr = 0
      · rw [hz0]
        go_wp2_with fail
        refine ⟨by kernel_rfl, ?_⟩
        go_wp2_with fail
        refine (nothing_any _).mono ?_
        rintro v w5 ⟨rfl, f5⟩
        have F5 := F4.trans f5 (fun _ _ h => h.elim)
        have hE5 := hE4.same f5
        have hRc5 := hRc4.frame f5 (fun h => h)
        rw [foundV_no]
        have m0 := hRc5.cell (o := 0) (by omega)
        have m1 := hRc5.cell (o := 1) (by omega)
        have m2 := hRc5.cell (o := 2) (by omega)
        have m3 := hRc5.cell (o := 3) (by omega)
        have m4 := hRc5.cell (o := 4) (by omega)
        have m5 := hRc5.cell (o := 5) (by omega)
        have m6 := hRc5.cell (o := 6) (by omega)
        have m7 := hRc5.cell (o := 7) (by omega)
        have m8 := hRc5.cell (o := 8) (by omega)
        have m9 := hRc5.cell (o := 9) (by omega)
        have m10 := hRc5.cell (o := 10) (by omega)
        have zR := hRc5.frozen
        have lR := hRc5.lt
        go_wp2_with fail
        have e11 := (cells11 hRc5 (.int .i64 0) (.int .i64 0) (.bool (okOf (lfO s fr (wy s r)))) (.int .i64 (-1)) (.int .i64 (-1)) (.int .i64 (-1)) (.int .i64 (-1)) (.int .i64 (-1)) (.int .i64 (-1)) (.int .i64 (-1)) (.int .i64 (-1))).alloc (.cells #[.int .i64 0, .int .i64 0, .bool (okOf (lfO s fr (wy s r))), .int .i64 (-1), .int .i64 (-1), .int .i64 (-1), .int .i64 (-1), .int .i64 (-1), .int .i64 (-1), .int .i64 (-1), .int .i64 (-1)] 66)
        have k5 := (fr11 w5 w.heap.size (.int .i64 0) (.int .i64 0) (.bool (okOf (lfO s fr (wy s r)))) (.int .i64 (-1)) (.int .i64 (-1)) (.int .i64 (-1)) (.int .i64 (-1)) (.int .i64 (-1)) (.int .i64 (-1)) (.int .i64 (-1)) (.int .i64 (-1))).alloc (.cells #[.int .i64 0, .int .i64 0, .bool (okOf (lfO s fr (wy s r))), .int .i64 (-1), .int .i64 (-1), .int .i64 (-1), .int .i64 (-1), .int .i64 (-1), .int .i64 (-1), .int .i64 (-1), .int .i64 (-1)] 66)
        have r0 := e11.cell (o := 0) (by omega)
        have r1 := e11.cell (o := 1) (by omega)
        have r2 := e11.cell (o := 2) (by omega)
        have r3 := e11.cell (o := 3) (by omega)
        have r4 := e11.cell (o := 4) (by omega)
        have r5 := e11.cell (o := 5) (by omega)
        have r6 := e11.cell (o := 6) (by omega)
        have r7 := e11.cell (o := 7) (by omega)
        have r8 := e11.cell (o := 8) (by omega)
        have r9 := e11.cell (o := 9) (by omega)
        have r10 := e11.cell (o := 10) (by omega)
        simp only [get11] at r0 r1 r2 r3 r4 r5 r6 r7 r8 r9 r10
        have K5 := hE5.step (X' := X) k5 (fun c hc => .inl (.inr hc)) (fun c hc => .inl (.inl hc))
        have FF := F5.trans k5 (fun c hl hc => by omega)
        exact bodyPost_ret (v := foundV 0 0 (okOf (lfO s fr (wy s r))) noC) (by simp [results, Tryz.results57, go_sem, foundV, noC, r0, r1, r2, r3, r4, r5, r6, r7, r8, r9, r10]) rfl ⟨⟨_, _, lfO s fr (wy s r), rfl, by have h9 := Sol.ok (fr := fr) hps hss H1.out H3.out.1 H3.out.2.1 H3.out.2.2; rwa [hz0] at h9⟩, _, m, K5, FF⟩
      · have t2 : (lfE s fr != 0) = true := by simpa using hz0
        go_wp2_with fail
        refine ⟨by kernel_rfl, ?_⟩
        go_wp2_with fail
        refine (refusedF_any (lfE s fr) 0 _).mono ?_
        rintro v w5 ⟨rfl, f5⟩
        have F5 := F4.trans f5 (fun _ _ h => h.elim)
        have hE5 := hE4.same f5
        have hRc5 := hRc4.frame f5 (fun h => h)
        rw [foundV_no]
        have m0 := hRc5.cell (o := 0) (by omega)
        have m1 := hRc5.cell (o := 1) (by omega)
        have m2 := hRc5.cell (o := 2) (by omega)
        have m3 := hRc5.cell (o := 3) (by omega)
        have m4 := hRc5.cell (o := 4) (by omega)
        have m5 := hRc5.cell (o := 5) (by omega)
        have m6 := hRc5.cell (o := 6) (by omega)
        have m7 := hRc5.cell (o := 7) (by omega)
        have m8 := hRc5.cell (o := 8) (by omega)
        have m9 := hRc5.cell (o := 9) (by omega)
        have m10 := hRc5.cell (o := 10) (by omega)
        have zR := hRc5.frozen
        have lR := hRc5.lt
        go_wp2_with fail
        have e11 := cells11 hRc5 (.int .i64 (lfE s fr)) (.int .i64 0) (.bool false) (.int .i64 (-1)) (.int .i64 (-1)) (.int .i64 (-1)) (.int .i64 (-1)) (.int .i64 (-1)) (.int .i64 (-1)) (.int .i64 (-1)) (.int .i64 (-1))
        have k5 := fr11 w5 w.heap.size (.int .i64 (lfE s fr)) (.int .i64 0) (.bool false) (.int .i64 (-1)) (.int .i64 (-1)) (.int .i64 (-1)) (.int .i64 (-1)) (.int .i64 (-1)) (.int .i64 (-1)) (.int .i64 (-1)) (.int .i64 (-1))
        have r0 := e11.cell (o := 0) (by omega)
        have r1 := e11.cell (o := 1) (by omega)
        have r2 := e11.cell (o := 2) (by omega)
        have r3 := e11.cell (o := 3) (by omega)
        have r4 := e11.cell (o := 4) (by omega)
        have r5 := e11.cell (o := 5) (by omega)
        have r6 := e11.cell (o := 6) (by omega)
        have r7 := e11.cell (o := 7) (by omega)
        have r8 := e11.cell (o := 8) (by omega)
        have r9 := e11.cell (o := 9) (by omega)
        have r10 := e11.cell (o := 10) (by omega)
        simp only [get11] at r0 r1 r2 r3 r4 r5 r6 r7 r8 r9 r10
        have K5 := hE5.step (X' := X) k5 (fun c hc => .inl (.inr hc)) (fun c hc => .inl (.inl hc))
        have FF := F5.trans k5 (fun c hl hc => by omega)
        exact bodyPost_ret (v := foundV (lfE s fr) 0 false noC) (by simp [results, Tryz.results57, go_sem, foundV, noC, r0, r1, r2, r3, r4, r5, r6, r7, r8, r9, r10]) rfl ⟨⟨_, _, lfO s fr (wy s r), by rw [lf_none hz0]; rfl, .ok hps hss H1.out H3.out.1 H3.out.2.1 H3.out.2.2⟩, _, m, K5, FF⟩
end
end Go.Proofs.Qxb6500283aGreat
