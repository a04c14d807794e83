/- The simulation: invocations, functions. -/
import Derived.Test.Qxb6500277aGreatGP9
namespace Go.Proofs.Qxb6500277aGreat
open Go Go.RowKit

section
variable {P : Pg} {C : List Nat} {I : List Int} {en : Nat → Nat} {n : Nat} {s t : Ss} {r : Ro} {f : Fm} {rest : List Fm} {pc pc' k : Nat} {o : List Int} {v u : Int}
theorem sim_inv {fn : Nat} {vs : List Int} (hP : PgOk P C en) (ih : IHI P C en n) (h : runI P n (bodyI P (.inv fn vs) s) = r) : SimI C P.inp P en (.inv fn vs) s r := fun f rest pc kk o hA ho hf hpi hpr hC hE => by
  obtain ⟨q1, q2, q3, _⟩ := hP.fn fn hf
  have hk := hA.kR
  have hent : CdA C (en fn) (25 :: (fiA P fn).pi :: (fiA P fn).pr :: (fiA P fn).li :: (fiA P fn).lr :: (cSs P en (en fn + 5) (fiA P fn).bb (fiA P fn).ss ++ tailC (fiA P fn).ret)) := q3
  have hlt : en fn < 65536 := by have := q3.1; have := hP.len; omega
  have hcal := i_call (C := C) (I := P.inp) (s := s) (f := f) (r := rest) (l := []) (by simpa using hC) hlt hent ho hpi (by rw [hk]; omega) q1 q2
  have hus := hA.us
  have hlen := hA.rt
  have hle := hA.le
  have hud := used_drop (r := rest) ho
  simp only [bodyI] at h
  by_cases h0 : s.fuel ≤ 0
  · rw [if_pos h0] at h
    rw [runI_ret h]
    exact fun _ => hcal.1 h0
  rw [if_neg h0] at h
  by_cases h1 : 48 < s.us - (fiA P fn).pi + 3 + (fiA P fn).li ∨ (24 : Int) < (s.M.rt.length : Int) + (fiA P fn).lr - (fiA P fn).pr
  · rw [if_pos h1] at h
    rw [runI_ret h]
    exact fun _ => hcal.2.1 h0 (by rw [← hus]; exact h1)
  rw [if_neg h1] at h
  have hto := hcal.2.2 h0 (by rw [← hus]; exact h1) (vs ++ List.replicate ((fiA P fn).li - vs.length) 0) (s.M.rt.length - (fiA P fn).pr) (s.us + (3 + (fiA P fn).li - (fiA P fn).pi))
  have hnl := nils_len ((fiA P fn).lr - (fiA P fn).pr) s.M (by omega)
  have hAg : AtS (nf s vs (fiA P fn).pr (fiA P fn).li (fiA P fn).lr (pc + 3)) (fo f o :: rest) ⟨vs ++ List.replicate ((fiA P fn).li - vs.length) 0, s.M.rt.length - (fiA P fn).pr, s.us + (3 + (fiA P fn).li - (fiA P fn).pi), nilsM ((fiA P fn).lr - (fiA P fn).pr) s.M, s.fuel - 1, s.ip, s.out⟩ 0 := by
    refine ⟨rfl, rfl, ?_, ?_, ?_⟩
    · simp only [nf]
      rw [show usedF (Fm.mk (pc + 3) (vs ++ List.replicate ((fiA P fn).li - vs.length) 0) [] (s.M.rt.length - (fiA P fn).pr) (fiA P fn).lr :: fo f o :: rest) = 3 + (vs ++ List.replicate ((fiA P fn).li - vs.length) (0 : Int)).length + 0 + usedF (fo f o :: rest) from rfl, List.length_append, List.length_replicate]
      omega
    · simp only [nf]
      omega
    · simp only []
      omega
  have hll : (nf s vs (fiA P fn).pr (fiA P fn).li (fiA P fn).lr (pc + 3)).loc.length = (fiA P fn).li := by simp only [nf, List.length_append, List.length_replicate]; omega
  rcases runI_call h with ⟨t, rfl⟩ | ⟨m, rfl, ⟨v, t, h2, h3⟩ | ⟨v, t, h2, rfl⟩ | ⟨e0, t, h2, rfl⟩⟩
  · exact fun h => absurd rfl h
  · obtain ⟨f', pc', hR, hT⟩ := ih m (by omega) _ _ _ h2 _ (fo f o :: rest) hAg rfl hll rfl hf
    obtain ⟨r1, r2, r3, r4, r5, r6, r7⟩ := hR
    rw [hll] at r4
    have r1' : f'.ret = pc + 3 := r1
    have r2' : f'.rb = s.M.rt.length - (fiA P fn).pr := r2
    have r3' : f'.lr = (fiA P fn).lr := r3
    have k1 := r6.kR
    have u1 := r6.us
    have l1 := r6.rt
    have e1 := r6.le
    have b1 := r6.rb
    have uf : usedF (f' :: fo f o :: rest) = 3 + f'.loc.length + f'.ops.length + usedF (fo f o :: rest) := rfl
    by_cases hret : 2 ≤ (fiA P fn).ret
    · rw [if_pos hret] at h3
      rw [pd_r hret] at r5
      rw [kp_r hret] at k1 l1
      have hop : byteAt C pc' = 27 ∧ pc' + 1 ≤ C.length := by unfold clsO at r7; rw [if_pos hret] at r7; exact r7
      rw [runI_ret h3]
      unfold ResE
      simp only []
      rw [pd_r hret, kp_r hret]
      have hr := i_retR (C := C) (I := P.inp) (s := t) (f := f') (g := fo f o) (r := rest) hop (by rw [k1]; omega) s.loc s.rb (t.us - (3 + (fiA P fn).li))
      rw [r1', b1] at hr
      refine ⟨⟨hA.loc, hA.rb, ?_, ?_, ?_⟩, hto.trans (hT.trans hr)⟩
      · simp only []
        rw [r5] at uf
        simp only [List.length_nil] at uf
        omega
      · simp only [fo]
        rw [show dtop t.M 1 - t.rb = ((t.M.rt.length - 1 - t.rb : Nat) : Int) by unfold dtop; omega, slide_len _ _ (by omega)]
        omega
      · simp only []
        omega
    · rw [if_neg hret] at h3
      rw [pd_i (by omega)] at r5
      rw [kp_i (by omega)] at k1 l1
      have hop : byteAt C pc' = 26 ∧ pc' + 1 ≤ C.length := by unfold clsO at r7; rw [if_neg hret] at r7; exact r7
      rw [runI_ret h3]
      unfold ResE
      simp only []
      rw [pd_i (by omega), kp_i (by omega)]
      rw [r5] at uf
      simp only [List.nil_append, List.length_cons, List.length_nil] at uf
      have hr := i_retI (C := C) (I := P.inp) (s := t) (f := f') (g := fo f o) (r := rest) (v := v) (o := []) hop r5 (by rw [k1]; omega) (by omega) s.loc s.rb (t.us - (3 + (fiA P fn).li))
      rw [r1', b1] at hr
      refine ⟨⟨hA.loc, hA.rb, ?_, ?_, ?_⟩, hto.trans (hT.trans hr)⟩
      · simp only []
        rw [used_fo] at uf ⊢
        simp only [List.length_append, List.length_cons, List.length_nil]
        omega
      · simp only [fo]
        rw [show dtop t.M 0 - t.rb = ((t.M.rt.length - t.rb : Nat) : Int) by unfold dtop; omega, pop_len _ _ (by omega)]
        omega
      · simp only []
        omega
  · exact (ih m (by omega) _ _ _ h2 _ (fo f o :: rest) hAg rfl hll rfl hf).elim
  · exact fun hne => hto.en (ih m (by omega) _ _ _ h2 _ (fo f o :: rest) hAg rfl hll rfl hf hne)
theorem sim_fn {fn : Nat} (hP : PgOk P C en) (ih : IHI P C en n) (h : runI P n (bodyI P (.fn fn) s) = r) : SimI C P.inp P en (.fn fn) s r := fun f rest hA ho hll hlr hf => by
  obtain ⟨q1, q2, q3, q4⟩ := hP.fn fn hf
  rw [← hll, ← hlr] at q4
  have q3' : CdA C (en fn) ([25, (fiA P fn).pi, (fiA P fn).pr, (fiA P fn).li, (fiA P fn).lr] ++ (cSs P en (en fn + 5) (fiA P fn).bb (fiA P fn).ss ++ tailC (fiA P fn).ret)) := q3
  obtain ⟨c1, c2⟩ := q3'.app.2.app
  rw [cSs_len] at c2
  simp only [List.length_cons, List.length_nil, Nat.zero_add, Nat.reduceAdd] at c1 c2
  have htl : 2 ≤ (tailC (fiA P fn).ret).length := by unfold tailC; split <;> simp
  have hend := c2.1
  simp only [bodyI] at h
  have key : ∀ m, m < n → ∀ r', runI P m (bodyI P (.sts (fiA P fn).bb (fiA P fn).ss) s) = r' → ResS C P.inp f rest (en fn + 5) s (fiA P fn).ret (en fn + 5 + nSs (fiA P fn).ss) r' := fun m hm r' hr => ih m hm _ _ _ hr f rest (en fn + 5) (fiA P fn).ret hA ho q4 c1 (by omega)
  rcases runI_tri h with ⟨t, rfl⟩ | ⟨m, rfl, ⟨v, t, h2, h3⟩ | ⟨v, t, h2, h3⟩ | ⟨e0, t, h2, rfl⟩⟩
  · exact fun h => absurd rfl h
  · obtain ⟨a1, a2, a3⟩ := key m (by omega) _ h2
    have k1 := a1.kR
    have u1 := a1.us
    have l1 := a1.rt
    have e1 := a1.le
    simp only [Bool.false_eq_true, if_false] at h3
    by_cases hret : 2 ≤ (fiA P fn).ret
    · rw [if_pos hret] at h3
      unfold tailC at c2
      rw [if_pos hret] at c2
      obtain ⟨_, _, c3⟩ := c2.hd
      have hp := i_nilR (C := C) (I := P.inp) (s := t) (f := { f with loc := t.loc }) (r := rest) c2.b1 (by rw [k1]; omega)
      unfold hpI at h3
      split at h3
      · rename_i h0
        rw [runI_ret h3]
        refine ⟨{ f with loc := t.loc }, en fn + 5 + nSs (fiA P fn).ss + 1, ⟨rfl, rfl, rfl, a2, by rw [pd_r hret]; exact ho, ?_, ?_⟩, a3.trans (hp.1 h0)⟩
        · rw [kp_r hret]
          refine ⟨rfl, a1.rb, a1.us, ?_, a1.le⟩
          have := push_len t.M
          simp only []
          unfold pushM at h0 this ⊢
          split at h0
          · cases h0
          · rename_i hc
            rw [if_neg hc] at this ⊢
            simp at l1 ⊢
            omega
        · unfold clsO
          rw [if_pos hret]
          exact c3.b1
      · rename_i h0
        rw [runI_ret h3]
        exact fun _ => a3.en (hp.2 h0)
    · rw [if_neg hret] at h3
      unfold tailC at c2
      rw [if_neg hret] at c2
      have hp := i_push (C := C) (I := P.inp) (s := t) (f := { f with loc := t.loc }) (r := rest) (v := 0) (l := [26]) c2 (by omega) (by omega) (by rw [k1]; omega)
      obtain ⟨_, _, c3⟩ := c2.hd
      obtain ⟨_, c4⟩ := c3.app
      unfold pushI at h3
      split at h3
      · rename_i hu
        rw [runI_ret h3]
        exact fun _ => a3.en (hp.2 (by omega))
      · rename_i hu
        rw [runI_ret h3]
        refine ⟨fo { f with loc := t.loc } (f.ops ++ [0]), en fn + 5 + nSs (fiA P fn).ss + 9, ⟨rfl, rfl, rfl, a2, by rw [pd_i (by omega), ho]; rfl, ?_, ?_⟩, a3.trans ((hp.1 (by omega)).to rfl rfl rfl rfl)⟩
        · rw [kp_i (by omega)]
          exact a1.fo_self.turn rfl rfl (by simp; omega) rfl (by simp only []; omega)
        · unfold clsO
          rw [if_neg hret]
          have e9 : en fn + 5 + nSs (fiA P fn).ss + 1 + (i64b 0).length = en fn + 5 + nSs (fiA P fn).ss + 9 := by simp [i64b]
          rw [e9] at c4
          exact c4.b1
  · obtain ⟨f', pc', b1, b2⟩ := key m (by omega) _ h2
    simp only [if_true] at h3
    rw [runI_ret h3]
    exact ⟨f', pc', b1, b2⟩
  · exact key m (by omega) _ h2
end
end Go.Proofs.Qxb6500277aGreat
