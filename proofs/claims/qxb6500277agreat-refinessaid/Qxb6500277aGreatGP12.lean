/- The simulation: branches, loops; the whole. -/
import Derived.Test.Qxb6500277aGreatGP11
namespace Go.Proofs.Qxb6500277aGreat
open Go Go.RowKit

section
variable {P : Pg} {C : List Nat} {I : List Int} {en : Nat → Nat} {n : Nat} {s t : Ss} {r : Ro} {f : Fm} {rest : List Fm} {pc pc' k : Nat} {o : List Int} {v u : Int}
theorem fo_nil (ho : f.ops = []) : fo f [] = f := by obtain ⟨a, b, c, d, e⟩ := f; simp only at ho; subst ho; rfl
/-- Something was played ahead. -/
theorem ResS.pre {ret : Int} {pc1 : Nat} {l : List Int} (hl : l.length = f.loc.length) (hT : To C I (f :: rest) pc s ({ f with loc := l } :: rest) pc1 t) (q : ResS C I { f with loc := l } rest pc1 t ret pc' r) : ResS C I f rest pc s ret pc' r := by
  unfold ResS at q ⊢
  cases r with
  | ok v' t' => exact ⟨q.1, q.2.1.trans hl, hT.trans q.2.2⟩
  | rt v' t' =>
    obtain ⟨f', pc'', q1, q2⟩ := q
    exact ⟨f', pc'', ⟨q1.rt', q1.rb, q1.lr, q1.ll.trans hl, q1.ops, q1.ats, q1.op⟩, hT.trans q2⟩
  | stop e' t' => exact fun hne => hT.en (q hne)
theorem ResS.pre0 {ret : Int} {pc1 : Nat} (hT : To C I (f :: rest) pc s (f :: rest) pc1 t) (q : ResS C I f rest pc1 t ret pc' r) : ResS C I f rest pc s ret pc' r := ResS.pre (l := f.loc) rfl hT q
theorem sim_asi {p p' : Int} {a i c : Exp} {b : Nat} (ih : IHI P C en n) (h : runI P n (bodyI P (.st b (.asg p (.idx p' a i) c)) s) = r) : SimI C P.inp P en (.st b (.asg p (.idx p' a i) c)) s r := fun f rest pc ret hA ho hW hC hE => by
  simp only [WtS] at hW
  obtain ⟨w1, w2, w3, t1, t2⟩ := hW
  simp only [cS] at hC
  simp only [nS] at hE
  simp only [bodyI] at h
  rw [show pc + nS (.asg p (.idx p' a i) c) = pc + nE a + nE i + nE c + 1 by simp only [nS]; omega]
  obtain ⟨c1, c2⟩ := hC.app
  rw [cE_len] at c2
  obtain ⟨c3, c4⟩ := c2.app
  rw [cE_len] at c4
  obtain ⟨c5, c6⟩ := c4.app
  rw [cE_len] at c6
  rcases runI_call h with ⟨t, rfl⟩ | ⟨m, rfl, ⟨v, t, h1, h2⟩ | ⟨v, t, h1, rfl⟩ | ⟨e0, t, h1, rfl⟩⟩
  · exact fun h => absurd rfl h
  · obtain ⟨a1, a2⟩ := ev_st ih (by omega) ho hA h1 w1 c1 (by omega)
    rw [pd_r t1] at a1 a2
    rw [kp_r t1] at a1
    rcases runI_call h2 with ⟨t', rfl⟩ | ⟨m2, rfl, ⟨v2, t', h3, h4⟩ | ⟨v2, t', h3, rfl⟩ | ⟨e0, t', h3, rfl⟩⟩
    · exact fun h => absurd rfl h
    · obtain ⟨b1, b2⟩ := ih m2 (by omega) _ _ _ h3 (fo f []) rest (pc + nE a) 1 a1 w2 c3 (by omega)
      rw [pd_i t2] at b1 b2
      rw [kp_i t2] at b1
      have b1' : AtS (fo f [v2]) rest t' 1 := b1
      have b2' : To C P.inp (fo f [] :: rest) (pc + nE a) t (fo f [v2] :: rest) (pc + nE a + nE i) t' := b2
      rcases runI_call h4 with ⟨t3, rfl⟩ | ⟨m3, rfl, ⟨v3, t3, h5, h6⟩ | ⟨v3, t3, h5, rfl⟩ | ⟨e0, t3, h5, rfl⟩⟩
      · exact fun h => absurd rfl h
      · obtain ⟨d1, d2⟩ := ih m3 (by omega) _ _ _ h5 (fo f [v2]) rest (pc + nE a + nE i) 1 b1' w3 c5 (by omega)
        have lr := d1.rt
        by_cases ht : 2 ≤ tyA P (rtN (b + (szE a + szE i + 1)) c)
        · rw [if_pos ht] at h6
          unfold clsO at c6
          rw [if_pos ht] at c6
          rw [pd_r ht] at d1 d2
          rw [kp_r ht] at d1 lr
          have d1' : AtS (fo f [v2]) rest t3 2 := d1
          have d2' : To C P.inp (fo f [v2] :: rest) (pc + nE a + nE i) t' (fo f [v2] :: rest) (pc + nE a + nE i + nE c) t3 := d2
          have hp := i_setR (C := C) (I := P.inp) (s := t3) (f := fo f [v2]) (r := rest) (o := []) (i := v2) c6.b1 rfl (by rw [d1'.kR]; omega)
          unfold hpI at h6
          split at h6
          · rename_i h0
            rw [runI_ret h6]
            have hlen : 2 ≤ (stRefM t3.M (dtop t3.M 2) v2 (dtop t3.M 1)).2.rt.length := by rw [stRef_len]; omega
            exact stay ho hA d1' rfl rfl (by simp) (by simp only []; rw [pop2_len hlen, stRef_len]; rw [stRef_len] at hlen; omega) ((a2.trans (b2'.trans (d2'.trans (hp.1 h0)))).to rfl rfl rfl rfl)
          · rename_i h0
            rw [runI_ret h6]
            exact fun _ => a2.en (b2'.en (d2'.en (hp.2 h0)))
        · rw [if_neg ht] at h6
          unfold clsO at c6
          rw [if_neg ht] at c6
          rw [pd_i (by omega)] at d1 d2
          rw [kp_i (by omega)] at d1 lr
          have d1' : AtS (fo f [v2, v3]) rest t3 1 := d1
          have d2' : To C P.inp (fo f [v2] :: rest) (pc + nE a + nE i) t' (fo f [v2, v3] :: rest) (pc + nE a + nE i + nE c) t3 := d2
          have hp := i_setI (C := C) (I := P.inp) (s := t3) (f := fo f [v2, v3]) (r := rest) (o := []) (i := v2) (v := v3) c6.b1 rfl (by rw [d1'.kR]; omega)
          unfold hpI at h6
          split at h6
          · rename_i h0
            rw [runI_ret h6]
            have hlen : 1 ≤ (stIntM t3.M (dtop t3.M 1) v2 v3).2.rt.length := by rw [stInt_len]; omega
            exact stay ho hA d1' rfl rfl (by simp) (by simp only []; rw [pop1_len hlen, stInt_len]; rw [stInt_len] at hlen; omega) ((a2.trans (b2'.trans (d2'.trans (hp.1 h0)))).to rfl rfl rfl rfl)
          · rename_i h0
            rw [runI_ret h6]
            exact fun _ => a2.en (b2'.en (d2'.en (hp.2 h0)))
      · exact (ih m3 (by omega) _ _ _ h5 (fo f [v2]) rest (pc + nE a + nE i) 1 b1' w3 c5 (by omega)).elim
      · exact fun hne => a2.en (b2'.en (ih m3 (by omega) _ _ _ h5 (fo f [v2]) rest (pc + nE a + nE i) 1 b1' w3 c5 (by omega) hne))
    · exact (ih m2 (by omega) _ _ _ h3 (fo f []) rest (pc + nE a) 1 a1 w2 c3 (by omega)).elim
    · exact fun hne => a2.en (ih m2 (by omega) _ _ _ h3 (fo f []) rest (pc + nE a) 1 a1 w2 c3 (by omega) hne)
  · exact (ev_st ih (by omega) ho hA h1 w1 c1 (by omega)).elim
  · exact ev_st ih (by omega) ho hA h1 w1 c1 (by omega)
/-- A condition and its jump. -/
theorem cond_to {b X : Nat} {e : Exp} {l : List Nat} (hcl : C.length < 65536) (ho : f.ops = []) (ty : tyA P (rtN b e) < 2) (hc : CdA C (pc + nE e) (22 :: (u16b X ++ l))) (h1 : pc + nE e < X) (h2 : X < C.length) (a1 : AtS (fo f (pd (tyA P (rtN b e)) [] v)) rest t (kp (tyA P (rtN b e)) 0)) (a2 : To C I (f :: rest) pc s (fo f (pd (tyA P (rtN b e)) [] v) :: rest) (pc + nE e) t) :
    AtS f rest { t with us := t.us - 1 } 0 ∧ To C I (f :: rest) pc s (f :: rest) (if v = 0 then X else pc + nE e + 3) { t with us := t.us - 1 } := by
  rw [pd_i ty] at a1 a2
  rw [kp_i ty] at a1
  have hj := i_jif (C := C) (I := I) (s := t) (f := fo f ([] ++ [v])) (r := rest) (o := []) (v := v) true hc (by omega) h1 h2 rfl (by rw [a1.kR]; omega)
  have e : fo f [] = f := fo_nil ho
  have e5 := a1.le
  refine ⟨?_, ?_⟩
  · have := a1.turn (o' := []) (t' := { t with us := t.us - 1 }) (k' := 0) rfl rfl (by simp) rfl (by simp only []; omega)
    rw [e] at this
    exact this
  · have q := a2.trans hj
    rw [show fo (fo f ([] ++ [v])) [] = f from e] at q
    by_cases hv : v = 0
    · rw [if_pos hv]
      rw [if_pos (by simp [hv])] at q
      exact q.to rfl rfl rfl rfl
    · rw [if_neg hv]
      rw [if_neg (by simp [hv])] at q
      exact q.to rfl rfl rfl rfl
theorem u16_len (x : Nat) : (u16b x).length = 2 := rfl
theorem sim_iff {p bp : Int} {e : Exp} {ss : Stms} {b : Nat} (hcl : C.length < 65536) (ih : IHI P C en n) (h : runI P n (bodyI P (.st b (.iff p e bp ss)) s) = r) : SimI C P.inp P en (.st b (.iff p e bp ss)) s r := fun f rest pc ret hA ho hW hC hE => by
  simp only [WtS] at hW
  simp only [cS] at hC
  simp only [nS] at hE
  simp only [bodyI] at h
  rw [show pc + nS (.iff p e bp ss) = pc + nE e + 3 + nSs ss by simp only [nS]; omega]
  obtain ⟨c1, c2⟩ := hC.app
  rw [cE_len] at c2
  obtain ⟨_, _, c3⟩ := c2.hd
  obtain ⟨_, c4⟩ := c3.app
  rw [u16_len] at c4
  rcases runI_call h with ⟨t, rfl⟩ | ⟨m, rfl, ⟨v, t, h1, h2⟩ | ⟨v, t, h1, rfl⟩ | ⟨e0, t, h1, rfl⟩⟩
  · exact fun h => absurd rfl h
  · obtain ⟨a1, a2⟩ := ev_st ih (by omega) ho hA h1 hW.1 c1 (by omega)
    have hlen : pc + nE e + 3 + nSs ss ≤ C.length := by omega
    obtain ⟨b1, b2⟩ := cond_to hcl ho hW.2.1 c2 (by omega) (by omega) a1 a2
    by_cases hv : v = 0
    · rw [if_neg (by simp [hv])] at h2
      rw [if_pos hv] at b2
      rw [runI_ret h2]
      have e := fo_nil ho
      refine stay (o := []) (k := 0) (t := { t with us := t.us - 1 }) ho hA (by rw [e]; exact b1) rfl rfl (by simp) rfl ?_
      rw [e]
      exact b2
    · rw [if_pos hv] at h2
      rw [if_neg hv] at b2
      have key : ∀ m2, m2 < m + 1 → ∀ r', runI P m2 (bodyI P (.sts (b + szE e) ss) { t with us := t.us - 1 }) = r' → ResS C P.inp f rest pc s ret (pc + nE e + 3 + nSs ss) r' := fun m2 hm2 r' hr => ResS.pre0 b2 (ih m2 hm2 _ _ _ hr f rest (pc + nE e + 3) ret b1 ho hW.2.2 c4 (by omega))
      rcases runI_call h2 with ⟨t', rfl⟩ | ⟨m2, rfl, ⟨v2, t', h3, h4⟩ | ⟨v2, t', h3, rfl⟩ | ⟨e0, t', h3, rfl⟩⟩
      · exact fun h => absurd rfl h
      · have := key m2 (by omega) _ h3
        rw [runI_ret h4]
        exact this
      · exact key m2 (by omega) _ h3
      · exact key m2 (by omega) _ h3
  · exact (ev_st ih (by omega) ho hA h1 hW.1 c1 (by omega)).elim
  · exact ev_st ih (by omega) ho hA h1 hW.1 c1 (by omega)
theorem sim_ife {p bp cp : Int} {e : Exp} {ss cs : Stms} {b : Nat} (hcl : C.length < 65536) (ih : IHI P C en n) (h : runI P n (bodyI P (.st b (.ife p e bp ss cp cs)) s) = r) : SimI C P.inp P en (.st b (.ife p e bp ss cp cs)) s r := fun f rest pc ret hA ho hW hC hE => by
  simp only [WtS] at hW
  simp only [cS] at hC
  simp only [nS] at hE
  simp only [bodyI] at h
  rw [show pc + nS (.ife p e bp ss cp cs) = pc + nE e + 3 + nSs ss + 3 + nSs cs by simp only [nS]; omega]
  obtain ⟨c1, c2⟩ := hC.app
  rw [cE_len] at c2
  obtain ⟨_, _, c3⟩ := c2.hd
  obtain ⟨_, c4⟩ := c3.app
  rw [u16_len] at c4
  obtain ⟨c5, c6⟩ := c4.app
  rw [cSs_len] at c6
  obtain ⟨_, _, c7⟩ := c6.hd
  obtain ⟨_, c8⟩ := c7.app
  rw [u16_len] at c8
  rcases runI_call h with ⟨t, rfl⟩ | ⟨m, rfl, ⟨v, t, h1, h2⟩ | ⟨v, t, h1, rfl⟩ | ⟨e0, t, h1, rfl⟩⟩
  · exact fun h => absurd rfl h
  · obtain ⟨a1, a2⟩ := ev_st ih (by omega) ho hA h1 hW.1 c1 (by omega)
    obtain ⟨b1, b2⟩ := cond_to hcl ho hW.2.1 c2 (by omega) (by omega) a1 a2
    by_cases hv : v = 0
    · rw [if_neg (by simp [hv])] at h2
      rw [if_pos hv] at b2
      have key : ∀ m2, m2 < m + 1 → ∀ r', runI P m2 (bodyI P (.sts (b + szE e + (szSs ss + 1)) cs) { t with us := t.us - 1 }) = r' → ResS C P.inp f rest pc s ret (pc + nE e + 3 + nSs ss + 3 + nSs cs) r' := fun m2 hm2 r' hr => ResS.pre0 b2 (ih m2 hm2 _ _ _ hr f rest (pc + nE e + 3 + nSs ss + 3) ret b1 ho hW.2.2.2 c8 (by omega))
      rcases runI_call h2 with ⟨t', rfl⟩ | ⟨m2, rfl, ⟨v2, t', h3, h4⟩ | ⟨v2, t', h3, rfl⟩ | ⟨e0, t', h3, rfl⟩⟩
      · exact fun h => absurd rfl h
      · have := key m2 (by omega) _ h3
        rw [runI_ret h4]
        exact this
      · exact key m2 (by omega) _ h3
      · exact key m2 (by omega) _ h3
    · rw [if_pos hv] at h2
      rw [if_neg hv] at b2
      have key : ∀ m2, m2 < m + 1 → ∀ r', runI P m2 (bodyI P (.sts (b + szE e) ss) { t with us := t.us - 1 }) = r' → ResS C P.inp f rest pc s ret (pc + nE e + 3 + nSs ss) r' := fun m2 hm2 r' hr => ResS.pre0 b2 (ih m2 hm2 _ _ _ hr f rest (pc + nE e + 3) ret b1 ho hW.2.2.1 c5 (by omega))
      rcases runI_call h2 with ⟨t', rfl⟩ | ⟨m2, rfl, ⟨v2, t', h3, h4⟩ | ⟨v2, t', h3, rfl⟩ | ⟨e0, t', h3, rfl⟩⟩
      · exact fun h => absurd rfl h
      · obtain ⟨d1, d2, d3⟩ := key m2 (by omega) _ h3
        rw [runI_ret h4]
        have jm := i_jmp (C := C) (I := P.inp) (s := t') (f := { f with loc := t'.loc }) (r := rest) (pc := pc + nE e + 3 + nSs ss) (t := pc + nE e + 3 + nSs ss + 3 + nSs cs) c6 (by omega) (by omega) (by omega) (by rw [d1.kR]; omega)
        exact ⟨d1, d2, d3.trans jm⟩
      · exact key m2 (by omega) _ h3
      · exact key m2 (by omega) _ h3
  · exact (ev_st ih (by omega) ho hA h1 hW.1 c1 (by omega)).elim
  · exact ev_st ih (by omega) ho hA h1 hW.1 c1 (by omega)
theorem sim_loop {e : Exp} {ss : Stms} {b : Nat} (hcl : C.length < 65536) (ih : IHI P C en n) (h : runI P n (bodyI P (.loop b e ss) s) = r) : SimI C P.inp P en (.loop b e ss) s r := fun f rest pc ret hA ho hW hC hE => by
  have hW0 := hW
  have hC0 := hC
  have hE0 := hE
  simp only [WtS] at hW
  simp only [cS] at hC
  simp only [nS] at hE
  simp only [bodyI] at h
  have hn : pc + nS (.whl 0 e 0 ss) = pc + nE e + 3 + nSs ss + 3 := by simp only [nS]; omega
  rw [hn]
  obtain ⟨c1, c2⟩ := hC.app
  rw [cE_len] at c2
  obtain ⟨_, _, c3⟩ := c2.hd
  obtain ⟨_, c4⟩ := c3.app
  rw [u16_len] at c4
  obtain ⟨c5, c6⟩ := c4.app
  rw [cSs_len] at c6
  rcases runI_call h with ⟨t, rfl⟩ | ⟨m, rfl, ⟨v, t, h1, h2⟩ | ⟨v, t, h1, rfl⟩ | ⟨e0, t, h1, rfl⟩⟩
  · exact fun h => absurd rfl h
  · obtain ⟨a1, a2⟩ := ev_st ih (by omega) ho hA h1 hW.1 c1 (by omega)
    obtain ⟨b1, b2⟩ := cond_to hcl ho hW.2.1 c2 (by omega) (by omega) a1 a2
    by_cases hv : v = 0
    · rw [if_pos hv] at h2 b2
      rw [runI_ret h2]
      have e := fo_nil ho
      refine stay (o := []) (k := 0) (t := { t with us := t.us - 1 }) ho hA (by rw [e]; exact b1) rfl rfl (by simp) rfl ?_
      rw [e]
      exact b2
    · rw [if_neg hv] at h2 b2
      have key : ∀ m2, m2 < m + 1 → ∀ r', runI P m2 (bodyI P (.sts (b + szE e) ss) { t with us := t.us - 1 }) = r' → ResS C P.inp f rest pc s ret (pc + nE e + 3 + nSs ss) r' := fun m2 hm2 r' hr => ResS.pre0 b2 (ih m2 hm2 _ _ _ hr f rest (pc + nE e + 3) ret b1 ho hW.2.2 c5 (by omega))
      rcases runI_call h2 with ⟨t', rfl⟩ | ⟨m2, rfl, ⟨v2, t', h3, h4⟩ | ⟨v2, t', h3, rfl⟩ | ⟨e0, t', h3, rfl⟩⟩
      · exact fun h => absurd rfl h
      · obtain ⟨d1, d2, d3⟩ := key m2 (by omega) _ h3
        have bk := i_back (C := C) (I := P.inp) (s := t') (f := { f with loc := t'.loc }) (r := rest) (l := []) (t := pc) (pc := pc + nE e + 3 + nSs ss) (by simpa using c6) (by omega) (by omega) (by rw [d1.kR]; omega)
        by_cases hfu : t'.fuel ≤ 0
        · rw [if_pos hfu] at h4
          rw [runI_ret h4]
          exact fun _ => d3.en (bk.2 hfu)
        · rw [if_neg hfu] at h4
          have hA' : AtS { f with loc := t'.loc } rest { t' with fuel := t'.fuel - 1 } 0 := ⟨rfl, d1.rb, d1.us, d1.rt, d1.le⟩
          have key2 : ∀ m3, m3 < m2 + 1 + 1 → ∀ r', runI P m3 (bodyI P (.loop b e ss) { t' with fuel := t'.fuel - 1 }) = r' → ResS C P.inp f rest pc s ret (pc + nE e + 3 + nSs ss + 3) r' := fun m3 hm3 r' hr => by
            refine ResS.pre (t := { t' with fuel := t'.fuel - 1 }) d2 (d3.trans (bk.1 hfu)) ?_
            have q := ih m3 hm3 _ _ _ hr { f with loc := t'.loc } rest pc ret hA' ho (by rw [show ({ f with loc := t'.loc } : Fm).loc.length = f.loc.length from d2]; exact hW0) hC0 hE0
            rw [hn] at q
            exact q
          rcases runI_call h4 with ⟨t3, rfl⟩ | ⟨m3, rfl, ⟨v3, t3, h5, h6⟩ | ⟨v3, t3, h5, rfl⟩ | ⟨e0, t3, h5, rfl⟩⟩
          · exact fun h => absurd rfl h
          · have := key2 m3 (by omega) _ h5
            rw [runI_ret h6]
            exact this
          · exact key2 m3 (by omega) _ h5
          · exact key2 m3 (by omega) _ h5
      · exact key m2 (by omega) _ h3
      · exact key m2 (by omega) _ h3
  · exact (ev_st ih (by omega) ho hA h1 hW.1 c1 (by omega)).elim
  · exact ev_st ih (by omega) ho hA h1 hW.1 c1 (by omega)
theorem sim_whl {p bp : Int} {e : Exp} {ss : Stms} {b : Nat} (ih : IHI P C en n) (h : runI P n (bodyI P (.st b (.whl p e bp ss)) s) = r) : SimI C P.inp P en (.st b (.whl p e bp ss)) s r := fun f rest pc ret hA ho hW hC hE => by
  simp only [bodyI] at h
  have key : ∀ m, m < n → ∀ r', runI P m (bodyI P (.loop b e ss) s) = r' → ResS C P.inp f rest pc s ret (pc + nS (.whl p e bp ss)) r' := fun m hm r' hr => by
    have q := ih m hm _ _ _ hr f rest pc ret hA ho (by simpa only [WtS] using hW) (by simpa only [cS] using hC) (by simpa only [nS] using hE)
    simpa only [nS] using q
  rcases runI_call h with ⟨t, rfl⟩ | ⟨m, rfl, ⟨v, t, h1, h2⟩ | ⟨v, t, h1, rfl⟩ | ⟨e0, t, h1, rfl⟩⟩
  · exact fun h => absurd rfl h
  · have := key m (by omega) _ h1
    rw [runI_ret h2]
    exact this
  · exact key m (by omega) _ h1
  · exact key m (by omega) _ h1
/-- THE SIMULATION. -/
theorem simulate (hP : PgOk P C en) : ∀ n q s r, runI P n (bodyI P q s) = r → SimI C P.inp P en q s r := by
  intro n
  induction n using Nat.strongRecOn with
  | _ n ih0 =>
  intro q s r h
  have ih : IHI P C en n := ih0
  cases q with
  | ev b e =>
    cases e with
    | num v p => exact sim_num v p h
    | boo v p => exact sim_boo v p h
    | var nm p => exact sim_var nm p h
    | rd p => exact sim_rd p h
    | call nm p gs => exact sim_call ih h
    | idx p a i => exact sim_idx ih h
    | new t p e => exact sim_new ih h
    | len p e => exact sim_len ih h
    | un k p e => exact sim_un ih h
    | bin k p l e => exact sim_bin hP.len ih h
  | args fn b es vs => exact sim_args ih h
  | inv fn vs => exact sim_inv hP ih h
  | fn fn => exact sim_fn hP ih h
  | st b x =>
    cases x with
    | vd nm p t e => exact sim_vd ih h
    | asg p a c =>
      cases a with
      | var nm p' => exact sim_asv ih h
      | idx p' a i => exact sim_asi ih h
      | _ => exact fun f rest pc ret hA ho hW hC hE => by simp only [WtS] at hW
    | iff p e bp ss => exact sim_iff hP.len ih h
    | ife p e bp ss cp cs => exact sim_ife hP.len ih h
    | whl p e bp ss => exact sim_whl ih h
    | ret p e => exact sim_ret ih h
    | prt p e => exact sim_prt ih h
    | exp e => exact sim_exp ih h
  | sts b ss => exact sim_sts ih h
  | loop b e ss => exact sim_loop hP.len ih h
end
end Go.Proofs.Qxb6500277aGreat
