/- The simulation: statements. -/
import Derived.Test.Qxb6500277aGreatGP10
namespace Go.Proofs.Qxb6500277aGreat
open Go Go.RowKit

section
variable {P : Pg} {C : List Nat} {I : List Int} {en : Nat → Nat} {n : Nat} {s t : Ss} {r : Ro} {f : Fm} {rest : List Fm} {pc pc' k : Nat} {o : List Int} {v u : Int}
theorem fr_loc (h : f.ops = []) (o : List Int) (l : List Int) : { fo (fo f o) [] with loc := l } = { f with loc := l } := by
  obtain ⟨a, b, c, d, e⟩ := f
  simp only at h
  subst h
  rfl
theorem fr_same (h : f.ops = []) (hl : f.loc = s.loc) : fo f [] = { f with loc := s.loc } := by
  obtain ⟨a, b, c, d, e⟩ := f
  simp only at h hl
  subst h hl
  rfl
/-- A statement leaves no operand and its locals. -/
theorem stay {ret : Int} {t' : Ss} (ho : f.ops = []) (_hA : AtS f rest s 0) (a1 : AtS (fo f o) rest t k) (e1 : t'.loc = t.loc) (e2 : t'.rb = t.rb) (e3 : t'.us = t.us - o.length) (e4 : t'.M.rt.length + k = t.M.rt.length) (hT : To C I (f :: rest) pc s (fo f [] :: rest) pc' t') : ResS C I f rest pc s ret pc' (.ok v t') := by
  have h1 : t'.loc = f.loc := by rw [e1]; exact a1.loc.symm
  have e5 := a1.le
  have a2 : AtS (fo f []) rest t' 0 := a1.turn e1 e2 (by simp; omega) (by omega) (by omega)
  have e : fo f [] = { f with loc := t'.loc } := fr_same ho h1.symm
  unfold ResS
  simp only []
  rw [← e]
  exact ⟨a2, by rw [h1], hT⟩
theorem store_res {ret ty tv : Int} {x : Nat} (ho : f.ops = []) (hA : AtS f rest s 0) (a1 : AtS (fo f (pd ty [] v)) rest t (kp ty 0)) (a2 : To C P.inp (f :: rest) pc s (fo f (pd ty [] v) :: rest) pc' t) (hc : CdA C pc' [clsO tv 3 5, rfA P x]) (hcl : 2 ≤ tv ↔ 2 ≤ ty) (hs : slotOk P f.loc.length f.lr x tv) (h : runI P n (storeI P x tv v t) = r) :
    ResS C P.inp f rest pc s ret (pc' + 2) r := by
  unfold storeI at h
  unfold slotOk at hs
  unfold clsO at hc
  have k1 := a1.kR
  have l1 := a1.rt
  by_cases ht : 2 ≤ tv
  · rw [if_pos ht] at h hs hc
    rw [runI_ret h]
    rw [pd_r (hcl.1 ht)] at a1 a2 k1 l1
    rw [kp_r (hcl.1 ht)] at a1 k1 l1
    have hp := i_stR (C := C) (I := P.inp) (s := t) (f := fo f []) (r := rest) hc hs (by rw [k1]; omega)
    have hrb : f.rb = t.rb := a1.rb
    rw [show (fo f []).rb = t.rb from hrb] at hp
    simp only [fo] at l1
    refine stay ho hA a1 rfl rfl (by simp) ?_ (a2.trans hp)
    simp only []
    rw [set_len _ _ (by omega)]
    omega
  · rw [if_neg ht] at h hs hc
    rw [runI_ret h]
    have ht2 : ty < 2 := by have := fun h => ht (hcl.2 h); omega
    rw [pd_i ht2] at a1 a2 k1
    rw [kp_i ht2] at a1 k1
    have hp := i_stI (C := C) (I := P.inp) (s := t) (f := fo f ([] ++ [v])) (r := rest) hc hs rfl (by rw [k1]; omega)
    have hl : f.loc = t.loc := a1.loc
    have hT : To C P.inp (f :: rest) pc s ({ f with loc := t.loc.set (rfA P x) v } :: rest) (pc' + 2) t := by
      have := a2.trans hp
      rw [show ({ fo (fo f ([] ++ [v])) [] with loc := (fo f ([] ++ [v])).loc.set (rfA P x) v } : Fm) = { f with loc := t.loc.set (rfA P x) v } by
        have e1 : (fo f ([] ++ [v])).loc = t.loc := hl
        rw [e1]
        exact fr_loc ho _ _] at this
      exact this
    have u1 := a1.us
    have e1 := a1.le
    refine ⟨⟨rfl, a1.rb, ?_, a1.rt, by simp only []; omega⟩, ?_, hT.to rfl rfl rfl rfl⟩
    · simp only []
      rw [used_fo] at u1
      rw [show usedF ({ f with loc := t.loc.set (rfA P x) v } :: rest) = 3 + (t.loc.set (rfA P x) v).length + f.ops.length + usedF rest from rfl, ho, List.length_set]
      simp only [List.nil_append, List.length_cons, List.length_nil] at u1
      rw [← hl]
      simp only [List.length_nil]
      omega
    · simp only [List.length_set]
      rw [← hl]
/-- An expression at a statement's place. -/
theorem ev_st {b : Nat} {e : Exp} (ih : IHI P C en n) {m : Nat} (hm : m < n) (ho : f.ops = []) (hA : AtS f rest s k) {r' : Ro} (hr : runI P m (bodyI P (.ev b e) s) = r') (hW : WtE P f.loc.length f.lr b e) (hC : CdA C pc (cE P en pc b e)) (hE : pc + nE e < C.length) :
    ResE C P.inp f rest pc s (tyA P (rtN b e)) (pc + nE e) [] k r' := by
  have := ih m hm _ _ _ hr f rest pc k hA hW hC hE
  rw [ho] at this
  exact this
theorem sim_vd {nm : ByteArray} {p ty : Int} {e : Exp} {b : Nat} (ih : IHI P C en n) (h : runI P n (bodyI P (.st b (.vd nm p ty e)) s) = r) : SimI C P.inp P en (.st b (.vd nm p ty e)) s r := fun f rest pc ret hA ho hW hC hE => by
  simp only [WtS] at hW
  simp only [cS] at hC
  simp only [nS] at hE
  simp only [bodyI] at h
  rw [show pc + nS (.vd nm p ty e) = pc + nE e + 2 by simp only [nS]; omega]
  obtain ⟨c1, c2⟩ := hC.app
  rw [cE_len] at c2
  rcases runI_call h with ⟨t, rfl⟩ | ⟨m, rfl, ⟨v, t, h1, h2⟩ | ⟨v, t, h1, rfl⟩ | ⟨e0, t, h1, rfl⟩⟩
  · exact fun h => absurd rfl h
  · obtain ⟨a1, a2⟩ := ev_st ih (by omega) ho hA h1 hW.1 c1 (by omega)
    exact store_res ho hA a1 a2 c2 hW.2.1 hW.2.2 h2
  · exact (ev_st ih (by omega) ho hA h1 hW.1 c1 (by omega)).elim
  · exact ev_st ih (by omega) ho hA h1 hW.1 c1 (by omega)
theorem sim_asv {nm : ByteArray} {p p' : Int} {c : Exp} {b : Nat} (ih : IHI P C en n) (h : runI P n (bodyI P (.st b (.asg p (.var nm p') c)) s) = r) : SimI C P.inp P en (.st b (.asg p (.var nm p') c)) s r := fun f rest pc ret hA ho hW hC hE => by
  simp only [WtS] at hW
  simp only [cS, szE] at hC
  simp only [nS] at hE
  simp only [bodyI, szE] at h
  rw [show pc + nS (.asg p (.var nm p') c) = pc + nE c + 2 by simp only [nS]; omega]
  obtain ⟨c1, c2⟩ := hC.app
  rw [cE_len] at c2
  rcases runI_call h with ⟨t, rfl⟩ | ⟨m, rfl, ⟨v, t, h1, h2⟩ | ⟨v, t, h1, rfl⟩ | ⟨e0, t, h1, rfl⟩⟩
  · exact fun h => absurd rfl h
  · obtain ⟨a1, a2⟩ := ev_st ih (by omega) ho hA h1 hW.1 c1 (by omega)
    exact store_res ho hA a1 a2 c2 hW.2.1 hW.2.2 h2
  · exact (ev_st ih (by omega) ho hA h1 hW.1 c1 (by omega)).elim
  · exact ev_st ih (by omega) ho hA h1 hW.1 c1 (by omega)
theorem sim_ret {p : Int} {e : Exp} {b : Nat} (ih : IHI P C en n) (h : runI P n (bodyI P (.st b (.ret p e)) s) = r) : SimI C P.inp P en (.st b (.ret p e)) s r := fun f rest pc ret hA ho hW hC hE => by
  simp only [WtS] at hW
  simp only [cS] at hC
  simp only [nS] at hE
  simp only [bodyI] at h
  obtain ⟨c1, c2⟩ := hC.app
  rw [cE_len] at c2
  rcases runI_call h with ⟨t, rfl⟩ | ⟨m, rfl, ⟨v, t, h1, h2⟩ | ⟨v, t, h1, rfl⟩ | ⟨e0, t, h1, rfl⟩⟩
  · exact fun h => absurd rfl h
  · obtain ⟨a1, a2⟩ := ev_st ih (by omega) ho hA h1 hW.1 c1 (by omega)
    rw [runI_ret h2]
    have ep : pd (tyA P (rtN b e)) [] v = pd ret [] v := by unfold pd; simp only [hW.2]
    have ek : kp (tyA P (rtN b e)) 0 = kp ret 0 := by unfold kp; simp only [hW.2]
    rw [ep] at a1 a2
    rw [ek] at a1
    refine ⟨fo f (pd ret [] v), pc + nE e, ⟨rfl, rfl, rfl, rfl, rfl, a1, ?_⟩, a2⟩
    have ec : clsO (tyA P (rtN b e)) 26 27 = clsO ret 26 27 := by unfold clsO; simp only [hW.2]
    rw [ec] at c2
    exact c2.b1
  · exact (ev_st ih (by omega) ho hA h1 hW.1 c1 (by omega)).elim
  · exact ev_st ih (by omega) ho hA h1 hW.1 c1 (by omega)
theorem sim_prt {p : Int} {e : Exp} {b : Nat} (ih : IHI P C en n) (h : runI P n (bodyI P (.st b (.prt p e)) s) = r) : SimI C P.inp P en (.st b (.prt p e)) s r := fun f rest pc ret hA ho hW hC hE => by
  simp only [WtS] at hW
  simp only [cS] at hC
  simp only [nS] at hE
  simp only [bodyI] at h
  rw [show pc + nS (.prt p e) = pc + nE e + 1 by simp only [nS]; omega]
  obtain ⟨c1, c2⟩ := hC.app
  rw [cE_len] at c2
  rcases runI_call h with ⟨t, rfl⟩ | ⟨m, rfl, ⟨v, t, h1, h2⟩ | ⟨v, t, h1, rfl⟩ | ⟨e0, t, h1, rfl⟩⟩
  · exact fun h => absurd rfl h
  · obtain ⟨a1, a2⟩ := ev_st ih (by omega) ho hA h1 hW.1 c1 (by omega)
    rw [pd_i hW.2] at a1 a2
    rw [kp_i hW.2] at a1
    have hp := i_print (C := C) (I := P.inp) (s := t) (f := fo f ([] ++ [v])) (r := rest) c2.b1 rfl (by rw [a1.kR]; omega)
    split at h2
    · rename_i h0
      rw [runI_ret h2]
      exact fun _ => a2.en (hp.2 h0)
    · rename_i h0
      rw [runI_ret h2]
      exact stay ho hA a1 rfl rfl (by simp) rfl ((a2.trans (hp.1 h0)).to rfl rfl rfl rfl)
  · exact (ev_st ih (by omega) ho hA h1 hW.1 c1 (by omega)).elim
  · exact ev_st ih (by omega) ho hA h1 hW.1 c1 (by omega)
theorem sim_exp {e : Exp} {b : Nat} (ih : IHI P C en n) (h : runI P n (bodyI P (.st b (.exp e)) s) = r) : SimI C P.inp P en (.st b (.exp e)) s r := fun f rest pc ret hA ho hW hC hE => by
  simp only [WtS] at hW
  simp only [cS] at hC
  simp only [nS] at hE
  simp only [bodyI] at h
  rw [show pc + nS (.exp e) = pc + nE e + 1 by simp only [nS]; omega]
  obtain ⟨c1, c2⟩ := hC.app
  rw [cE_len] at c2
  rcases runI_call h with ⟨t, rfl⟩ | ⟨m, rfl, ⟨v, t, h1, h2⟩ | ⟨v, t, h1, rfl⟩ | ⟨e0, t, h1, rfl⟩⟩
  · exact fun h => absurd rfl h
  · obtain ⟨a1, a2⟩ := ev_st ih (by omega) ho hA h1 hW c1 (by omega)
    have l1 := a1.rt
    by_cases ht : 2 ≤ tyA P (rtN b e)
    · rw [if_pos ht] at h2
      unfold clsO at c2
      rw [if_pos ht] at c2
      rw [pd_r ht] at a1 a2
      rw [kp_r ht] at a1 l1
      have hp := i_popR (C := C) (I := P.inp) (s := t) (f := fo f []) (r := rest) c2.b1 (by rw [a1.kR]; omega)
      rw [runI_ret h2]
      exact stay ho hA a1 rfl rfl (by simp) (by simp only []; rw [pop1_len (by omega)]; omega) (a2.trans hp)
    · rw [if_neg ht] at h2
      unfold clsO at c2
      rw [if_neg ht] at c2
      rw [pd_i (by omega)] at a1 a2
      rw [kp_i (by omega)] at a1
      have hp := i_pop (C := C) (I := P.inp) (s := t) (f := fo f ([] ++ [v])) (r := rest) c2.b1 rfl (by rw [a1.kR]; omega)
      rw [runI_ret h2]
      exact stay ho hA a1 rfl rfl (by simp) rfl ((a2.trans hp).to rfl rfl rfl rfl)
  · exact (ev_st ih (by omega) ho hA h1 hW c1 (by omega)).elim
  · exact ev_st ih (by omega) ho hA h1 hW c1 (by omega)
theorem sim_sts {ss : Stms} {b : Nat} (ih : IHI P C en n) (h : runI P n (bodyI P (.sts b ss) s) = r) : SimI C P.inp P en (.sts b ss) s r := fun f rest pc ret hA ho hW hC hE => by
  cases ss with
  | nil =>
    simp only [bodyI] at h
    rw [runI_ret h]
    have e : fo f [] = f := by obtain ⟨a, b, c, d, e⟩ := f; simp only at ho; subst ho; rfl
    refine stay (o := []) (k := 0) (t := s) ho hA (by rw [e]; exact hA) rfl rfl (by simp) rfl ?_
    rw [e]
    simp only [nSs, Nat.add_zero]
    exact To.refl
  | cons x xs =>
    simp only [WtSs] at hW
    simp only [cSs] at hC
    simp only [nSs] at hE
    simp only [bodyI] at h
    rw [show pc + nSs (.cons x xs) = pc + nS x + nSs xs by simp only [nSs]; omega]
    obtain ⟨c1, c2⟩ := hC.app
    rw [cS_len] at c2
    have key : ∀ m, m < n → ∀ r', runI P m (bodyI P (.st b x) s) = r' → ResS C P.inp f rest pc s ret (pc + nS x) r' := fun m hm r' hr => ih m hm _ _ _ hr f rest pc ret hA ho hW.1 c1 (by omega)
    rcases runI_call h with ⟨t, rfl⟩ | ⟨m, rfl, ⟨v, t, h1, h2⟩ | ⟨v, t, h1, rfl⟩ | ⟨e0, t, h1, rfl⟩⟩
    · exact fun h => absurd rfl h
    · obtain ⟨a1, a2, a3⟩ := key m (by omega) _ h1
      have key2 : ∀ m2, m2 < m + 1 → ∀ r', runI P m2 (bodyI P (.sts (b + szS x) xs) t) = r' → ResS C P.inp f rest pc s ret (pc + nS x + nSs xs) r' := fun m2 hm2 r' hr => by
        have q := ih m2 hm2 _ _ _ hr { f with loc := t.loc } rest (pc + nS x) ret a1 ho (by rw [show ({ f with loc := t.loc } : Fm).loc.length = f.loc.length from a2]; exact hW.2) c2 (by omega)
        unfold ResS at q ⊢
        cases r' with
        | ok v' t' => exact ⟨q.1, q.2.1.trans a2, a3.trans q.2.2⟩
        | rt v' t' =>
          obtain ⟨f', pc'', q1, q2⟩ := q
          exact ⟨f', pc'', ⟨q1.rt', q1.rb, q1.lr, q1.ll.trans a2, q1.ops, q1.ats, q1.op⟩, a3.trans q2⟩
        | stop e' t' => exact fun hne => a3.en (q hne)
      rcases runI_call h2 with ⟨t', rfl⟩ | ⟨m2, rfl, ⟨v2, t', h3, h4⟩ | ⟨v2, t', h3, rfl⟩ | ⟨e0, t', h3, rfl⟩⟩
      · exact fun h => absurd rfl h
      · have := key2 m2 (by omega) _ h3
        rw [runI_ret h4]
        exact this
      · exact key2 m2 (by omega) _ h3
      · exact key2 m2 (by omega) _ h3
    · exact key m (by omega) _ h1
    · exact key m (by omega) _ h1
end
end Go.Proofs.Qxb6500277aGreat
