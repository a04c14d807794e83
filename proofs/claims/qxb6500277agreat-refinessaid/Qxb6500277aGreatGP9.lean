/- The simulation: arrays, calls, functions. -/
import Derived.Test.Qxb6500277aGreatGP8
namespace Go.Proofs.Qxb6500277aGreat
open Go Go.RowKit

section
variable {P : Pg} {C : List Nat} {I : List Int} {en : Nat → Nat} {n : Nat} {s t : Ss} {r : Ro} {f : Fm} {rest : List Fm} {pc pc' k : Nat} {o : List Int} {v u : Int}
theorem pop1_len {M : MS} (h : 1 ≤ M.rt.length) : (popM M 1).2.rt.length = M.rt.length - 1 := pop_len M 1 h
theorem pop2_len {M : MS} (h : 2 ≤ M.rt.length) : (popM M 2).2.rt.length = M.rt.length - 2 := pop_len M 2 h
theorem rt_idx (b : Nat) (p : Int) (a i : Exp) : rtN b (.idx p a i) = b + szE a + szE i := by simp [rtN, szE]; omega
theorem sim_idx {p : Int} {a i : Exp} {b : Nat} (ih : IHI P C en n) (h : runI P n (bodyI P (.ev b (.idx p a i)) s) = r) : SimI C P.inp P en (.ev b (.idx p a i)) s r := fun f rest pc kk hA hW hC hE => by
  simp only [WtE] at hW
  obtain ⟨w1, w2, t1, t2⟩ := hW
  simp only [cE] at hC
  simp only [nE] at hE
  simp only [bodyI] at h
  rw [rt_idx, show pc + nE (.idx p a i) = pc + nE a + nE i + 1 by simp only [nE]; omega]
  obtain ⟨c1, c2⟩ := hC.app
  rw [cE_len] at c2
  obtain ⟨c3, c4⟩ := c2.app
  rw [cE_len] at c4
  rcases runI_call h with ⟨t, rfl⟩ | ⟨m, rfl, ⟨v, t, h1, h2⟩ | ⟨v, t, h1, rfl⟩ | ⟨e0, t, h1, rfl⟩⟩
  · exact fun h => absurd rfl h
  · obtain ⟨a1, a2⟩ := ih m (by omega) _ _ _ h1 f rest pc kk hA w1 c1 (by omega)
    rw [pd_r t1] at a1 a2
    rw [kp_r t1] at a1
    rcases runI_call h2 with ⟨t', rfl⟩ | ⟨m2, rfl, ⟨v2, t', h3, h4⟩ | ⟨v2, t', h3, rfl⟩ | ⟨e0, t', h3, rfl⟩⟩
    · exact fun h => absurd rfl h
    · obtain ⟨b1, b2⟩ := ih m2 (by omega) _ _ _ h3 (fo f f.ops) rest (pc + nE a) (kk + 1) a1 w2 c3 (by omega)
      rw [pd_i t2] at b1 b2
      rw [kp_i t2] at b1
      have b1' : AtS (fo f (f.ops ++ [v2])) rest t' (kk + 1) := b1
      have hk := b1'.kR
      have hlen := b1'.rt
      have hle := b1'.le
      simp only [fo] at hlen
      by_cases ht : 2 ≤ tyA P (b + szE a + szE i)
      · rw [if_pos ht] at h4
        unfold clsO at c4
        rw [if_pos ht] at c4
        have hp := i_getR (I := P.inp) (s := t') (f := fo f (f.ops ++ [v2])) (r := rest) c4.b1 rfl (by rw [hk]; omega)
        unfold hpI at h4
        split at h4
        · rename_i h0
          rw [runI_ret h4]
          unfold ResE
          simp only []
          rw [pd_r ht, kp_r ht]
          exact ⟨b1'.turn rfl rfl (by simp; omega) (by simp only []; rw [ldRef_len]) (by simp only []; omega), a2.trans (b2.trans ((hp.1 h0).to rfl rfl rfl rfl))⟩
        · rename_i h0
          rw [runI_ret h4]
          exact fun _ => a2.en (b2.en (hp.2 h0))
      · rw [if_neg ht] at h4
        unfold clsO at c4
        rw [if_neg ht] at c4
        have hp := i_getI (I := P.inp) (s := t') (f := fo f (f.ops ++ [v2])) (r := rest) c4.b1 rfl (by rw [hk]; omega)
        unfold hpI at h4
        split at h4
        · rename_i h0
          rw [runI_ret h4]
          unfold ResE
          simp only []
          rw [pd_i (by omega), kp_i (by omega)]
          exact ⟨b1'.turn rfl rfl (by simp) (by simp only []; rw [pop1_len (by omega)]; omega) hle, a2.trans (b2.trans ((hp.1 h0).to rfl rfl rfl rfl))⟩
        · rename_i h0
          rw [runI_ret h4]
          exact fun _ => a2.en (b2.en (hp.2 h0))
    · exact (ih m2 (by omega) _ _ _ h3 (fo f f.ops) rest (pc + nE a) (kk + 1) a1 w2 c3 (by omega)).elim
    · exact fun hne => a2.en (ih m2 (by omega) _ _ _ h3 (fo f f.ops) rest (pc + nE a) (kk + 1) a1 w2 c3 (by omega) hne)
  · exact (ih m (by omega) _ _ _ h1 f rest pc kk hA w1 c1 (by omega)).elim
  · exact ih m (by omega) _ _ _ h1 f rest pc kk hA w1 c1 (by omega)
theorem rt_new (b : Nat) (t p : Int) (e : Exp) : rtN b (.new t p e) = b + szE e := by simp [rtN, szE]
theorem rt_len' (b : Nat) (p : Int) (e : Exp) : rtN b (.len p e) = b + szE e := by simp [rtN, szE]
theorem sim_new {ty p : Int} {e : Exp} {b : Nat} (ih : IHI P C en n) (h : runI P n (bodyI P (.ev b (.new ty p e)) s) = r) : SimI C P.inp P en (.ev b (.new ty p e)) s r := fun f rest pc kk hA hW hC hE => by
  simp only [WtE] at hW
  obtain ⟨w1, t1, t2⟩ := hW
  simp only [cE] at hC
  simp only [nE] at hE
  simp only [bodyI] at h
  rw [rt_new, show pc + nE (.new ty p e) = pc + nE e + 1 by simp only [nE]; omega]
  obtain ⟨c1, c2⟩ := hC.app
  rw [cE_len] at c2
  rcases runI_call h with ⟨t, rfl⟩ | ⟨m, rfl, ⟨v, t, h1, h2⟩ | ⟨v, t, h1, rfl⟩ | ⟨e0, t, h1, rfl⟩⟩
  · exact fun h => absurd rfl h
  · obtain ⟨a1, a2⟩ := ih m (by omega) _ _ _ h1 f rest pc kk hA w1 c1 (by omega)
    rw [pd_i t1] at a1 a2
    rw [kp_i t1] at a1
    have hk := a1.kR
    have hle := a1.le
    have key : ∀ isR : Bool, byteAt C (pc + nE e) = (if isR then 29 else 28) ∧ pc + nE e + 1 ≤ C.length →
        runI P m (hpI (allocM t.M (if isR then v else 0) (if isR then 0 else v)).1 t (goOn 0 { t with us := t.us - 1, M := (allocM t.M (if isR then v else 0) (if isR then 0 else v)).2 })) = r → ResE C P.inp f rest pc s (tyA P (b + szE e)) (pc + nE e + 1) f.ops kk r := fun isR hc h4 => by
      have hp := i_new (C := C) (I := P.inp) (s := t) (f := fo f (f.ops ++ [v])) (r := rest) isR hc rfl (by rw [hk]; omega)
      unfold hpI at h4
      by_cases h0 : (allocM t.M (if isR then v else 0) (if isR then 0 else v)).1 = 0
      · rw [if_pos h0] at h4
        rw [runI_ret h4]
        unfold ResE
        simp only []
        rw [pd_r t2, kp_r t2]
        refine ⟨a1.turn rfl rfl (by simp; omega) ?_ (by simp only []; omega), a2.trans ((hp.1 h0).to rfl rfl rfl rfl)⟩
        simp only []
        rcases alloc_len t.M (if isR then v else 0) (if isR then 0 else v) with ⟨q, _⟩ | ⟨_, q, _⟩
        · exact absurd h0 q
        · rw [q]; omega
      · rw [if_neg h0] at h4
        rw [runI_ret h4]
        exact fun _ => a2.en (hp.2 h0)
    by_cases h4 : 4 ≤ ty
    · rw [if_pos h4] at h2
      refine key true ?_ h2
      unfold clsO at c2
      rw [if_pos (by omega)] at c2
      exact c2.b1
    · rw [if_neg h4] at h2
      refine key false ?_ h2
      unfold clsO at c2
      rw [if_neg (by omega)] at c2
      exact c2.b1
  · exact (ih m (by omega) _ _ _ h1 f rest pc kk hA w1 c1 (by omega)).elim
  · exact ih m (by omega) _ _ _ h1 f rest pc kk hA w1 c1 (by omega)
theorem sim_len {p : Int} {e : Exp} {b : Nat} (ih : IHI P C en n) (h : runI P n (bodyI P (.ev b (.len p e)) s) = r) : SimI C P.inp P en (.ev b (.len p e)) s r := fun f rest pc kk hA hW hC hE => by
  simp only [WtE] at hW
  obtain ⟨w1, t1, t2⟩ := hW
  simp only [cE] at hC
  simp only [nE] at hE
  simp only [bodyI] at h
  rw [rt_len', show pc + nE (.len p e) = pc + nE e + 1 by simp only [nE]; omega]
  obtain ⟨c1, c2⟩ := hC.app
  rw [cE_len] at c2
  rcases runI_call h with ⟨t, rfl⟩ | ⟨m, rfl, ⟨v, t, h1, h2⟩ | ⟨v, t, h1, rfl⟩ | ⟨e0, t, h1, rfl⟩⟩
  · exact fun h => absurd rfl h
  · obtain ⟨a1, a2⟩ := ih m (by omega) _ _ _ h1 f rest pc kk hA w1 c1 (by omega)
    rw [pd_r t1] at a1 a2
    rw [kp_r t1] at a1
    have hk := a1.kR
    have hus := a1.us
    have hlen := a1.rt
    have hle := a1.le
    simp only [fo] at hlen
    have hp := i_len (C := C) (I := P.inp) (s := t) (f := fo f f.ops) (r := rest) c2.b1 (by rw [hk]; omega)
    unfold hpI at h2
    split at h2
    · rename_i h0
      unfold pushI at h2
      split at h2
      · rename_i hu
        rw [runI_ret h2]
        simp only [] at hu
        exact fun _ => (a2.en (hp.2.1 h0 (by omega))).to rfl rfl
      · rename_i hu
        simp only [] at hu
        rw [runI_ret h2]
        unfold ResE
        simp only []
        rw [pd_i t2, kp_i t2]
        exact ⟨a1.turn rfl rfl (by simp; omega) (by simp only []; rw [pop1_len (by omega)]; omega) (by simp only []; omega), a2.trans ((hp.1 h0 (by omega)).to rfl rfl rfl rfl)⟩
    · rename_i h0
      rw [runI_ret h2]
      exact fun _ => a2.en (hp.2.2 h0)
  · exact (ih m (by omega) _ _ _ h1 f rest pc kk hA w1 c1 (by omega)).elim
  · exact ih m (by omega) _ _ _ h1 f rest pc kk hA w1 c1 (by omega)
/-- Only the class of the type matters. -/
theorem ResE.cls {ty ty' : Int} (h : ResE C I f rest pc s ty pc' o k r) (e : 2 ≤ ty ↔ 2 ≤ ty') : ResE C I f rest pc s ty' pc' o k r := by
  have e1 : ∀ o v, pd ty o v = pd ty' o v := fun o v => by unfold pd; simp only [e]
  have e2 : kp ty k = kp ty' k := by unfold kp; simp only [e]
  unfold ResE at h ⊢
  cases r with
  | ok v t => simp only [e1, e2] at h ⊢; exact h
  | rt v t => exact h
  | stop e t => exact h
theorem rt_call (b : Nat) (nm : ByteArray) (p : Int) (gs : Exps) : rtN b (.call nm p gs) = b + szEs gs := by simp [rtN, szE]
theorem sim_call {nm : ByteArray} {p : Int} {gs : Exps} {b : Nat} (ih : IHI P C en n) (h : runI P n (bodyI P (.ev b (.call nm p gs)) s) = r) : SimI C P.inp P en (.ev b (.call nm p gs)) s r := fun f rest pc kk hA hW hC hE => by
  simp only [WtE] at hW
  obtain ⟨w1, w2, w3, w4, w5⟩ := hW
  simp only [cE] at hC
  simp only [nE] at hE
  simp only [bodyI] at h
  rw [rt_call, show pc + nE (.call nm p gs) = pc + nEs gs + 3 by simp only [nE]; omega]
  have key : ∀ m, m < n → ∀ r', runI P m (bodyI P (.args (rfA P (b + szEs gs)) b gs []) s) = r' → ResE C P.inp f rest pc s (tyA P (b + szEs gs)) (pc + nEs gs + 3) f.ops kk r' := fun m hm r' hr => by
    have := ih m hm _ _ _ hr f rest pc kk f.ops hA (by simp) w1 w2 (by simpa using w3) (by omega) hC (by omega)
    rw [show kk + cntR P b gs - (fiA P (rfA P (b + szEs gs))).pr = kk by omega] at this
    exact this.cls w5.symm
  rcases runI_call h with ⟨t, rfl⟩ | ⟨m, rfl, ⟨v, t, h1, h2⟩ | ⟨v, t, h1, rfl⟩ | ⟨e0, t, h1, rfl⟩⟩
  · exact fun h => absurd rfl h
  · have := key m (by omega) _ h1
    rw [runI_ret h2]
    exact this
  · exact (key m (by omega) _ h1).elim
  · exact key m (by omega) _ h1
theorem sim_args {fn b : Nat} {es : Exps} {vs : List Int} (ih : IHI P C en n) (h : runI P n (bodyI P (.args fn b es vs) s) = r) : SimI C P.inp P en (.args fn b es vs) s r := fun f rest pc kk o hA ho hW hf hpi hpr hC hE => by
  cases es with
  | nil =>
    simp only [bodyI] at h
    simp only [cEs, List.nil_append] at hC
    simp only [cntI, cntR, nEs, Nat.add_zero] at hpi hpr hE ⊢
    have key : ∀ m, m < n → ∀ r', runI P m (bodyI P (.inv fn vs) s) = r' → ResE C P.inp f rest pc s (fiA P fn).ret (pc + 3) o (kk - (fiA P fn).pr) r' := fun m hm r' hr => ih m hm _ _ _ hr f rest pc kk o hA ho hf hpi hpr hC hE
    rcases runI_call h with ⟨t, rfl⟩ | ⟨m, rfl, ⟨v, t, h1, h2⟩ | ⟨v, t, h1, rfl⟩ | ⟨e0, t, h1, rfl⟩⟩
    · exact fun h => absurd rfl h
    · have := key m (by omega) _ h1
      rw [runI_ret h2]
      exact this
    · exact (key m (by omega) _ h1).elim
    · exact key m (by omega) _ h1
  | cons e es =>
    simp only [bodyI] at h
    simp only [cEs, List.append_assoc] at hC
    simp only [WtEs] at hW
    simp only [cntI] at hpi
    simp only [cntR] at hpr ⊢
    simp only [nEs] at hE ⊢
    obtain ⟨c1, c2⟩ := hC.app
    rw [cE_len] at c2
    rcases runI_call h with ⟨t, rfl⟩ | ⟨m, rfl, ⟨v, t, h1, h2⟩ | ⟨v, t, h1, rfl⟩ | ⟨e0, t, h1, rfl⟩⟩
    · exact fun h => absurd rfl h
    · obtain ⟨a1, a2⟩ := ih m (by omega) _ _ _ h1 f rest pc kk hA hW.1 c1 (by omega)
      have key : ∀ m2, m2 < m + 1 → ∀ r', runI P m2 (bodyI P (.args fn (b + szE e) es (if tyA P (rtN b e) < 2 then vs ++ [v] else vs)) t) = r' → ResE C P.inp f rest pc s (fiA P fn).ret (pc + (nE e + nEs es) + 3) o (kk + ((if tyA P (rtN b e) < 2 then 0 else 1) + cntR P (b + szE e) es) - (fiA P fn).pr) r' := fun m2 hm2 r' hr => by
        by_cases ht : tyA P (rtN b e) < 2
        · rw [pd_i ht] at a1 a2
          rw [kp_i ht] at a1
          rw [if_pos ht] at hr hpi hpr ⊢
          have q := ih m2 hm2 _ _ _ hr (fo f (f.ops ++ [v])) rest (pc + nE e) kk o a1 (by show f.ops ++ [v] = _; rw [ho]; simp) hW.2 hf (by simp; omega) (by omega) c2 (by omega)
          rw [show pc + (nE e + nEs es) + 3 = pc + nE e + nEs es + 3 by omega, Nat.zero_add]
          unfold ResE at q ⊢
          cases r' with
          | ok v' t' => exact ⟨q.1, a2.trans q.2⟩
          | rt v' t' => exact q
          | stop e' t' => exact fun hne => a2.en (q hne)
        · rw [pd_r (by omega)] at a1 a2
          rw [kp_r (by omega)] at a1
          rw [if_neg ht] at hr hpi hpr ⊢
          have q := ih m2 hm2 _ _ _ hr (fo f f.ops) rest (pc + nE e) (kk + 1) o a1 (by show f.ops = _; rw [ho]) hW.2 hf (by omega) (by omega) c2 (by omega)
          rw [show pc + (nE e + nEs es) + 3 = pc + nE e + nEs es + 3 by omega, show kk + (1 + cntR P (b + szE e) es) = kk + 1 + cntR P (b + szE e) es by omega]
          unfold ResE at q ⊢
          cases r' with
          | ok v' t' => exact ⟨q.1, a2.trans q.2⟩
          | rt v' t' => exact q
          | stop e' t' => exact fun hne => a2.en (q hne)
      rcases runI_call h2 with ⟨t', rfl⟩ | ⟨m2, rfl, ⟨v2, t', h3, h4⟩ | ⟨v2, t', h3, rfl⟩ | ⟨e0, t', h3, rfl⟩⟩
      · exact fun h => absurd rfl h
      · have := key m2 (by omega) _ h3
        rw [runI_ret h4]
        exact this
      · exact (key m2 (by omega) _ h3).elim
      · exact key m2 (by omega) _ h3
    · exact (ih m (by omega) _ _ _ h1 f rest pc kk hA hW.1 c1 (by omega)).elim
    · exact ih m (by omega) _ _ _ h1 f rest pc kk hA hW.1 c1 (by omega)
end
end Go.Proofs.Qxb6500277aGreat
