/- The simulation: expressions. -/
import Derived.Test.Qxb6500277aGreatGP7
namespace Go.Proofs.Qxb6500277aGreat
open Go Go.RowKit

section
variable {P : Pg} {C : List Nat} {I : List Int} {en : Nat → Nat} {n : Nat} {s t : Ss} {r : Ro} {f : Fm} {rest : List Fm} {pc pc' k : Nat} {o : List Int} {v u : Int}
def IHI (P : Pg) (C : List Nat) (en : Nat → Nat) (n : Nat) : Prop := ∀ m, m < n → ∀ q s r, runI P m (bodyI P q s) = r → SimI C P.inp P en q s r
theorem pd_i {ty : Int} (h : ty < 2) (o : List Int) (v : Int) : pd ty o v = o ++ [v] := by unfold pd; rw [if_neg (by omega)]
theorem pd_r {ty : Int} (h : 2 ≤ ty) (o : List Int) (v : Int) : pd ty o v = o := by unfold pd; rw [if_pos h]
theorem kp_i {ty : Int} (h : ty < 2) (k : Nat) : kp ty k = k := by unfold kp; rw [if_neg (by omega)]
theorem kp_r {ty : Int} (h : 2 ≤ ty) (k : Nat) : kp ty k = k + 1 := by unfold kp; rw [if_pos h]
theorem used_fo (f : Fm) (o : List Int) (rest : List Fm) : usedF (fo f o :: rest) = 3 + f.loc.length + o.length + usedF rest := rfl
/-- Other operands, other pending arrays. -/
theorem AtS.turn {o' : List Int} {k' : Nat} {t' : Ss} (h : AtS (fo f o) rest t k) (e1 : t'.loc = t.loc) (e2 : t'.rb = t.rb) (e3 : t'.us = t.us + o'.length - o.length) (e4 : t'.M.rt.length + k = t.M.rt.length + k') (e5 : t'.us ≤ 48) : AtS (fo f o') rest t' k' := by
  refine ⟨by rw [e1]; exact h.loc, by rw [e2]; exact h.rb, ?_, ?_, e5⟩
  · have := h.us
    rw [used_fo] at this ⊢
    omega
  · have := h.rt
    simp only [fo] at this ⊢
    omega
theorem AtS.fo_self (h : AtS f rest s k) : AtS (fo f f.ops) rest s k := h
theorem push_res {ty : Int} (hA : AtS f rest s k) (h : runI P n (pushI t v) = r) (e1 : t.loc = s.loc) (e2 : t.rb = s.rb) (e3 : t.us = s.us) (e4 : t.M.rt.length = s.M.rt.length) (hty : ty < 2)
    (hTo : ¬ 48 ≤ usedF (f :: rest) → To C I (f :: rest) pc s (fo f (f.ops ++ [v]) :: rest) pc' t) (hEn : 48 ≤ usedF (f :: rest) → En C I (f :: rest) pc s 29 t) : ResE C I f rest pc s ty pc' f.ops k r := by
  unfold pushI at h
  have hu := hA.us
  split at h
  · rw [runI_ret h]
    exact fun _ => hEn (by omega)
  · rw [runI_ret h]
    unfold ResE
    simp only []
    rw [pd_i hty, kp_i hty]
    exact ⟨hA.fo_self.turn e1 e2 (by simp; omega) (by show t.M.rt.length + k = _; omega) (by simp only []; omega), (hTo (by omega)).to rfl rfl rfl rfl⟩
theorem sim_num (v p : Int) {b : Nat} (h : runI P n (bodyI P (.ev b (.num v p)) s) = r) : SimI C P.inp P en (.ev b (.num v p)) s r := fun f rest pc k hA hW hC hE => by
  simp only [WtE] at hW
  simp only [cE] at hC
  have hp := i_push (I := P.inp) (s := s) (f := f) (r := rest) (l := []) (by simpa using hC) (by omega) hW.2.2 (by rw [hA.kR]; omega)
  exact push_res (ty := tyA P (rtN b (.num v p))) hA h rfl rfl rfl rfl hW.1 hp.1 hp.2
theorem sim_boo (v p : Int) {b : Nat} (h : runI P n (bodyI P (.ev b (.boo v p)) s) = r) : SimI C P.inp P en (.ev b (.boo v p)) s r := fun f rest pc k hA hW hC hE => by
  simp only [WtE] at hW
  simp only [cE] at hC
  have hp := i_push (I := P.inp) (s := s) (f := f) (r := rest) (l := []) (by simpa using hC) (by omega) hW.2.2 (by rw [hA.kR]; omega)
  exact push_res (ty := tyA P (rtN b (.boo v p))) hA h rfl rfl rfl rfl hW.1 hp.1 hp.2
theorem sim_rd (p : Int) {b : Nat} (h : runI P n (bodyI P (.ev b (.rd p)) s) = r) : SimI C P.inp P en (.ev b (.rd p)) s r := fun f rest pc k hA hW hC hE => by
  simp only [WtE] at hW
  simp only [cE] at hC
  have hp := i_read (I := P.inp) (s := s) (f := f) (r := rest) hC.b1 (by rw [hA.kR]; omega)
  simp only [bodyI] at h
  split at h
  · rename_i hi
    rw [runI_ret h]
    exact fun _ => hp.1 hi
  · rename_i hi
    exact push_res (t := { s with ip := s.ip + 1 }) hA h rfl rfl rfl rfl hW (hp.2.1 hi) (fun hu => (hp.2.2 hi hu).to rfl rfl)
theorem dup_ok {M : MS} {i : Int} (h : (dupM M i).1 = 0) : (dupM M i).2.rt.length = M.rt.length + 1 := by
  unfold dupM at h ⊢
  split
  · rename_i hc; rw [if_pos hc] at h; cases h
  · rename_i hc
    rw [if_neg hc] at h
    split
    · rename_i hd; rw [if_pos hd] at h; cases h
    · simp
theorem sim_var (nm : ByteArray) (p : Int) {b : Nat} (h : runI P n (bodyI P (.ev b (.var nm p)) s) = r) : SimI C P.inp P en (.ev b (.var nm p)) s r := fun f rest pc k hA hW hC hE => by
  simp only [WtE] at hW
  simp only [cE] at hC
  simp only [bodyI] at h
  show ResE C P.inp f rest pc s (tyA P b) (pc + 2) f.ops k r
  by_cases ht : 2 ≤ tyA P b
  · rw [if_pos ht] at hW h
    unfold clsO at hC
    rw [if_pos ht] at hC
    have hp := i_ldR (I := P.inp) (s := s) (f := f) (r := rest) hC hW (by rw [hA.kR]; omega)
    rw [hA.rb] at hp
    unfold hpI at h
    split at h
    · rename_i h0
      rw [runI_ret h]
      unfold ResE
      simp only []
      rw [pd_r ht, kp_r ht]
      exact ⟨hA.fo_self.turn rfl rfl (by simp) (by simp only []; rw [dup_ok h0]; omega) hA.le, (hp.1 h0).to rfl rfl rfl rfl⟩
    · rename_i h0
      rw [runI_ret h]
      exact fun _ => hp.2 h0
  · rw [if_neg ht] at hW h
    unfold clsO at hC
    rw [if_neg ht] at hC
    have hp := i_ldI (I := P.inp) (s := s) (f := f) (r := rest) hC hW (by rw [hA.kR]; omega)
    rw [hA.loc] at hp
    exact push_res hA h rfl rfl rfl rfl (by omega) hp.1 hp.2
theorem rt_un (b : Nat) (k p : Int) (e : Exp) : rtN b (.un k p e) = b + szE e := by simp [rtN, szE]
theorem sim_un {k p : Int} {e : Exp} {b : Nat} (ih : IHI P C en n) (h : runI P n (bodyI P (.ev b (.un k p e)) s) = r) : SimI C P.inp P en (.ev b (.un k p e)) s r := fun f rest pc kk hA hW hC hE => by
  simp only [WtE] at hW
  simp only [cE] at hC
  simp only [nE] at hE
  obtain ⟨c1, c2⟩ := hC.app
  rw [cE_len] at c2
  simp only [bodyI] at h
  rw [rt_un, show pc + nE (.un k p e) = pc + nE e + 1 by simp [nE]; omega]
  rcases runI_call h with ⟨t, rfl⟩ | ⟨m, rfl, ⟨v, t, h1, h2⟩ | ⟨v, t, h1, rfl⟩ | ⟨e0, t, h1, rfl⟩⟩
  · exact fun h => absurd rfl h
  · obtain ⟨a1, a2⟩ := ih m (by omega) _ _ _ h1 f rest pc kk hA hW.1 c1 (by omega)
    rw [pd_i hW.2.1] at a1 a2
    rw [kp_i hW.2.1] at a1
    rw [runI_ret h2]
    unfold ResE
    simp only []
    rw [pd_i hW.2.2, kp_i hW.2.2]
    refine ⟨a1.turn rfl rfl (by simp) rfl a1.le, a2.trans ?_⟩
    by_cases h39 : k = 39
    · rw [if_pos h39] at c2 ⊢
      exact i_not c2.b1 rfl (by rw [a1.kR]; omega)
    · rw [if_neg h39] at c2 ⊢
      exact i_neg c2.b1 rfl (by rw [a1.kR]; omega)
  · exact (ih m (by omega) _ _ _ h1 f rest pc kk hA hW.1 c1 (by omega)).elim
  · exact ih m (by omega) _ _ _ h1 f rest pc kk hA hW.1 c1 (by omega)
theorem i64_0 : u64n 0 = 0 := by decide
theorem rt_bin (b : Nat) (k p : Int) (l r : Exp) : rtN b (.bin k p l r) = b + szE l + szE r := by simp [rtN, szE]; omega
theorem sim_bin {k p : Int} {l e : Exp} {b : Nat} (hcl : C.length < 65536) (ih : IHI P C en n) (h : runI P n (bodyI P (.ev b (.bin k p l e)) s) = r) : SimI C P.inp P en (.ev b (.bin k p l e)) s r := fun f rest pc kk hA hW hC hE => by
  simp only [WtE] at hW
  obtain ⟨w1, w2, t1, t2, t3⟩ := hW
  simp only [cE] at hC
  simp only [nE] at hE
  simp only [bodyI] at h
  rw [rt_bin]
  by_cases hk : k = 37 ∨ k = 38
  · rw [if_pos hk] at hC hE
    simp only [hk, if_true] at h
    have hne : nE (.bin k p l e) = nE l + 3 + nE e + 3 + 9 := by simp only [nE]; rw [if_pos hk]
    rw [hne]
    obtain ⟨c1, c2⟩ := hC.app
    rw [cE_len] at c2
    obtain ⟨_, c2l, c3⟩ := c2.hd
    obtain ⟨_, c4⟩ := c3.app
    simp only [u16b, List.length_cons, List.length_nil] at c4
    obtain ⟨c5, c6⟩ := c4.app
    rw [cE_len] at c6
    obtain ⟨_, c6l, c7⟩ := c6.hd
    obtain ⟨_, c8⟩ := c7.app
    simp only [List.length_cons, List.length_nil] at c8
    rcases runI_call h with ⟨t, rfl⟩ | ⟨m, rfl, ⟨v, t, h1, h2⟩ | ⟨v, t, h1, rfl⟩ | ⟨e0, t, h1, rfl⟩⟩
    · exact fun h => absurd rfl h
    · obtain ⟨a1, a2⟩ := ih m (by omega) _ _ _ h1 f rest pc kk hA w1 c1 (by omega)
      rw [pd_i t1] at a1 a2
      rw [kp_i t1] at a1
      have jz := i_jif (C := C) (I := P.inp) (s := t) (f := fo f (f.ops ++ [v])) (r := rest) (pc := pc + nE l) (t := pc + nE l + 3 + nE e + 3) (o := f.ops) (v := v) (decide (k = 37)) (l := cE P en (pc + nE l + 3) (b + szE l) e ++ (21 :: (u16b (pc + nE l + 3 + nE e + 3 + 9) ++ (0 :: i64b (if k = 37 then 0 else 1)))))
        (by rcases hk with rfl | rfl <;> simpa using c2) (by omega) (by omega) (by omega) rfl (by rw [a1.kR]; omega)
      by_cases hset : decide (v ≠ 0) = decide (k = 38)
      · rw [if_pos hset] at h2
        rw [runI_ret h2]
        unfold ResE
        simp only []
        rw [pd_i t3, kp_i t3]
        have hj : (decide (v = 0) = decide (k = 37)) := by rcases hk with rfl | rfl <;> by_cases hv : v = 0 <;> simp [hv] at hset ⊢
        rw [if_pos hj] at jz
        have a1' : AtS (fo f f.ops) rest { t with us := t.us - 1 } kk := a1.turn rfl rfl (by simp; omega) rfl (by have := a1.le; simp only []; omega)
        have hp := i_push (C := C) (I := P.inp) (s := { t with us := t.us - 1 }) (f := fo f f.ops) (r := rest) (pc := pc + nE l + 3 + nE e + 3) (l := []) (v := if k = 37 then 0 else 1) (by
          have e1 : pc + nE l + 1 + (0 + 1 + 1) + nE e + 1 + (0 + 1 + 1) = pc + nE l + 3 + nE e + 3 := by omega
          rw [e1] at c8
          simpa using c8) (by split <;> omega) (by split <;> omega) (by rw [a1'.kR]; omega)
        have hval : flagI (decide (k = 38)) = if k = 37 then 0 else 1 := by rcases hk with rfl | rfl <;> rfl
        rw [hval]
        have hu : ¬ 48 ≤ usedF (fo f f.ops :: rest) := by
          have q1 := a1'.us
          have q2 := a1.le
          simp only [] at q1
          omega
        have e3 : pc + (nE l + 3 + nE e + 3 + 9) = pc + nE l + 3 + nE e + 3 + 9 := by omega
        rw [e3]
        exact ⟨a1.turn rfl rfl (by simp) rfl a1.le, a2.trans ((jz.trans ((hp.1 hu).of rfl rfl rfl rfl)).to rfl rfl rfl rfl)⟩
      · rw [if_neg hset] at h2
        have hj : ¬ (decide (v = 0) = decide (k = 37)) := by rcases hk with rfl | rfl <;> by_cases hv : v = 0 <;> simp [hv] at hset ⊢
        rw [if_neg hj] at jz
        have a1' : AtS (fo f f.ops) rest { t with us := t.us - 1 } kk := a1.turn rfl rfl (by simp; omega) rfl (by have := a1.le; simp only []; omega)
        have c5' : CdA C (pc + nE l + 3) (cE P en (pc + nE l + 3) (b + szE l) e) := c5
        rcases runI_call h2 with ⟨t', rfl⟩ | ⟨m2, rfl, ⟨v2, t', h3, h4⟩ | ⟨v2, t', h3, rfl⟩ | ⟨e0, t', h3, rfl⟩⟩
        · exact fun h => absurd rfl h
        · obtain ⟨b1, b2⟩ := ih m2 (by omega) _ _ _ h3 (fo f f.ops) rest (pc + nE l + 3) kk a1' w2 c5' (by omega)
          rw [pd_i t2] at b1 b2
          rw [kp_i t2] at b1
          unfold goOn at h4
          rw [runI_ret h4]
          unfold ResE
          simp only []
          rw [pd_i t3, kp_i t3]
          have jm := i_jmp (C := C) (I := P.inp) (s := t') (f := fo f (f.ops ++ [v2])) (r := rest) (pc := pc + nE l + 3 + nE e) (t := pc + nE l + 3 + nE e + 3 + 9) (l := 0 :: i64b (if k = 37 then 0 else 1)) c6 (by omega) (by omega) (by omega) (by rw [show kR (fo f (f.ops ++ [v2])) t' = kk from b1.kR]; omega)
          have e3 : pc + (nE l + 3 + nE e + 3 + 9) = pc + nE l + 3 + nE e + 3 + 9 := by omega
          rw [e3]
          exact ⟨b1, a2.trans (jz.trans ((b2.of rfl rfl rfl rfl).trans jm))⟩
        · exact (ih m2 (by omega) _ _ _ h3 (fo f f.ops) rest (pc + nE l + 3) kk a1' w2 c5' (by omega)).elim
        · exact fun hne => a2.en (jz.en ((ih m2 (by omega) _ _ _ h3 (fo f f.ops) rest (pc + nE l + 3) kk a1' w2 c5' (by omega) hne).of rfl rfl rfl rfl))
    · exact (ih m (by omega) _ _ _ h1 f rest pc kk hA w1 c1 (by omega)).elim
    · exact ih m (by omega) _ _ _ h1 f rest pc kk hA w1 c1 (by omega)
  · rw [if_neg hk] at hC hE
    simp only [hk, if_false] at h
    have hne : nE (.bin k p l e) = nE l + nE e + 1 := by simp only [nE]; rw [if_neg hk]
    rw [hne]
    obtain ⟨c1, c2⟩ := hC.app
    rw [cE_len] at c2
    obtain ⟨c3, c4⟩ := c2.app
    rw [cE_len] at c4
    rcases runI_call h with ⟨t, rfl⟩ | ⟨m, rfl, ⟨v, t, h1, h2⟩ | ⟨v, t, h1, rfl⟩ | ⟨e0, t, h1, rfl⟩⟩
    · exact fun h => absurd rfl h
    · obtain ⟨a1, a2⟩ := ih m (by omega) _ _ _ h1 f rest pc kk hA w1 c1 (by omega)
      rw [pd_i t1] at a1 a2
      rw [kp_i t1] at a1
      rcases runI_call h2 with ⟨t', rfl⟩ | ⟨m2, rfl, ⟨v2, t', h3, h4⟩ | ⟨v2, t', h3, rfl⟩ | ⟨e0, t', h3, rfl⟩⟩
      · exact fun h => absurd rfl h
      · obtain ⟨b1, b2⟩ := ih m2 (by omega) _ _ _ h3 (fo f (f.ops ++ [v])) rest (pc + nE l) kk a1 w2 c3 (by omega)
        rw [pd_i t2] at b1 b2
        rw [kp_i t2] at b1
        have b1' : AtS (fo f (f.ops ++ [v, v2])) rest t' kk := b1.turn rfl rfl (by simp [fo]) rfl b1.le
        have b2' : To C P.inp (fo f (f.ops ++ [v]) :: rest) (pc + nE l) t (fo f (f.ops ++ [v, v2]) :: rest) (pc + nE l + nE e) t' := by
          have e1 : fo (fo f (f.ops ++ [v])) ((fo f (f.ops ++ [v])).ops ++ [v2]) = fo f (f.ops ++ [v, v2]) := by simp [fo]
          rw [e1] at b2
          exact b2
        split at h4
        · rename_i hz
          rw [runI_ret h4]
          intro _
          obtain ⟨hz1, rfl⟩ := hz
          exact (a2.trans b2').en (i_div0 c4.b1 rfl (by rw [b1'.kR]; omega) hz1)
        · rename_i hz
          rw [runI_ret h4]
          unfold ResE
          simp only []
          rw [pd_i t3, kp_i t3]
          have hb := i_bin (C := C) (I := P.inp) (s := t') (f := fo f (f.ops ++ [v, v2])) (r := rest) c4.b1 rfl (by rw [b1'.kR]; omega) hz
          have := b1'.le
          rw [show pc + (nE l + nE e + 1) = pc + nE l + nE e + 1 by omega]
          exact ⟨b1'.turn rfl rfl (by simp; omega) rfl (by simp only []; omega), ((a2.trans b2').trans hb).to rfl rfl rfl rfl⟩
      · exact (ih m2 (by omega) _ _ _ h3 (fo f (f.ops ++ [v])) rest (pc + nE l) kk a1 w2 c3 (by omega)).elim
      · exact fun hne => a2.en (ih m2 (by omega) _ _ _ h3 (fo f (f.ops ++ [v])) rest (pc + nE l) kk a1 w2 c3 (by omega) hne)
    · exact (ih m (by omega) _ _ _ h1 f rest pc kk hA w1 c1 (by omega)).elim
    · exact ih m (by omega) _ _ _ h1 f rest pc kk hA w1 c1 (by omega)
end
end Go.Proofs.Qxb6500277aGreat
