/- Types and slots: statements. -/
import Derived.Test.Qxb6500277aGreatGP15
namespace Go.Proofs.Qxb6500277aGreat
open Go Go.RowKit

structure LmOk (cur : Nat) (s : Ck) : Prop where
  lt : cur < s.lim.length
  i : s.ni ≤ (lAt s.lim cur).1
  r : s.nr ≤ (lAt s.lim cur).2
/-- What a statement's check writes. -/
structure Kx (cur b n : Nat) (s s' : Ck) : Prop where
  ty : ∀ x, x < b ∨ b + n ≤ x → s'.ty[x]? = s.ty[x]?
  rf : Ko b n s s'
  le : (lAt s.lim cur).1 ≤ (lAt s'.lim cur).1 ∧ (lAt s.lim cur).2 ≤ (lAt s'.lim cur).2
  ok : LmOk cur s → LmOk cur s'
  tl : s'.ty.length = s.ty.length
  rl : s'.rf.length = s.rf.length
section
variable {cur b n m : Nat} {s s1 s2 s' : Ck} {X : Cx}
theorem Kx.trans (h : Kx cur b n s s1) (k : Kx cur (b + n) m s1 s2) : Kx cur b (n + m) s s2 :=
  ⟨fun x hx => (k.ty x (by omega)).trans (h.ty x (by omega)), h.rf.trans k.rf, ⟨Nat.le_trans h.le.1 k.le.1, Nat.le_trans h.le.2 k.le.2⟩, fun o => k.ok (h.ok o), k.tl.trans h.tl, k.rl.trans h.rl⟩
theorem Kx.grow (h : Kx cur b n s s1) (hm : n ≤ m) : Kx cur b m s s1 := ⟨fun x hx => h.ty x (by omega), fun x hx => h.rf x (by omega), h.le, h.ok, h.tl, h.rl⟩
theorem LmOk.keep (o : LmOk cur s) (k : Kp s s') : LmOk cur s' := ⟨by rw [k.lim]; exact o.lt, by rw [k.lim, k.ni]; exact o.i, by rw [k.lim, k.nr]; exact o.r⟩
theorem kx_of (ke : Ke X b n s s') (ko : Ko b n s s') : Kx cur b n s s' := ⟨ke.out, ko, by rw [ke.k.lim]; exact ⟨Nat.le_refl _, Nat.le_refl _⟩, fun o => o.keep ke.k, ke.k.tyl, ke.k.rfl'⟩
theorem kxE {e : Exp} {t : Int} (h : ckE X b e s = .ok t s') : Kx cur b (szE e) s s' := kx_of (keepE X e b s t s' h).1 (rfE X e b s t s' h)
theorem wantE_in {e : Exp} {t : Int} {x : Unit} (h : wantE X b e t s = .ok x s') : ckE X b e s = .ok t s' := by
  unfold wantE at h
  obtain ⟨u, s1, h1, h2⟩ := Rc.bind_eq h
  obtain ⟨rfl, rfl⟩ := isT_eq h2
  exact h1
theorem lAt_st {l : List (Nat × Nat)} {v : Nat × Nat} (h : cur < l.length) : lAt (l.set cur v) cur = v := by unfold lAt; simp [h]
theorem lAt_out {l : List (Nat × Nat)} {v : Nat × Nat} (h : ¬ cur < l.length) : lAt (l.set cur v) cur = lAt l cur := by unfold lAt; rw [List.set_eq_of_length_le (by omega)]
theorem kx_decl (y : Nat) (nm : ByteArray) (t : Int) (s : Ck) : Kx cur y 1 s (decl cur y nm t s) := by
  have hle : (lAt s.lim cur).1 ≤ (lAt (decl cur y nm t s).lim cur).1 ∧ (lAt s.lim cur).2 ≤ (lAt (decl cur y nm t s).lim cur).2 := by
    unfold decl
    by_cases hc : cur < s.lim.length
    · split
      · simp only []; rw [lAt_st hc]; exact ⟨Nat.le_refl _, Nat.le_max_left _ _⟩
      · simp only []; rw [lAt_st hc]; exact ⟨Nat.le_max_left _ _, Nat.le_refl _⟩
    · split
      · simp only []; rw [lAt_out hc]; exact ⟨Nat.le_refl _, Nat.le_refl _⟩
      · simp only []; rw [lAt_out hc]; exact ⟨Nat.le_refl _, Nat.le_refl _⟩
  refine ⟨fun x _ => by unfold decl; split <;> rfl, fun x hx => ?_, hle, fun o => ?_, by unfold decl; split <;> rfl, by unfold decl; split <;> simp⟩
  · unfold decl
    split
    · show (s.rf.set y _)[x]? = _
      rw [List.getElem?_set_ne (by omega)]
    · show (s.rf.set y _)[x]? = _
      rw [List.getElem?_set_ne (by omega)]
  · have hi := o.i
    have hr := o.r
    unfold decl
    split
    · refine ⟨by simpa using o.lt, ?_, ?_⟩
      · simp only []; rw [lAt_st o.lt]; exact hi
      · simp only []; rw [lAt_st o.lt]; exact Nat.le_max_right _ _
    · refine ⟨by simpa using o.lt, ?_, ?_⟩
      · simp only []; rw [lAt_st o.lt]; exact Nat.le_max_right _ _
      · simp only []; rw [lAt_st o.lt]; exact hr
theorem inB_in {k : Ck → Rc Unit} {x : Unit} (h : inB k s = .ok x s') : ∃ x1 s1, k (openB s) = .ok x1 s1 ∧ s' = shut s s1 := by
  unfold inB at h
  obtain ⟨y, u, h1, h2⟩ := Rc.bind_eq h
  injection h2 with _ h2
  exact ⟨y, u, h1, h2.symm⟩
theorem kx_shut (h : Kx cur b n (openB s) s1) : Kx cur b n s (shut s s1) := ⟨h.ty, h.rf, h.le, fun o => ⟨(h.ok ⟨o.lt, o.i, o.r⟩).lt, Nat.le_trans o.i h.le.1, Nat.le_trans o.r h.le.2⟩, h.tl, h.rl⟩
end
mutual
theorem kxS (X : Cx) (cur : Nat) : (st : Stm) → ∀ (b : Nat) (s : Ck) (x : Unit) (s' : Ck), ckS X cur b st s = .ok x s' → Kx cur b (szS st) s s'
  | .vd nm p t e, b, s, x, s', h => by
    simp only [ckS] at h
    obtain ⟨_, u, h1, g1⟩ := Rc.bind_eq h
    obtain ⟨_, u2, h2, g2⟩ := Rc.bind_eq g1
    injection g2 with _ g2
    subst g2
    have e0 := (mayD_eq h1).1
    subst e0
    exact (kxE (wantE_in h2)).trans (kx_decl _ _ _ _)
  | .asg p a c, b, s, x, s', h => by
    simp only [ckS] at h
    obtain ⟨t, u, h1, g1⟩ := Rc.bind_eq h
    exact ((kxE h1).trans (kxE (wantE_in g1))).grow (by simp only [szS]; omega)
  | .iff p e bp ss, b, s, x, s', h => by
    simp only [ckS] at h
    obtain ⟨_, u, h1, g1⟩ := Rc.bind_eq h
    obtain ⟨_, s1, h2, rfl⟩ := inB_in g1
    exact ((kxE (wantE_in h1)).trans (kx_shut (kxSs X cur ss _ _ _ _ h2))).grow (by simp only [szS]; omega)
  | .ife p e bp ss cp cs, b, s, x, s', h => by
    simp only [ckS] at h
    obtain ⟨_, u, h1, g1⟩ := Rc.bind_eq h
    obtain ⟨_, u2, h2, g2⟩ := Rc.bind_eq g1
    obtain ⟨_, s1, h3, rfl⟩ := inB_in h2
    obtain ⟨_, s2, h4, rfl⟩ := inB_in g2
    have q1 := (kxE (cur := cur) (wantE_in h1)).trans ((kx_shut (kxSs X cur ss _ _ _ _ h3)).grow (m := szSs ss + 1) (by omega))
    have q2 := kx_shut (kxSs X cur cs _ _ _ _ h4)
    rw [Nat.add_assoc] at q2
    exact (q1.trans q2).grow (by simp only [szS]; omega)
  | .whl p e bp ss, b, s, x, s', h => by
    simp only [ckS] at h
    obtain ⟨_, u, h1, g1⟩ := Rc.bind_eq h
    obtain ⟨_, s1, h2, rfl⟩ := inB_in g1
    exact ((kxE (wantE_in h1)).trans (kx_shut (kxSs X cur ss _ _ _ _ h2))).grow (by simp only [szS]; omega)
  | .ret p e, b, s, x, s', h => by
    simp only [ckS] at h
    exact (kxE (wantE_in h)).grow (by simp only [szS]; omega)
  | .prt p e, b, s, x, s', h => by
    simp only [ckS] at h
    exact (kxE (wantE_in h)).grow (by simp only [szS]; omega)
  | .exp e, b, s, x, s', h => by
    simp only [ckS] at h
    obtain ⟨t, u, h1, g1⟩ := Rc.bind_eq h
    injection g1 with _ g1
    subst g1
    exact (kxE h1).grow (by simp only [szS]; omega)
theorem kxSs (X : Cx) (cur : Nat) : (st : Stms) → ∀ (b : Nat) (s : Ck) (x : Unit) (s' : Ck), ckSs X cur b st s = .ok x s' → Kx cur b (szSs st) s s'
  | .nil, b, s, x, s', h => by
    simp only [ckSs] at h
    injection h with _ h
    subst h
    exact ⟨fun _ _ => rfl, fun _ _ => rfl, ⟨Nat.le_refl _, Nat.le_refl _⟩, fun o => o, rfl, rfl⟩
  | .cons y ys, b, s, x, s', h => by
    simp only [ckSs] at h
    obtain ⟨_, u, h1, g1⟩ := Rc.bind_eq h
    exact (kxS X cur y _ _ _ _ h1).trans (kxSs X cur ys _ _ _ _ g1)
end
mutual
/-- The numbers of a statement; what is assigned to. -/
def NmS : Stm → Prop
  | .vd _ _ _ e | .ret _ e | .prt _ e | .exp e => NmE e
  | .asg _ a c => lvE a ∧ NmE a ∧ NmE c
  | .iff _ e _ b | .whl _ e _ b => NmE e ∧ NmSs b
  | .ife _ e _ b _ c => NmE e ∧ NmSs b ∧ NmSs c
def NmSs : Stms → Prop
  | .nil => True
  | .cons x xs => NmS x ∧ NmSs xs
end
section
variable {P : Pg} {cur b n m : Nat} {s s1 s2 s' : Ck} {X : Cx}
theorem agx_left (h : Ag P s2 b (n + m)) (k : Kx cur (b + n) m s1 s2) : Ag P s1 b n := sub_ag h (by omega) (by omega) fun x _ h2 => ⟨k.ty x (by omega), k.rf x (by omega)⟩
theorem ag_cut (h : Ag P s2 b n) (hm : m ≤ n) : Ag P s2 b m := sub_ag h (by omega) (by omega) fun _ _ _ => ⟨rfl, rfl⟩
theorem ag_shut (h : Ag P (shut s s1) b n) : Ag P s1 b n := h
theorem Inn.kx {b' n' : Nat} (h : Inn s b n) (k : Kx cur b' n' s s') {b2 n2 : Nat} (h2 : b2 + n2 ≤ b + n) : Inn s' b2 n2 := ⟨by rw [k.tl]; have := h.ty; omega, by rw [k.rl]; have := h.rf; omega⟩
theorem LmOk.opn (o : LmOk cur s) : LmOk cur (openB s) := ⟨o.lt, o.i, o.r⟩
theorem Inn.opn (h : Inn s b n) : Inn (openB s) b n := ⟨h.ty, h.rf⟩
theorem Inn.sub (h : Inn s b n) {b2 n2 : Nat} (h2 : b2 + n2 ≤ b + n) : Inn s b2 n2 := ⟨by have := h.ty; omega, by have := h.rf; omega⟩
end
mutual
theorem wtS {P : Pg} {X : Cx} {li lr cur : Nat} (hX : PX P X) : (st : Stm) → TyS st → NmS st → ∀ (b : Nat) (s : Ck) (x : Unit) (s' : Ck), ckS X cur b st s = .ok x s' → Good s → LmOk cur s → Inn s b (szS st) → Ag P s' b (szS st) → (lAt s'.lim cur).1 ≤ li → (lAt s'.lim cur).2 ≤ lr → WtS P li lr (fAt X.fs cur).ret b st
  | .vd nm p t e, ht, hn, b, s, x, s', h, hg, ho, hi, ha, h1, h2 => by
    have kx := kxS X cur (.vd nm p t e) b s x s' h
    simp only [ckS] at h
    simp only [TyS] at ht
    simp only [NmS] at hn
    simp only [szS] at ha hi
    obtain ⟨_, u, g1, g2⟩ := Rc.bind_eq h
    obtain ⟨_, u2, g3, g4⟩ := Rc.bind_eq g2
    injection g4 with _ g4
    subst g4
    have e0 := (mayD_eq g1).1
    subst e0
    have w := wantE_in g3
    have kp := (keepE X e b u t u2 w).1.k
    have kd := kx_decl (cur := cur) (b + szE e) nm t u2
    have l0 := kx.le
    have li0 := ho.i
    have lr0 := ho.r
    obtain ⟨w1, v1⟩ := wtE (li := li) (lr := lr) hX e b u t u2 w hg (hi.sub (by omega)) (agx_left ha kd) (by omega) (by omega) hn
    have o2 := (kx_decl (cur := cur) (b + szE e) nm t u2).ok (ho.keep kp)
    have hrl := hi.rf
    have krl := kp.rfl'
    simp only [WtS]
    refine ⟨w1, by rw [v1], ?_⟩
    unfold slotOk
    by_cases h2t : 2 ≤ t
    · rw [if_pos h2t]
      have hr : rfA P (b + szE e) = u2.nr := by
        have := ag_rf (t := u2.nr) ha (x := b + szE e) (by omega) (by omega) (by
          unfold decl
          rw [if_pos h2t]
          show (u2.rf.set (b + szE e) _)[b + szE e]? = _
          rw [List.getElem?_set_self (by omega)])
        simpa using this
      have := o2.r
      unfold decl at this h2
      rw [if_pos h2t] at this h2
      simp only [] at this h2
      omega
    · rw [if_neg h2t]
      have hr : rfA P (b + szE e) = u2.ni := by
        have := ag_rf (t := u2.ni) ha (x := b + szE e) (by omega) (by omega) (by
          unfold decl
          rw [if_neg h2t]
          show (u2.rf.set (b + szE e) _)[b + szE e]? = _
          rw [List.getElem?_set_self (by omega)])
        simpa using this
      have := o2.i
      unfold decl at this h1
      rw [if_neg h2t] at this h1
      simp only [] at this h1
      omega
  | .asg p a c, ht, hn, b, s, x, s', h, hg, ho, hi, ha, h1, h2 => by
    have kx := kxS X cur (.asg p a c) b s x s' h
    simp only [ckS] at h
    simp only [TyS] at ht
    simp only [NmS] at hn
    simp only [szS] at ha hi
    obtain ⟨t, u, g1, g2⟩ := Rc.bind_eq h
    have w := wantE_in g2
    have l0 := kx.le
    have li0 := ho.i
    have lr0 := ho.r
    have k1 := keepE X a b s t u g1
    have k2 := keepE X c (b + szE a) u t s' w
    have ha2 : Ag P s' b (szE a + szE c) := ag_cut ha (by omega)
    obtain ⟨w1, v1⟩ := wtE (li := li) (lr := lr) hX a b s t u g1 hg (hi.sub (by omega)) (ag_left ha2 k2.1 (rfE X c _ u t _ w)) (by omega) (by omega) hn.2.1
    obtain ⟨w2, v2⟩ := wtE (li := li) (lr := lr) hX c (b + szE a) u t s' w (hg.keep k1.1.k) (hi.keep k1.1.k (by omega)) (ag_right ha2) (by rw [k1.1.k.ni]; omega) (by rw [k1.1.k.nr]; omega) hn.2.2
    cases a with
    | var nm p' =>
      simp only [WtE] at w1
      simp only [szE] at w2 v2
      simp only [WtS]
      have v1' : tyA P b = t := v1
      refine ⟨w2, by rw [v1', v2], ?_⟩
      unfold slotOk
      exact w1
    | idx p' a' i' =>
      simp only [WtE] at w1
      simp only [szE] at w2 v2
      simp only [WtS]
      exact ⟨w1.1, w1.2.1, w2, w1.2.2.1, w1.2.2.2⟩
    | _ => exact hn.1.elim
  | .iff p e bp ss, ht, hn, b, s, x, s', h, hg, ho, hi, ha, h1, h2 => by
    have kx := kxS X cur (.iff p e bp ss) b s x s' h
    simp only [ckS] at h
    simp only [TyS] at ht
    simp only [NmS] at hn
    simp only [szS] at ha hi
    obtain ⟨_, u, g1, g2⟩ := Rc.bind_eq h
    have w := wantE_in g1
    obtain ⟨_, s1, g3, rfl⟩ := inB_in g2
    have l0 := kx.le
    have li0 := ho.i
    have lr0 := ho.r
    have k1 := (keepE X e b s 1 u w).1.k
    have q2 := kx_shut (kxSs X cur ss _ _ _ _ g3)
    have ha2 : Ag P (shut u s1) b (szE e + szSs ss) := ag_cut ha (by omega)
    obtain ⟨w1, v1⟩ := wtE (li := li) (lr := lr) hX e b s 1 u w hg (hi.sub (by omega)) (agx_left ha2 q2) (by omega) (by omega) hn.1
    have w2 := wtSs (li := li) (lr := lr) hX ss ht.2 hn.2 _ _ _ _ g3 (hg.keep k1).openB (ho.keep k1).opn (hi.keep k1 (by omega)).opn (ag_right ha2) h1 h2
    simp only [WtS]
    exact ⟨w1, by rw [v1]; omega, w2⟩
  | .whl p e bp ss, ht, hn, b, s, x, s', h, hg, ho, hi, ha, h1, h2 => by
    have kx := kxS X cur (.whl p e bp ss) b s x s' h
    simp only [ckS] at h
    simp only [TyS] at ht
    simp only [NmS] at hn
    simp only [szS] at ha hi
    obtain ⟨_, u, g1, g2⟩ := Rc.bind_eq h
    have w := wantE_in g1
    obtain ⟨_, s1, g3, rfl⟩ := inB_in g2
    have l0 := kx.le
    have li0 := ho.i
    have lr0 := ho.r
    have k1 := (keepE X e b s 1 u w).1.k
    have q2 := kx_shut (kxSs X cur ss _ _ _ _ g3)
    have ha2 : Ag P (shut u s1) b (szE e + szSs ss) := ag_cut ha (by omega)
    obtain ⟨w1, v1⟩ := wtE (li := li) (lr := lr) hX e b s 1 u w hg (hi.sub (by omega)) (agx_left ha2 q2) (by omega) (by omega) hn.1
    have w2 := wtSs (li := li) (lr := lr) hX ss ht.2 hn.2 _ _ _ _ g3 (hg.keep k1).openB (ho.keep k1).opn (hi.keep k1 (by omega)).opn (ag_right ha2) h1 h2
    simp only [WtS]
    exact ⟨w1, by rw [v1]; omega, w2⟩
  | .ife p e bp ss cp cs, ht, hn, b, s, x, s', h, hg, ho, hi, ha, h1, h2 => by
    have kx := kxS X cur (.ife p e bp ss cp cs) b s x s' h
    simp only [ckS] at h
    simp only [TyS] at ht
    simp only [NmS] at hn
    simp only [szS] at ha hi
    obtain ⟨_, u, g1, g2⟩ := Rc.bind_eq h
    have w := wantE_in g1
    obtain ⟨_, u2, g3, g4⟩ := Rc.bind_eq g2
    obtain ⟨_, s1, g5, rfl⟩ := inB_in g3
    obtain ⟨_, s2, g6, rfl⟩ := inB_in g4
    have l0 := kx.le
    have li0 := ho.i
    have lr0 := ho.r
    have k1 := (keepE X e b s 1 u w).1.k
    have q2 := (kx_shut (kxSs X cur ss _ _ _ _ g5)).grow (m := szSs ss + 1) (by omega)
    have q3 := kx_shut (kxSs X cur cs _ _ _ _ g6)
    have l3 := q3.le
    have ha3 : Ag P (shut (shut u s1) s2) b (szE e + (szSs ss + 1) + szSs cs) := ag_cut ha (by omega)
    rw [Nat.add_assoc] at q3
    have ha2 : Ag P (shut u s1) b (szE e + (szSs ss + 1)) := agx_left ha3 q3
    obtain ⟨w1, v1⟩ := wtE (li := li) (lr := lr) hX e b s 1 u w hg (hi.sub (by omega)) (agx_left ha2 q2) (by omega) (by omega) hn.1
    have w2 := wtSs (li := li) (lr := lr) hX ss ht.2.1 hn.2.1 _ _ _ _ g5 (hg.keep k1).openB (ho.keep k1).opn (hi.keep k1 (by omega)).opn (ag_cut (ag_right ha2) (by omega)) (Nat.le_trans l3.1 h1) (Nat.le_trans l3.2 h2)
    have w3 := wtSs (li := li) (lr := lr) hX cs ht.2.2 hn.2.2 _ _ _ _ g6 (hg.keep k1).shut.openB (q2.ok (ho.keep k1)).opn ((hi.keep k1 (b' := b) (n' := szE e + (szSs ss + 1) + (szSs cs + 1) + 1) (by omega)).kx q2 (b2 := b + szE e + (szSs ss + 1)) (n2 := szSs cs) (by omega)).opn (by have := ag_right ha3; rw [← Nat.add_assoc b] at this; exact this) h1 h2
    simp only [WtS]
    exact ⟨w1, by rw [v1]; omega, w2, w3⟩
  | .ret p e, ht, hn, b, s, x, s', h, hg, ho, hi, ha, h1, h2 => by
    have kx := kxS X cur (.ret p e) b s x s' h
    simp only [ckS] at h
    simp only [NmS] at hn
    simp only [szS] at ha hi
    have l0 := kx.le
    have li0 := ho.i
    have lr0 := ho.r
    obtain ⟨w1, v1⟩ := wtE (li := li) (lr := lr) hX e b s _ s' (wantE_in h) hg (hi.sub (by omega)) (ag_cut ha (by omega)) (by omega) (by omega) hn
    simp only [WtS]
    exact ⟨w1, by rw [v1]⟩
  | .prt p e, ht, hn, b, s, x, s', h, hg, ho, hi, ha, h1, h2 => by
    have kx := kxS X cur (.prt p e) b s x s' h
    simp only [ckS] at h
    simp only [NmS] at hn
    simp only [szS] at ha hi
    have l0 := kx.le
    have li0 := ho.i
    have lr0 := ho.r
    obtain ⟨w1, v1⟩ := wtE (li := li) (lr := lr) hX e b s _ s' (wantE_in h) hg (hi.sub (by omega)) (ag_cut ha (by omega)) (by omega) (by omega) hn
    simp only [WtS]
    exact ⟨w1, by rw [v1]; omega⟩
  | .exp e, ht, hn, b, s, x, s', h, hg, ho, hi, ha, h1, h2 => by
    have kx := kxS X cur (.exp e) b s x s' h
    simp only [ckS] at h
    simp only [NmS] at hn
    simp only [szS] at ha hi
    obtain ⟨t, u, g1, g2⟩ := Rc.bind_eq h
    injection g2 with _ g2
    subst g2
    have l0 := kx.le
    have li0 := ho.i
    have lr0 := ho.r
    obtain ⟨w1, v1⟩ := wtE (li := li) (lr := lr) hX e b s t _ g1 hg (hi.sub (by omega)) (ag_cut ha (by omega)) (by omega) (by omega) hn
    simp only [WtS]
    exact w1
theorem wtSs {P : Pg} {X : Cx} {li lr cur : Nat} (hX : PX P X) : (st : Stms) → TySs st → NmSs st → ∀ (b : Nat) (s : Ck) (x : Unit) (s' : Ck), ckSs X cur b st s = .ok x s' → Good s → LmOk cur s → Inn s b (szSs st) → Ag P s' b (szSs st) → (lAt s'.lim cur).1 ≤ li → (lAt s'.lim cur).2 ≤ lr → WtSs P li lr (fAt X.fs cur).ret b st
  | .nil, ht, hn, b, s, x, s', h, hg, ho, hi, ha, h1, h2 => by simp only [WtSs]
  | .cons y ys, ht, hn, b, s, x, s', h, hg, ho, hi, ha, h1, h2 => by
    simp only [ckSs] at h
    simp only [TySs] at ht
    simp only [NmSs] at hn
    simp only [szSs] at ha hi
    obtain ⟨_, u, g1, g2⟩ := Rc.bind_eq h
    have k1 := kxS X cur y _ _ _ _ g1
    have k2 := kxSs X cur ys _ _ _ _ g2
    have g' := (keepS X cur y ht.1 _ _ _ _ g1).2 hg
    simp only [WtSs]
    exact ⟨wtS hX y ht.1 hn.1 _ _ _ _ g1 hg ho (hi.sub (by omega)) (agx_left ha k2) (Nat.le_trans k2.le.1 h1) (Nat.le_trans k2.le.2 h2), wtSs hX ys ht.2 hn.2 _ _ _ _ g2 g' (k1.ok ho) (hi.kx k1 (by omega)) (ag_right ha) h1 h2⟩
end
end Go.Proofs.Qxb6500277aGreat
