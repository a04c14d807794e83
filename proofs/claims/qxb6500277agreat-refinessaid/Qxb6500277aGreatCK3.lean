/- The checker's plain side: what holds of every state. -/
import Derived.Test.Qxb6500277aGreatCK2
namespace Go.Proofs.Qxb6500277aGreat
open Go Go.RowKit

def cIv (vs : List Vr) : Nat := cI (vs.map (·.ty))
def cRv (vs : List Vr) : Nat := cR (vs.map (·.ty))
theorem cI_app (a b : List Int) : cI (a ++ b) = cI a + cI b := by simp [cI]
theorem cR_app (a b : List Int) : cR (a ++ b) = cR a + cR b := by simp [cR]
theorem cIv_app (a b : List Vr) : cIv (a ++ b) = cIv a + cIv b := by simp [cIv, cI_app]
theorem cRv_app (a b : List Vr) : cRv (a ++ b) = cRv a + cRv b := by simp [cRv, cR_app]
theorem cI_one (t : Int) : cI [t] = if 2 ≤ t then 0 else 1 := by
  unfold cI
  by_cases h : 2 ≤ t
  · rw [if_pos h]; simp; omega
  · rw [if_neg h]; simp; omega
theorem cR_one (t : Int) : cR [t] = if 2 ≤ t then 1 else 0 := by
  unfold cR
  by_cases h : 2 ≤ t
  · rw [if_pos h]; simp; omega
  · rw [if_neg h]; simp; omega
theorem cIR (l : List Int) : cI l + cR l = l.length := by
  induction l with
  | nil => rfl
  | cons t l ih =>
    rw [show t :: l = [t] ++ l from rfl, cI_app, cR_app, cI_one, cR_one, List.length_append]
    split <;> simp <;> omega
theorem cIRv (l : List Vr) : cIv l + cRv l = l.length := by
  have := cIR (l.map (·.ty))
  simpa [cIv, cRv] using this
theorem cIv_one (v : Vr) : cIv [v] = if 2 ≤ v.ty then 0 else 1 := cI_one v.ty
theorem cRv_one (v : Vr) : cRv [v] = if 2 ≤ v.ty then 1 else 0 := cR_one v.ty
structure Good (s : Ck) : Prop where
  asc : ∀ i j, i < j → j < s.vs.length → (vAt s.vs i).level ≤ (vAt s.vs j).level
  lv : ∀ i, i < s.vs.length → (vAt s.vs i).level ≤ s.lvl
  ty : ∀ i, i < s.vs.length → 0 ≤ (vAt s.vs i).ty ∧ (vAt s.vs i).ty < 8
  slot : ∀ i, i < s.vs.length → (vAt s.vs i).slot = if 2 ≤ (vAt s.vs i).ty then cRv (s.vs.take i) else cIv (s.vs.take i)
  ni : s.ni = cIv s.vs
  nr : s.nr = cRv s.vs
  ni12 : s.ni ≤ 12
  nr12 : s.nr ≤ 12
  dup : ∀ i j, i < j → j < s.vs.length → (vAt s.vs i).level = (vAt s.vs j).level → (vAt s.vs i).name ≠ (vAt s.vs j).name
theorem Good.len {s : Ck} (h : Good s) : s.vs.length = s.ni + s.nr := by rw [h.ni, h.nr, cIRv]
theorem Good.vt {s : Ck} (h : Good s) (i : Nat) : 0 ≤ (vAt s.vs i).ty ∧ (vAt s.vs i).ty < 8 := by
  by_cases hi : i < s.vs.length
  · exact h.ty i hi
  · unfold vAt
    rw [List.getD_eq_getElem?_getD, List.getElem?_eq_none (by omega)]
    exact ⟨Int.le_refl _, by decide⟩
theorem Good.same {s s' : Ck} (h : Good s) (e1 : s'.vs = s.vs) (e2 : s'.ni = s.ni) (e3 : s'.nr = s.nr) (e4 : s.lvl ≤ s'.lvl) : Good s' := by
  obtain ⟨a, b, c, d, e, f, g, k, l⟩ := h
  refine ⟨?_, ?_, ?_, ?_, ?_, ?_, ?_, ?_, ?_⟩
  · rw [e1]; exact a
  · rw [e1]; exact fun i hi => Nat.le_trans (b i hi) e4
  · rw [e1]; exact c
  · rw [e1]; exact d
  · rw [e1, e2]; exact e
  · rw [e1, e3]; exact f
  · rw [e2]; exact g
  · rw [e3]; exact k
  · rw [e1]; exact l
theorem Good.keep {s s' : Ck} (h : Good s) (k : Kp s s') : Good s' := h.same k.vs k.ni k.nr (by rw [k.lvl]; exact Nat.le_refl _)
theorem Good.openB {s : Ck} (h : Good s) : Good (openB s) := h.same rfl rfl rfl (Nat.le_succ _)
theorem Good.shut {s s' : Ck} (h : Good s) : Good (shut s s') := h.same rfl rfl rfl (Nat.le_refl _)
theorem Good.fresh0 (s : Ck) : Good (fresh0 s) :=
  ⟨fun _ _ _ h => absurd h (Nat.not_lt_zero _), fun _ h => absurd h (Nat.not_lt_zero _), fun _ h => absurd h (Nat.not_lt_zero _), fun _ h => absurd h (Nat.not_lt_zero _), rfl, rfl, Nat.zero_le _, Nat.zero_le _, fun _ _ _ h => absurd h (Nat.not_lt_zero _)⟩
theorem mayD_eq {nm : ByteArray} {t p : Int} {s s' : Ck} {x : Unit} (h : mayD nm t p s = .ok x s') : s' = s ∧ (¬ ∃ i, i < s.vs.length ∧ (vAt s.vs i).level = s.lvl ∧ (vAt s.vs i).name = nm) ∧ (2 ≤ t → s.nr < 12) ∧ (¬ 2 ≤ t → s.ni < 12) := by
  unfold mayD at h
  split at h
  · cases h
  rename_i h0
  split at h
  · split at h
    · cases h
    · injection h with _ h
      exact ⟨h.symm, h0, fun _ => by omega, fun _ => by omega⟩
  · split at h
    · cases h
    · injection h with _ h
      exact ⟨h.symm, h0, fun _ => by omega, fun _ => by omega⟩
/-- One more variable. -/
theorem Good.push {s s' : Ck} {v : Vr} (h : Good s) (e1 : s'.vs = s.vs ++ [v]) (e2 : s'.lvl = s.lvl) (hv : 0 ≤ v.ty ∧ v.ty < 8) (hl : v.level = s.lvl) (hn : ¬ ∃ i, i < s.vs.length ∧ (vAt s.vs i).level = s.lvl ∧ (vAt s.vs i).name = v.name)
    (e3 : s'.ni = if 2 ≤ v.ty then s.ni else s.ni + 1) (e4 : s'.nr = if 2 ≤ v.ty then s.nr + 1 else s.nr) (hs : v.slot = if 2 ≤ v.ty then s.nr else s.ni) (h1 : 2 ≤ v.ty → s.nr < 12) (h2 : ¬ 2 ≤ v.ty → s.ni < 12) : Good s' := by
  have key : ∀ i, i < (s.vs ++ [v]).length → (i < s.vs.length ∧ vAt (s.vs ++ [v]) i = vAt s.vs i ∧ (s.vs ++ [v]).take i = s.vs.take i) ∨ (i = s.vs.length ∧ vAt (s.vs ++ [v]) i = v ∧ (s.vs ++ [v]).take i = s.vs) := by
    intro i hi
    simp at hi
    by_cases e : i = s.vs.length
    · subst e; exact .inr ⟨rfl, vAt_last _ _, by simp⟩
    · exact .inl ⟨by omega, vAt_app (by omega), by rw [List.take_append_of_le_length (by omega)]⟩
  refine ⟨?_, ?_, ?_, ?_, ?_, ?_, ?_, ?_, ?_⟩
  · rw [e1]
    intro i j hij hj
    rcases key j hj with ⟨h5, h6, _⟩ | ⟨h5, h6, _⟩
    · rw [h6, vAt_app (by omega)]; exact h.asc i j hij h5
    · rw [h6, vAt_app (by omega), hl]; exact h.lv i (by omega)
  · rw [e1, e2]
    intro i hi
    rcases key i hi with ⟨h5, h6, _⟩ | ⟨h5, h6, _⟩
    · rw [h6]; exact h.lv i h5
    · rw [h6, hl]; exact Nat.le_refl _
  · rw [e1]
    intro i hi
    rcases key i hi with ⟨h5, h6, _⟩ | ⟨h5, h6, _⟩
    · rw [h6]; exact h.ty i h5
    · rw [h6]; exact hv
  · rw [e1]
    intro i hi
    rcases key i hi with ⟨h5, h6, h7⟩ | ⟨h5, h6, h7⟩
    · rw [h6, h7]; exact h.slot i h5
    · rw [h6, h7, hs, h.ni, h.nr]
  · rw [e1, e3, cIv_app, cIv_one, h.ni]; split <;> rfl
  · rw [e1, e4, cRv_app, cRv_one, h.nr]; split <;> rfl
  · rw [e3]; have := h.ni12; split <;> omega
  · rw [e4]; have := h.nr12; split <;> omega
  · rw [e1]
    intro i j hij hj
    rcases key j hj with ⟨h5, h6, _⟩ | ⟨h5, h6, _⟩
    · rw [h6, vAt_app (by omega)]; exact h.dup i j hij h5
    · rw [h6, vAt_app (by omega), hl]
      intro h7 h8
      exact hn ⟨i, by omega, h7, h8⟩
theorem Good.decl {s s' : Ck} {cur x : Nat} {nm : ByteArray} {t p : Int} {y : Unit} (h : Good s) (hm : mayD nm t p s = .ok y s') (ht : 0 ≤ t ∧ t < 8) {s2 : Ck} (e1 : s2.vs = s.vs) (e2 : s2.ni = s.ni) (e3 : s2.nr = s.nr) (e4 : s2.lvl = s.lvl) : Good (decl cur x nm t s2) := by
  obtain ⟨_, h1, h2, h3⟩ := mayD_eq hm
  have h' : Good s2 := h.same e1 e2 e3 (by rw [e4]; exact Nat.le_refl _)
  unfold Go.Proofs.Qxb6500277aGreat.decl
  by_cases hc : 2 ≤ t
  · rw [if_pos hc]
    exact h'.push (v := ⟨nm, t, s2.nr, s2.lvl⟩) rfl rfl ht rfl (by rw [e1, e4]; exact h1) (by simp [hc]) (by simp [hc]) (by simp [hc]) (by rw [e3]; exact h2) (by rw [e2]; exact h3)
  · rw [if_neg hc]
    exact h'.push (v := ⟨nm, t, s2.ni, s2.lvl⟩) rfl rfl ht rfl (by rw [e1, e4]; exact h1) (by simp [hc]) (by simp [hc]) (by simp [hc]) (by rw [e3]; exact h2) (by rw [e2]; exact h3)
/-- The youngest goes. -/
theorem Good.pop {s s' : Ck} {l : List Vr} {v : Vr} (h : Good s) (e0 : s.vs = l ++ [v]) (e1 : s'.vs = l) (e2 : s'.lvl = s.lvl) (e3 : s'.ni = if 2 ≤ v.ty then s.ni else s.ni - 1) (e4 : s'.nr = if 2 ≤ v.ty then s.nr - 1 else s.nr) : Good s' := by
  have hl : s.vs.length = l.length + 1 := by rw [e0]; simp
  have key : ∀ i, i < l.length → vAt s.vs i = vAt l i ∧ s.vs.take i = l.take i := fun i hi => by
    rw [e0]
    exact ⟨vAt_app hi, by rw [List.take_append_of_le_length (by omega)]⟩
  refine ⟨?_, ?_, ?_, ?_, ?_, ?_, ?_, ?_, ?_⟩
  · rw [e1]
    intro i j hij hj
    have := h.asc i j hij (by omega)
    rwa [(key i (by omega)).1, (key j hj).1] at this
  · rw [e1, e2]
    intro i hi
    have := h.lv i (by omega)
    rwa [(key i hi).1] at this
  · rw [e1]
    intro i hi
    have := h.ty i (by omega)
    rwa [(key i hi).1] at this
  · rw [e1]
    intro i hi
    have := h.slot i (by omega)
    rwa [(key i hi).1, (key i hi).2] at this
  · have := h.ni
    rw [e0, cIv_app, cIv_one] at this
    rw [e1, e3]; split at this <;> rename_i hc
    · rw [if_pos hc]; omega
    · rw [if_neg hc]; omega
  · have := h.nr
    rw [e0, cRv_app, cRv_one] at this
    rw [e1, e4]; split at this <;> rename_i hc
    · rw [if_pos hc]; omega
    · rw [if_neg hc]; omega
  · have := h.ni12; rw [e3]; split <;> omega
  · have := h.nr12; rw [e4]; split <;> omega
  · rw [e1]
    intro i j hij hj
    have := h.dup i j hij (by omega)
    rwa [(key i (by omega)).1, (key j hj).1] at this
/-- The counts behind a pop are those of the rest. -/
theorem Good.cnt {s : Ck} {l : List Vr} {v : Vr} (h : Good s) (e0 : s.vs = l ++ [v]) : (2 ≤ v.ty → 1 ≤ s.nr) ∧ (¬ 2 ≤ v.ty → 1 ≤ s.ni) := by
  have h1 := h.ni
  have h2 := h.nr
  rw [e0, cIv_app, cIv_one] at h1
  rw [e0, cRv_app, cRv_one] at h2
  exact ⟨fun hc => by rw [if_pos hc] at h2; omega, fun hc => by rw [if_neg hc] at h1; omega⟩
mutual
def TyS : Stm → Prop
  | .vd _ _ t e => (0 ≤ t ∧ t < 8) ∧ TyE e
  | .asg _ a b => TyE a ∧ TyE b
  | .iff _ e _ b | .whl _ e _ b => TyE e ∧ TySs b
  | .ife _ e _ b _ c => TyE e ∧ TySs b ∧ TySs c
  | .ret _ e | .prt _ e | .exp e => TyE e
def TySs : Stms → Prop
  | .nil => True
  | .cons e es => TyS e ∧ TySs es
end
/-- What a statement's check keeps. -/
structure Ext (s s' : Ck) : Prop where
  vs : ∃ e, s'.vs = s.vs ++ e
  lvl : s'.lvl = s.lvl
  lim : s'.lim.length = s.lim.length
  tyl : s'.ty.length = s.ty.length
  rfl' : s'.rf.length = s.rf.length
theorem Ext.refl (s : Ck) : Ext s s := ⟨⟨[], by simp⟩, rfl, rfl, rfl, rfl⟩
theorem Ext.trans {a b c : Ck} (h : Ext a b) (k : Ext b c) : Ext a c := by
  obtain ⟨⟨e, h1⟩, h2, h3, h4, h5⟩ := h
  obtain ⟨⟨f, k1⟩, k2, k3, k4, k5⟩ := k
  exact ⟨⟨e ++ f, by rw [k1, h1]; simp⟩, k2.trans h2, k3.trans h3, k4.trans h4, k5.trans h5⟩
theorem Kp.ext {s s' : Ck} (h : Kp s s') : Ext s s' := ⟨⟨[], by rw [h.vs]; simp⟩, h.lvl, by rw [h.lim], h.tyl, h.rfl'⟩
theorem Ext.len {s s' : Ck} (h : Ext s s') : s.vs.length ≤ s'.vs.length := by obtain ⟨e, h1⟩ := h.vs; rw [h1]; simp
theorem Ext.take {s s' : Ck} (h : Ext s s') : s'.vs.take s.vs.length = s.vs := by obtain ⟨e, h1⟩ := h.vs; rw [h1]; simp
theorem Ext.shut {s s' : Ck} (h : Ext (openB s) s') : Ext s (shut s s') := ⟨⟨[], by simp [Go.Proofs.Qxb6500277aGreat.shut]⟩, rfl, h.lim, h.tyl, h.rfl'⟩
theorem Ext.decl (cur x : Nat) (nm : ByteArray) (t : Int) (s : Ck) : Ext s (decl cur x nm t s) := by
  unfold Go.Proofs.Qxb6500277aGreat.decl
  split
  · exact ⟨⟨_, rfl⟩, rfl, by simp, rfl, by simp⟩
  · exact ⟨⟨_, rfl⟩, rfl, by simp, rfl, by simp⟩
theorem wantE_eq {X : Cx} {b : Nat} {e : Exp} {t : Int} {s s' : Ck} {x : Unit} (h : wantE X b e t s = .ok x s') : Kp s s' := by
  unfold wantE at h
  obtain ⟨u, s1, h1, h2⟩ := Rc.bind_eq h
  obtain ⟨_, rfl⟩ := isT_eq h2
  exact (keepE X e b s u _ h1).1.k
theorem inB_ext {k : Ck → Rc Unit} {s s' : Ck} {x : Unit} (hk : ∀ (s : Ck) (x : Unit) (s' : Ck), k s = .ok x s' → Ext s s' ∧ (Good s → Good s')) (h : inB k s = .ok x s') : Ext s s' ∧ (Good s → Good s') := by
  unfold inB at h
  obtain ⟨_, u, h1, h2⟩ := Rc.bind_eq h
  injection h2 with _ h2
  subst h2
  exact ⟨(hk _ _ _ h1).1.shut, fun g => g.shut⟩
mutual
theorem keepS (X : Cx) (cur : Nat) : (st : Stm) → TyS st → ∀ (b : Nat) (s : Ck) (x : Unit) (s' : Ck), ckS X cur b st s = .ok x s' → Ext s s' ∧ (Good s → Good s')
  | .vd nm p t e, ht, b, s, x, s', h => by
    simp only [ckS] at h
    obtain ⟨_, u, h1, g1⟩ := Rc.bind_eq h
    obtain ⟨_, u2, h2, g2⟩ := Rc.bind_eq g1
    injection g2 with _ g2
    subst g2
    have e0 := (mayD_eq h1).1
    subst e0
    have k := wantE_eq h2
    exact ⟨k.ext.trans (.decl ..), fun g => g.decl h1 ht.1 k.vs k.ni k.nr k.lvl⟩
  | .asg p a c, ht, b, s, x, s', h => by
    simp only [ckS] at h
    obtain ⟨t, u, h1, g1⟩ := Rc.bind_eq h
    have k := (keepE X a b s t u h1).1.k.trans (wantE_eq g1)
    exact ⟨k.ext, fun g => g.keep k⟩
  | .iff p e bp ss, ht, b, s, x, s', h => by
    simp only [ckS] at h
    obtain ⟨_, u, h1, g1⟩ := Rc.bind_eq h
    have k := wantE_eq h1
    have r := inB_ext (keepSs X cur ss ht.2 _) g1
    exact ⟨k.ext.trans r.1, fun g => r.2 (g.keep k)⟩
  | .ife p e bp ss cp cs, ht, b, s, x, s', h => by
    simp only [ckS] at h
    obtain ⟨_, u, h1, g1⟩ := Rc.bind_eq h
    obtain ⟨_, u2, h2, g2⟩ := Rc.bind_eq g1
    have k := wantE_eq h1
    have r := inB_ext (keepSs X cur ss ht.2.1 _) h2
    have r2 := inB_ext (keepSs X cur cs ht.2.2 _) g2
    exact ⟨(k.ext.trans r.1).trans r2.1, fun g => r2.2 (r.2 (g.keep k))⟩
  | .whl p e bp ss, ht, b, s, x, s', h => by
    simp only [ckS] at h
    obtain ⟨_, u, h1, g1⟩ := Rc.bind_eq h
    have k := wantE_eq h1
    have r := inB_ext (keepSs X cur ss ht.2 _) g1
    exact ⟨k.ext.trans r.1, fun g => r.2 (g.keep k)⟩
  | .ret p e, ht, b, s, x, s', h => by
    simp only [ckS] at h
    have k := wantE_eq h
    exact ⟨k.ext, fun g => g.keep k⟩
  | .prt p e, ht, b, s, x, s', h => by
    simp only [ckS] at h
    have k := wantE_eq h
    exact ⟨k.ext, fun g => g.keep k⟩
  | .exp e, ht, b, s, x, s', h => by
    simp only [ckS] at h
    obtain ⟨t, u, h1, g1⟩ := Rc.bind_eq h
    injection g1 with _ g1
    subst g1
    have k := (keepE X e b s t _ h1).1.k
    exact ⟨k.ext, fun g => g.keep k⟩
theorem keepSs (X : Cx) (cur : Nat) : (st : Stms) → TySs st → ∀ (b : Nat) (s : Ck) (x : Unit) (s' : Ck), ckSs X cur b st s = .ok x s' → Ext s s' ∧ (Good s → Good s')
  | .nil, _, b, s, x, s', h => by
    simp only [ckSs] at h
    injection h with _ h
    subst h
    exact ⟨.refl _, fun g => g⟩
  | .cons st ss, ht, b, s, x, s', h => by
    simp only [ckSs] at h
    obtain ⟨_, u, h1, g1⟩ := Rc.bind_eq h
    have r := keepS X cur st ht.1 b s _ u h1
    have r2 := keepSs X cur ss ht.2 _ u _ s' g1
    exact ⟨r.1.trans r2.1, fun g => r2.2 (r.2 g)⟩
end
end Go.Proofs.Qxb6500277aGreat
