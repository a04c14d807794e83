/- Types and slots: expressions. -/
import Derived.Test.Qxb6500277aGreatGP13
namespace Go.Proofs.Qxb6500277aGreat
open Go Go.RowKit

/-- The program's lists are the check's, from b on. -/
def Ag (P : Pg) (s : Ck) (b n : Nat) : Prop := ∀ x, b ≤ x → x < b + n → P.ty[x]? = s.ty[x]? ∧ P.rf[x]? = s.rf[x]?
/-- The functions are the check's. -/
structure PX (P : Pg) (X : Cx) : Prop where
  len : P.fns.length = X.fs.length
  f : ∀ i, i < X.fs.length → (fiA P i).pi = cI (pAt X.pt i) ∧ (fiA P i).pr = cR (pAt X.pt i) ∧ (fiA P i).ret = (fAt X.fs i).ret
mutual
def NmE : Exp → Prop
  | .num v _ => 0 ≤ v ∧ v < 9223372036854775808
  | .boo v _ => v = 0 ∨ v = 1
  | .var .. | .rd .. => True
  | .call _ _ gs => NmEs gs
  | .idx _ a b => NmE a ∧ NmE b
  | .new _ _ e | .len _ e | .un _ _ e => NmE e
  | .bin _ _ l r => NmE l ∧ NmE r
def NmEs : Exps → Prop
  | .nil => True
  | .cons e es => NmE e ∧ NmEs es
end
theorem ag_ty {P : Pg} {s : Ck} {b n x : Nat} {t : Int} (h : Ag P s b n) (h1 : b ≤ x) (h2 : x < b + n) (ht : s.ty[x]? = some t) : tyA P x = t := by
  have := (h x h1 h2).1
  unfold tyA
  rw [List.getD_eq_getElem?_getD, this, ht]
  rfl
theorem ag_rf {P : Pg} {s : Ck} {b n x : Nat} {t : Nat} (h : Ag P s b n) (h1 : b ≤ x) (h2 : x < b + n) (ht : s.rf[x]? = some (t : Int)) : rfA P x = t := by
  have := (h x h1 h2).2
  unfold rfA
  rw [List.getD_eq_getElem?_getD, this, ht]
  show (if (t : Int) < 0 then 100000 else (t : Int).toNat) = t
  rw [if_neg (by omega)]
  simp
/-- What a check writes of the references lies in its range. -/
def Ko (b n : Nat) (s s' : Ck) : Prop := ∀ x, x < b ∨ b + n ≤ x → s'.rf[x]? = s.rf[x]?
theorem Ko.trans {b n m : Nat} {s s' s'' : Ck} (h : Ko b n s s') (h' : Ko (b + n) m s' s'') : Ko b (n + m) s s'' := fun x hx => (h' x (by omega)).trans (h x (by omega))
theorem note_eq {x : Nat} {u t : Int} {s s' : Ck} (h : note x u s = .ok t s') : t = u ∧ s' = { s with ty := s.ty.set x u } := by
  unfold note at h
  injection h with h1 h2
  exact ⟨h1.symm, h2.symm⟩
theorem Ko.note {b n x : Nat} {u t : Int} {s s' s'' : Ck} (h : Ko b n s s') (hn : Go.Proofs.Qxb6500277aGreat.note x u s' = .ok t s'') : Ko b (n + 1) s s'' := by
  obtain ⟨_, rfl⟩ := note_eq hn
  exact fun y hy => h y (by omega)
theorem callT_eq {X : Cx} {f x : Nat} {p t : Int} {ts : List (Int × Int)} {s s' : Ck} (h : callT X f x p ts s = .ok t s') : ts.length = (pAt X.pt f).length ∧ oddA ts (pAt X.pt f) = none ∧ note x (fAt X.fs f).ret (refer x f s) = .ok t s' := by
  unfold callT at h
  split at h
  · cases h
  · rename_i hl
    split at h
    · cases h
    · rename_i ho
      exact ⟨by simpa using hl, ho, h⟩
mutual
theorem rfE (X : Cx) : (e : Exp) → ∀ (b : Nat) (s : Ck) (t : Int) (s' : Ck), ckE X b e s = .ok t s' → Ko b (szE e) s s'
  | .num .., b, s, t, s', h | .rd .., b, s, t, s', h | .boo .., b, s, t, s', h => by
    simp only [ckE] at h
    exact Ko.note (n := 0) (fun _ _ => rfl) h
  | .var nm p, b, s, t, s', h => by
    simp only [ckE] at h
    split at h
    · cases h
    · obtain ⟨_, rfl⟩ := note_eq h
      intro x hx
      simp only [szE] at hx
      show (s.rf.set b _)[x]? = _
      rw [List.getElem?_set_ne (by omega)]
  | .call nm p gs, b, s, t, s', h => by
    simp only [ckE] at h
    split at h
    · cases h
    · obtain ⟨ts, s1, h1, h2⟩ := Rc.bind_eq h
      have k := rfEs X gs b s ts s1 h1
      obtain ⟨_, _, h3⟩ := callT_eq h2
      obtain ⟨_, rfl⟩ := note_eq h3
      intro x hx
      simp only [szE] at hx
      show (s1.rf.set (b + szEs gs) _)[x]? = _
      rw [List.getElem?_set_ne (by omega)]
      exact k x (by omega)
  | .idx p a c, b, s, t, s', h => by
    simp only [ckE] at h
    obtain ⟨u, s1, h1, h2⟩ := Rc.bind_eq h
    split at h2
    · cases h2
    · obtain ⟨u2, s2, h3, h4⟩ := Rc.bind_eq h2
      obtain ⟨_, s3, h5, h6⟩ := Rc.bind_eq h4
      obtain ⟨_, rfl⟩ := isT_eq h5
      exact Ko.note ((rfE X a b s u s1 h1).trans (rfE X c _ s1 u2 _ h3)) h6
  | .new ty p e, b, s, t, s', h => by
    simp only [ckE] at h
    split at h
    · cases h
    · obtain ⟨u, s1, h1, h2⟩ := Rc.bind_eq h
      obtain ⟨_, s3, h5, h6⟩ := Rc.bind_eq h2
      obtain ⟨_, rfl⟩ := isT_eq h5
      exact Ko.note (rfE X e b s u _ h1) h6
  | .len p e, b, s, t, s', h => by
    simp only [ckE] at h
    obtain ⟨u, s1, h1, h2⟩ := Rc.bind_eq h
    split at h2
    · cases h2
    · exact Ko.note (rfE X e b s u _ h1) h2
  | .un k p e, b, s, t, s', h => by
    simp only [ckE] at h
    obtain ⟨u, s1, h1, h2⟩ := Rc.bind_eq h
    obtain ⟨_, s3, h5, h6⟩ := Rc.bind_eq h2
    obtain ⟨_, rfl⟩ := isT_eq h5
    exact Ko.note (rfE X e b s u _ h1) h6
  | .bin k p l r, b, s, t, s', h => by
    simp only [ckE] at h
    split at h
    · obtain ⟨u, s1, h1, h2⟩ := Rc.bind_eq h
      split at h2
      · cases h2
      · obtain ⟨u2, s2, h3, h4⟩ := Rc.bind_eq h2
        obtain ⟨_, s3, h5, h6⟩ := Rc.bind_eq h4
        obtain ⟨_, rfl⟩ := isT_eq h5
        exact Ko.note ((rfE X l b s u s1 h1).trans (rfE X r _ s1 u2 _ h3)) h6
    · obtain ⟨u, s1, h1, h2⟩ := Rc.bind_eq h
      obtain ⟨_, s3, h5, h6⟩ := Rc.bind_eq h2
      obtain ⟨_, rfl⟩ := isT_eq h5
      obtain ⟨u2, s2, h3, h4⟩ := Rc.bind_eq h6
      obtain ⟨_, s4, h7, h8⟩ := Rc.bind_eq h4
      obtain ⟨_, rfl⟩ := isT_eq h7
      exact Ko.note ((rfE X l b s u _ h1).trans (rfE X r _ _ u2 _ h3)) h8
theorem rfEs (X : Cx) : (es : Exps) → ∀ (b : Nat) (s : Ck) (ts : List (Int × Int)) (s' : Ck), ckEs X b es s = .ok ts s' → Ko b (szEs es) s s'
  | .nil, b, s, ts, s', h => by
    simp only [ckEs] at h
    injection h with _ h
    subst h
    exact fun _ _ => rfl
  | .cons e es, b, s, ts, s', h => by
    simp only [ckEs] at h
    obtain ⟨u, s1, h1, h2⟩ := Rc.bind_eq h
    obtain ⟨u2, s2, h3, h4⟩ := Rc.bind_eq h2
    injection h4 with _ h4
    subst h4
    exact (rfE X e b s u s1 h1).trans (rfEs X es _ s1 u2 _ h3)
end
theorem cIv_split (vs : List Vr) (i : Nat) (hi : i < vs.length) : cIv vs = cIv (vs.take i) + (if 2 ≤ (vAt vs i).ty then 0 else 1) + cIv (vs.drop (i + 1)) := by
  have e : vs = vs.take i ++ ([vAt vs i] ++ vs.drop (i + 1)) := by
    have : vAt vs i = vs[i] := by unfold vAt; simp [hi]
    rw [this, List.singleton_append, List.getElem_cons_drop, List.take_append_drop]
  conv => lhs; rw [e]
  rw [cIv_app, cIv_app, cIv_one]
  omega
theorem cRv_split (vs : List Vr) (i : Nat) (hi : i < vs.length) : cRv vs = cRv (vs.take i) + (if 2 ≤ (vAt vs i).ty then 1 else 0) + cRv (vs.drop (i + 1)) := by
  have e : vs = vs.take i ++ ([vAt vs i] ++ vs.drop (i + 1)) := by
    have : vAt vs i = vs[i] := by unfold vAt; simp [hi]
    rw [this, List.singleton_append, List.getElem_cons_drop, List.take_append_drop]
  conv => lhs; rw [e]
  rw [cRv_app, cRv_app, cRv_one]
  omega
theorem Good.slot_lt {s : Ck} (h : Good s) {i : Nat} (hi : i < s.vs.length) : if 2 ≤ (vAt s.vs i).ty then (vAt s.vs i).slot < s.nr else (vAt s.vs i).slot < s.ni := by
  have h1 := h.slot i hi
  have h2 := cIv_split s.vs i hi
  have h3 := cRv_split s.vs i hi
  rw [← h.ni] at h2
  rw [← h.nr] at h3
  by_cases ht : 2 ≤ (vAt s.vs i).ty
  · rw [if_pos ht] at h1 h2 h3 ⊢
    omega
  · rw [if_neg ht] at h1 h2 h3 ⊢
    omega
theorem oddA_eq : ∀ (ts : List (Int × Int)) (us : List Int), ts.length = us.length → oddA ts us = none → ts.map (·.1) = us
  | [], [], _, _ => rfl
  | (t, p) :: ts, u :: us, hl, h => by
    simp only [oddA] at h
    split at h
    · rename_i e
      rw [List.map_cons, oddA_eq ts us (by simpa using hl) h]
      simp [e]
    · cases h
theorem sub_ag {P : Pg} {s' s : Ck} {b n b' n' : Nat} (h : Ag P s' b n) (h1 : b ≤ b') (h2 : b' + n' ≤ b + n) (he : ∀ x, b' ≤ x → x < b' + n' → s'.ty[x]? = s.ty[x]? ∧ s'.rf[x]? = s.rf[x]?) : Ag P s b' n' := fun x hx hy => by
  obtain ⟨a, c⟩ := h x (by omega) (by omega)
  obtain ⟨d, e⟩ := he x hx hy
  exact ⟨a.trans d, c.trans e⟩
end Go.Proofs.Qxb6500277aGreat
