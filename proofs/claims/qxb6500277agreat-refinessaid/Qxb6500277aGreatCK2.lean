/- The checker's plain side: nodes at their places, what a check keeps. -/
import Derived.Test.Qxb6500277aGreatCK1
namespace Go.Proofs.Qxb6500277aGreat
open Go Go.RowKit

/-- The nodes l lie in ns from place b on. -/
def Lie (ns : List Nd) (b : Nat) (l : List Nd) : Prop := ∃ u v, ns = u ++ (l ++ v) ∧ u.length = b
theorem Lie.app {ns : List Nd} {b : Nat} {l m : List Nd} (h : Lie ns b (l ++ m)) : Lie ns b l ∧ Lie ns (b + l.length) m := by
  obtain ⟨u, v, h1, h2⟩ := h
  refine ⟨⟨u, m ++ v, by rw [h1]; simp, h2⟩, ⟨u ++ l, v, by rw [h1]; simp, by simp [h2]⟩⟩
theorem Lie.one {ns : List Nd} {b : Nat} {nd : Nd} (h : Lie ns b [nd]) : ns[b]? = some nd := by
  obtain ⟨u, v, h1, h2⟩ := h
  subst h2
  rw [h1, List.getElem?_append_right (Nat.le_refl _)]
  simp
theorem Lie.le {ns : List Nd} {b : Nat} {l : List Nd} (h : Lie ns b l) : b + l.length ≤ ns.length := by
  obtain ⟨u, v, h1, h2⟩ := h
  rw [h1, ← h2]; simp
theorem Lie.e1 {ns : List Nd} {b : Nat} {nx : Int} {e : Exp} {nd : Nd} {m : List Nd} (h : Lie ns b (m ++ [nd])) (hl : m.length + 1 = szE e) (_ : flE b nx e = m ++ [nd]) : ns[b + szE e - 1]? = some nd := by
  have := h.app.2.one
  rw [show b + szE e - 1 = b + m.length by omega]; exact this
/-- The root of an expression. -/
theorem Lie.root {ns : List Nd} {b : Nat} {nx : Int} {e : Exp} (h : Lie ns b (flE b nx e)) : ∃ nd, ns[b + szE e - 1]? = some nd ∧ nd.kind = kiE e ∧ nd.pos = poE e ∧ nd.nx = nx := by
  have key : ∀ (m : List Nd) (nd : Nd), flE b nx e = m ++ [nd] → nd.kind = kiE e → nd.pos = poE e → nd.nx = nx → ∃ nd, ns[b + szE e - 1]? = some nd ∧ nd.kind = kiE e ∧ nd.pos = poE e ∧ nd.nx = nx := fun m nd hm h1 h2 h3 => by
    have hl := flE_len b nx e
    rw [hm] at h hl
    exact ⟨nd, h.e1 (by simpa using hl) hm, h1, h2, h3⟩
  cases e with
  | num v p => exact key [] _ rfl rfl rfl rfl
  | boo v p => exact key [] _ rfl rfl rfl rfl
  | var s p => exact key [] _ rfl rfl rfl rfl
  | rd p => exact key [] _ rfl rfl rfl rfl
  | call s p gs => exact key _ _ rfl rfl rfl rfl
  | idx p x y => exact key _ _ rfl rfl rfl rfl
  | new t p e => exact key _ _ rfl rfl rfl rfl
  | len p e => exact key _ _ rfl rfl rfl rfl
  | un k p e => exact key _ _ rfl rfl rfl rfl
  | bin k p l r => exact key _ _ rfl rfl rfl rfl
theorem Lie.call {ns : List Nd} {b : Nat} {nx p : Int} {s : ByteArray} {gs : Exps} (h : Lie ns b (flE b nx (.call s p gs))) : Lie ns b (flEs b gs) ∧ ns[b + szEs gs]? = some ⟨13, hdE b gs, -1, -1, nx, 0, p, s⟩ := by
  simp only [flE] at h
  have := h.app
  rw [flEs_len] at this
  exact ⟨this.1, this.2.one⟩
theorem Lie.two {ns : List Nd} {b : Nat} {x y : Exp} {nd : Nd} (h : Lie ns b (flE b (-1) x ++ flE (b + szE x) (-1) y ++ [nd])) : Lie ns b (flE b (-1) x) ∧ Lie ns (b + szE x) (flE (b + szE x) (-1) y) ∧ ns[b + szE x + szE y]? = some nd := by
  obtain ⟨h1, h2⟩ := h.app
  obtain ⟨h3, h4⟩ := h1.app
  rw [List.length_append, flE_len, flE_len] at h2
  rw [flE_len] at h4
  exact ⟨h3, h4, by rw [Nat.add_assoc]; exact h2.one⟩
theorem Lie.un {ns : List Nd} {b : Nat} {x : Exp} {nd : Nd} (h : Lie ns b (flE b (-1) x ++ [nd])) : Lie ns b (flE b (-1) x) ∧ ns[b + szE x]? = some nd := by
  obtain ⟨h1, h2⟩ := h.app
  rw [flE_len] at h2
  exact ⟨h1, h2.one⟩
theorem Lie.args {ns : List Nd} {b : Nat} {e : Exp} {es : Exps} (h : Lie ns b (flEs b (.cons e es))) : Lie ns b (flE b (hdE (b + szE e) es) e) ∧ Lie ns (b + szE e) (flEs (b + szE e) es) := by
  simp only [flEs] at h
  have := h.app
  rw [flE_len] at this
  exact this
/-- A block of statements in the tree. -/
theorem Lie.blk {ns : List Nd} {b : Nat} {p : Int} {ss : Stms} (h : Lie ns b (flB b p ss)) : Lie ns b (flSs b ss) ∧ ns[b + szSs ss]? = some ⟨2, hdS b ss, -1, -1, -1, 0, p, ⟨#[]⟩⟩ := by
  unfold flB at h
  have := h.app
  rw [flSs_len] at this
  exact ⟨this.1, this.2.one⟩
theorem Lie.stms {ns : List Nd} {b : Nat} {e : Stm} {es : Stms} (h : Lie ns b (flSs b (.cons e es))) : Lie ns b (flS b (hdS (b + szS e) es) e) ∧ Lie ns (b + szS e) (flSs (b + szS e) es) := by
  simp only [flSs] at h
  have := h.app
  rw [flS_len] at this
  exact this
theorem Lie.eb {ns : List Nd} {b : Nat} {e : Exp} {bp : Int} {ss : Stms} {nd : Nd} (h : Lie ns b (flE b (-1) e ++ (flSs (b + szE e) ss ++ [⟨2, hdS (b + szE e) ss, -1, -1, -1, 0, bp, ⟨#[]⟩⟩]) ++ [nd])) :
    Lie ns b (flE b (-1) e) ∧ Lie ns (b + szE e) (flB (b + szE e) bp ss) ∧ ns[b + szE e + (szSs ss + 1)]? = some nd := by
  obtain ⟨h1, h2⟩ := h.app
  obtain ⟨h3, h4⟩ := h1.app
  rw [flE_len] at h4
  refine ⟨h3, h4, ?_⟩
  have := h2.one
  simp only [List.length_append, flE_len, flSs_len, List.length_singleton] at this
  rw [Nat.add_assoc]; exact this
theorem Lie.ebb {ns : List Nd} {b : Nat} {e : Exp} {bp cp : Int} {ss cs : Stms} {nd : Nd} (h : Lie ns b (flE b (-1) e ++ (flSs (b + szE e) ss ++ [⟨2, hdS (b + szE e) ss, -1, -1, -1, 0, bp, ⟨#[]⟩⟩]) ++ (flSs (b + szE e + (szSs ss + 1)) cs ++ [⟨2, hdS (b + szE e + (szSs ss + 1)) cs, -1, -1, -1, 0, cp, ⟨#[]⟩⟩]) ++ [nd])) :
    Lie ns b (flE b (-1) e) ∧ Lie ns (b + szE e) (flB (b + szE e) bp ss) ∧ Lie ns (b + szE e + (szSs ss + 1)) (flB (b + szE e + (szSs ss + 1)) cp cs) ∧ ns[b + szE e + (szSs ss + 1) + (szSs cs + 1)]? = some nd := by
  obtain ⟨h1, h2⟩ := h.app
  obtain ⟨h3, h4⟩ := h1.app
  obtain ⟨h5, h6⟩ := h3.app
  rw [flE_len] at h6
  simp only [List.length_append, flE_len, flSs_len, List.length_singleton] at h4
  refine ⟨h5, h6, ?_, ?_⟩
  · rw [show b + szE e + (szSs ss + 1) = b + (szE e + (szSs ss + 1)) by omega]
    rw [show b + szE e + (szSs ss + 1) = b + (szE e + (szSs ss + 1)) by omega] at h4
    exact h4
  · have := h2.one
    simp only [List.length_append, flE_len, flSs_len, List.length_singleton] at this
    rw [show b + szE e + (szSs ss + 1) + (szSs cs + 1) = b + (szE e + (szSs ss + 1) + (szSs cs + 1)) by omega]
    exact this
/-- The root of a statement. -/
theorem Lie.rootS {ns : List Nd} {b : Nat} {nx : Int} {e : Stm} (h : Lie ns b (flS b nx e)) : ∃ nd, ns[b + szS e - 1]? = some nd ∧ nd.nx = nx := by
  have key : ∀ (m : List Nd) (nd : Nd), flS b nx e = m ++ [nd] → nd.nx = nx → ∃ nd, ns[b + szS e - 1]? = some nd ∧ nd.nx = nx := fun m nd hm h3 => by
    have hl := flS_len b nx e
    rw [hm] at h hl
    have := h.app.2.one
    simp at hl
    exact ⟨nd, by rw [show b + szS e - 1 = b + m.length by omega]; exact this, h3⟩
  cases e with
  | vd s p t e => exact key _ _ rfl rfl
  | asg p x y => exact key _ _ rfl rfl
  | iff p e bp ss => exact key _ _ rfl rfl
  | ife p e bp ss cp cs => exact key _ _ rfl rfl
  | whl p e bp ss => exact key _ _ rfl rfl
  | ret p e => exact key _ _ rfl rfl
  | prt p e => exact key _ _ rfl rfl
  | exp e => exact key _ _ rfl rfl

/-! The greatest number with a property. -/
theorem Rc.bind_eq {α β : Type} {r : Rc α} {k : α → Ck → Rc β} {a : β} {s : Ck} (h : r.bind k = .ok a s) : ∃ x u, r = .ok x u ∧ k x u = .ok a s := by
  cases r with
  | bad e p => cases h
  | ok x u => exact ⟨x, u, rfl, h⟩
theorem isT_eq {t u p : Int} {s s' : Ck} {x : Unit} (h : isT t u p s = .ok x s') : t = u ∧ s' = s := by
  unfold isT at h
  split at h
  · injection h with _ h; exact ⟨by assumption, h.symm⟩
  · cases h
mutual
/-- The types that are written out are types. -/
def TyE : Exp → Prop
  | .num .. | .boo .. | .var .. | .rd .. => True
  | .call _ _ gs => TyEs gs
  | .idx _ a b => TyE a ∧ TyE b
  | .new t _ e => (0 ≤ t ∧ t < 8) ∧ TyE e
  | .len _ e | .un _ _ e => TyE e
  | .bin _ _ l r => TyE l ∧ TyE r
def TyEs : Exps → Prop
  | .nil => True
  | .cons e es => TyE e ∧ TyEs es
end
/-- What an expression's check keeps. -/
structure Kp (s s' : Ck) : Prop where
  vs : s'.vs = s.vs
  ni : s'.ni = s.ni
  nr : s'.nr = s.nr
  lvl : s'.lvl = s.lvl
  lim : s'.lim = s.lim
  tyl : s'.ty.length = s.ty.length
  rfl' : s'.rf.length = s.rf.length
theorem Kp.refl (s : Ck) : Kp s s := ⟨rfl, rfl, rfl, rfl, rfl, rfl, rfl⟩
theorem Kp.trans {a b c : Ck} (h : Kp a b) (k : Kp b c) : Kp a c := ⟨k.vs.trans h.vs, k.ni.trans h.ni, k.nr.trans h.nr, k.lvl.trans h.lvl, k.lim.trans h.lim, k.tyl.trans h.tyl, k.rfl'.trans h.rfl'⟩
/-- Types in sight. -/
def VT (X : Cx) (s : Ck) : Prop := (∀ i, 0 ≤ (vAt s.vs i).ty ∧ (vAt s.vs i).ty < 8) ∧ ∀ i, 0 ≤ (fAt X.fs i).ret ∧ (fAt X.fs i).ret < 8
theorem VT.keep {X : Cx} {s s' : Ck} (h : VT X s) (k : Kp s s') : VT X s' := ⟨by rw [k.vs]; exact h.1, h.2⟩
/-- Of a check of the nodes b .. b+n: what it keeps; n's own type. -/
structure Ke (X : Cx) (b n : Nat) (s s' : Ck) : Prop where
  k : Kp s s'
  out : ∀ x, x < b ∨ b + n ≤ x → s'.ty[x]? = s.ty[x]?
theorem Ke.trans {X : Cx} {b n m : Nat} {s s' s'' : Ck} (h : Ke X b n s s') (h' : Ke X (b + n) m s' s'') : Ke X b (n + m) s s'' :=
  ⟨h.k.trans h'.k, fun x hx => (h'.out x (by omega)).trans (h.out x (by omega))⟩
theorem Ke.refl (X : Cx) (b n : Nat) (s : Ck) : Ke X b n s s := ⟨.refl s, fun _ _ => rfl⟩
/-- The root is noted. -/
theorem Ke.note {X : Cx} {b n : Nat} {s s' s'' : Ck} {t u : Int} (h : Ke X b n s s') (hn : Go.Proofs.Qxb6500277aGreat.note (b + n) u s' = .ok t s'') : t = u ∧ Ke X b (n + 1) s s'' ∧ (b + n < s.ty.length → s''.ty[b + n]? = some t) := by
  unfold Go.Proofs.Qxb6500277aGreat.note at hn
  injection hn with h1 h2
  subst h1 h2
  refine ⟨rfl, ⟨⟨h.k.vs, h.k.ni, h.k.nr, h.k.lvl, h.k.lim, by simp [h.k.tyl], h.k.rfl'⟩, fun x hx => ?_⟩, fun hl => ?_⟩
  · show (s'.ty.set (b + n) u)[x]? = _
    rw [List.getElem?_set_ne (by omega)]
    exact h.out x (by omega)
  · show (s'.ty.set (b + n) u)[b + n]? = _
    rw [List.getElem?_set_self (by rw [h.k.tyl]; exact hl)]
theorem Ke.refer {X : Cx} {b n : Nat} {s s' : Ck} {x : Nat} {r : Int} (h : Ke X b n s s') : Ke X b n s (Go.Proofs.Qxb6500277aGreat.refer x r s') :=
  ⟨⟨h.k.vs, h.k.ni, h.k.nr, h.k.lvl, h.k.lim, h.k.tyl, by simp [Go.Proofs.Qxb6500277aGreat.refer, h.k.rfl']⟩, h.out⟩
/-- The arguments' types stand in the list. -/
def Tys (b : Nat) (ty : List Int) : Exps → List (Int × Int) → Prop
  | .nil, ts => ts = []
  | .cons e es, ts => ∃ t r, ts = (t, poE e) :: r ∧ ty[b + szE e - 1]? = some t ∧ Tys (b + szE e) ty es r
theorem Tys.congr {ty ty' : List Int} : ∀ (es : Exps) (b : Nat) (ts : List (Int × Int)), Tys b ty es ts → (∀ x, b ≤ x → x < b + szEs es → ty'[x]? = ty[x]?) → Tys b ty' es ts := by
  intro es
  induction es using Exps.rec (motive_1 := fun _ => True) with
  | nil => intro b ts h _; exact h
  | cons e es _ ih =>
    rintro b ts ⟨t, r, h1, h2, h3⟩ hc
    have := szE_pos e
    simp only [szEs] at hc
    exact ⟨t, r, h1, by rw [hc _ (by omega) (by omega)]; exact h2, ih _ _ h3 fun x h4 h5 => hc x (by omega) (by omega)⟩
  | _ => trivial
mutual
theorem keepE (X : Cx) : (e : Exp) → ∀ (b : Nat) (s : Ck) (t : Int) (s' : Ck), ckE X b e s = .ok t s' → Ke X b (szE e) s s' ∧ (b + szE e ≤ s.ty.length → s'.ty[b + szE e - 1]? = some t) ∧ (VT X s → TyE e → 0 ≤ t ∧ t < 8)
  | .num v p, b, s, t, s', h => by
    simp only [ckE] at h
    obtain ⟨h1, h2, h3⟩ := (Ke.refl X b 0 s).note h
    exact ⟨h2, fun hl => h3 (by simp [szE] at hl; omega), fun _ _ => by omega⟩
  | .boo v p, b, s, t, s', h => by
    simp only [ckE] at h
    obtain ⟨h1, h2, h3⟩ := (Ke.refl X b 0 s).note h
    exact ⟨h2, fun hl => h3 (by simp [szE] at hl; omega), fun _ _ => by omega⟩
  | .rd p, b, s, t, s', h => by
    simp only [ckE] at h
    obtain ⟨h1, h2, h3⟩ := (Ke.refl X b 0 s).note h
    exact ⟨h2, fun hl => h3 (by simp [szE] at hl; omega), fun _ _ => by omega⟩
  | .var nm p, b, s, t, s', h => by
    simp only [ckE] at h
    cases hf : fndV nm s.vs with
    | none => rw [hf] at h; cases h
    | some i =>
      rw [hf] at h
      obtain ⟨h1, h2, h3⟩ := ((Ke.refl X b 0 s).refer).note h
      exact ⟨h2, fun hl => h3 (by simp [szE] at hl; omega), fun hv _ => by rw [h1]; exact hv.1 i⟩
  | .call nm p gs, b, s, t, s', h => by
    simp only [ckE] at h
    cases hf : fndF nm X.fs with
    | none => rw [hf] at h; cases h
    | some f =>
      rw [hf] at h
      obtain ⟨ts, u, h1, h2⟩ := Rc.bind_eq h
      obtain ⟨k1, _⟩ := keepEs X gs b s ts u h1
      unfold callT at h2
      split at h2
      · cases h2
      · split at h2
        · cases h2
        · obtain ⟨h3, h4, h5⟩ := (k1.refer).note h2
          refine ⟨h4, fun hl => h5 (by simp [szE] at hl; omega), fun hv _ => by rw [h3]; exact hv.2 f⟩
  | .idx p a c, b, s, t, s', h => by
    simp only [ckE] at h
    obtain ⟨t1, u, h1, g1⟩ := Rc.bind_eq h
    split at g1
    · cases g1
    rename_i h2
    obtain ⟨t2, u2, h3, g2⟩ := Rc.bind_eq g1
    obtain ⟨_, u3, h4, g3⟩ := Rc.bind_eq g2
    obtain ⟨-, rfl⟩ := isT_eq h4
    obtain ⟨k1, _, b1⟩ := keepE X a b s t1 u h1
    obtain ⟨k2, _, b2⟩ := keepE X c _ u t2 _ h3
    rw [Nat.add_assoc] at g3
    obtain ⟨h5, h6, h7⟩ := (k1.trans k2).note g3
    refine ⟨h6, fun hl => ?_, fun hv ht => ?_⟩
    · rw [show b + szE (.idx p a c) - 1 = b + (szE a + szE c) by simp [szE]]
      exact h7 (by simp [szE] at hl; omega)
    · have := b1 hv ht.1
      omega
  | .new ty p e, b, s, t, s', h => by
    simp only [ckE] at h
    split at h
    · cases h
    obtain ⟨t2, u2, h3, g4⟩ := Rc.bind_eq h
    obtain ⟨_, u3, h4, g5⟩ := Rc.bind_eq g4
    obtain ⟨-, rfl⟩ := isT_eq h4
    obtain ⟨k1, _, b1⟩ := keepE X e b s t2 _ h3
    obtain ⟨h5, h6, h7⟩ := k1.note g5
    exact ⟨h6, fun hl => h7 (by simp [szE] at hl; omega), fun hv ht => by rw [h5]; exact ht.1⟩
  | .len p e, b, s, t, s', h => by
    simp only [ckE] at h
    obtain ⟨t2, u2, h3, g6⟩ := Rc.bind_eq h
    split at g6
    · cases g6
    obtain ⟨k1, _, b1⟩ := keepE X e b s t2 _ h3
    obtain ⟨h5, h6, h7⟩ := k1.note g6
    exact ⟨h6, fun hl => h7 (by simp [szE] at hl; omega), fun hv ht => by omega⟩
  | .un k p e, b, s, t, s', h => by
    simp only [ckE] at h
    obtain ⟨t2, u2, h3, g7⟩ := Rc.bind_eq h
    obtain ⟨_, u3, h4, g8⟩ := Rc.bind_eq g7
    obtain ⟨-, rfl⟩ := isT_eq h4
    obtain ⟨k1, _, b1⟩ := keepE X e b s t2 _ h3
    obtain ⟨h5, h6, h7⟩ := k1.note g8
    refine ⟨h6, fun hl => h7 (by simp [szE] at hl; omega), fun hv ht => ?_⟩
    rw [h5]; unfold unT; split <;> omega
  | .bin k p l r, b, s, t, s', h => by
    simp only [ckE] at h
    split at h
    · obtain ⟨t1, u, h1, g9⟩ := Rc.bind_eq h
      split at g9
      · cases g9
      obtain ⟨t2, u2, h3, g10⟩ := Rc.bind_eq g9
      obtain ⟨_, u3, h4, g11⟩ := Rc.bind_eq g10
      obtain ⟨-, rfl⟩ := isT_eq h4
      obtain ⟨k1, _, b1⟩ := keepE X l b s t1 u h1
      obtain ⟨k2, _, b2⟩ := keepE X r _ u t2 _ h3
      rw [Nat.add_assoc] at g11
      obtain ⟨h5, h6, h7⟩ := (k1.trans k2).note g11
      refine ⟨h6, fun hl => ?_, fun hv ht => by omega⟩
      rw [show b + szE (.bin k p l r) - 1 = b + (szE l + szE r) by simp [szE]]
      exact h7 (by simp [szE] at hl; omega)
    · obtain ⟨t1, u, h1, g12⟩ := Rc.bind_eq h
      obtain ⟨_, u1, h2, g13⟩ := Rc.bind_eq g12
      obtain ⟨-, rfl⟩ := isT_eq h2
      obtain ⟨t2, u2, h3, g14⟩ := Rc.bind_eq g13
      obtain ⟨_, u3, h4, g15⟩ := Rc.bind_eq g14
      obtain ⟨-, rfl⟩ := isT_eq h4
      obtain ⟨k1, _, b1⟩ := keepE X l b s t1 _ h1
      obtain ⟨k2, _, b2⟩ := keepE X r _ _ t2 _ h3
      rw [Nat.add_assoc] at g15
      obtain ⟨h5, h6, h7⟩ := (k1.trans k2).note g15
      refine ⟨h6, fun hl => ?_, fun hv ht => ?_⟩
      · rw [show b + szE (.bin k p l r) - 1 = b + (szE l + szE r) by simp [szE]]
        exact h7 (by simp [szE] at hl; omega)
      · rw [h5]; unfold givesT; split <;> omega
theorem keepEs (X : Cx) : (es : Exps) → ∀ (b : Nat) (s : Ck) (ts : List (Int × Int)) (s' : Ck), ckEs X b es s = .ok ts s' → Ke X b (szEs es) s s' ∧ (b + szEs es ≤ s.ty.length → Tys b s'.ty es ts)
  | .nil, b, s, ts, s', h => by
    simp only [ckEs] at h
    injection h with h1 h2
    subst h1 h2
    exact ⟨.refl _ _ _ _, fun _ => rfl⟩
  | .cons e es, b, s, ts, s', h => by
    simp only [ckEs] at h
    obtain ⟨t1, u, h1, g16⟩ := Rc.bind_eq h
    obtain ⟨r, u2, h2, g17⟩ := Rc.bind_eq g16
    injection g17 with h3 h4
    subst h3 h4
    obtain ⟨k1, r1, _⟩ := keepE X e b s t1 u h1
    obtain ⟨k2, r2⟩ := keepEs X es _ u r _ h2
    refine ⟨k1.trans k2, fun hl => ⟨t1, r, rfl, ?_, r2 ?_⟩⟩
    · have := szE_pos e
      rw [k2.out _ (by omega)]
      exact r1 (by simp [szEs] at hl; omega)
    · rw [k1.k.tyl]; simp [szEs] at hl; omega
end
end Go.Proofs.Qxb6500277aGreat
