/- The real checker: the answer's plain side; clear, main. -/
import Derived.Test.Qxb6500277aGreatCB3
import Derived.Test.Qxb6500277aGreatCN2
namespace Go.Proofs.Qxb6500277aGreat
open Go Go.RowKit

theorem HdsAt.pre {X : Cx} : ∀ (gs : List Fnc) (b i : Nat), HdsAt X b i gs → i + gs.length = X.fs.length
  | [], b, i, h => by simp only [HdsAt] at h; simpa using h
  | f :: r, b, i, h => by
    simp only [HdsAt] at h
    have := HdsAt.pre r _ _ h.2.2.2.2.2
    simp only [List.length_cons]; omega
theorem HdsAt.get {X : Cx} {ns : List Nd} : ∀ (gs : List Fnc) (b i : Nat), HdsAt X b i gs → Lie ns b (flFs b gs) → ∀ m, m < gs.length → ∃ (f : Fnc) (J : Nat) (nd : Nd), gs[m]? = some f ∧ (fAt X.fs (i + m)).node = (J : Nat) ∧ ns[J]? = some nd ∧ nd.pos = f.p
  | [], b, i, h, L, m, hm => by cases hm
  | f :: r, b, i, h, L, 0, hm => by
    simp only [HdsAt] at h
    obtain ⟨La, _⟩ := L.fns
    obtain ⟨_, _, _, hn⟩ := La.fn
    exact ⟨f, b + szF f - 1, _, rfl, by rw [Nat.add_zero, h.2.1, rtF_nat], hn, rfl⟩
  | f :: r, b, i, h, L, m + 1, hm => by
    simp only [HdsAt] at h
    obtain ⟨_, Lb⟩ := L.fns
    obtain ⟨g, J, nd, h1, h2, h3, h4⟩ := HdsAt.get r _ _ h.2.2.2.2.2 Lb m (by simpa using hm)
    exact ⟨g, J, nd, by simpa using h1, by rw [show i + (m + 1) = i + 1 + m by omega]; exact h2, h3, h4⟩
theorem HdsAt.congr {X Y : Cx} : ∀ (gs : List Fnc) (b i : Nat), X.fs.length = Y.fs.length → (∀ j, fAt Y.fs j = fAt X.fs j ∧ pAt Y.pt j = pAt X.pt j) → HdsAt X b i gs → HdsAt Y b i gs
  | [], b, i, hl, hc, h => by simp only [HdsAt] at h ⊢; omega
  | f :: r, b, i, hl, hc, h => by
    simp only [HdsAt] at h ⊢
    rw [(hc i).1, (hc i).2]
    exact ⟨by omega, h.2.1, h.2.2.1, h.2.2.2.1, h.2.2.2.2.1, HdsAt.congr r _ _ hl hc h.2.2.2.2.2⟩
/-- What the heads' check has gathered. -/
theorem ckH_ok : ∀ (gs : List Fnc) (b : Nat) (X0 X : Cx), ckH b gs X0 = .ok X → X0.pt.length = X0.fs.length → HdsAt X b X0.fs.length gs ∧ X.pt.length = X.fs.length ∧ (∃ e, X.fs = X0.fs ++ e) ∧ ∃ e, X.pt = X0.pt ++ e
  | [], b, X0, X, h, hp => by
    simp only [ckH] at h
    injection h with h
    subst h
    exact ⟨rfl, hp, ⟨[], by simp⟩, ⟨[], by simp⟩⟩
  | f :: r, b, X0, X, h, hp => by
    simp only [ckH] at h
    split at h
    · cases h
    · split at h
      · cases h
      · split at h
        · cases h
        · obtain ⟨h1, h2, ⟨e1, h3⟩, ⟨e2, h4⟩⟩ := ckH_ok r _ _ _ h (by simp [hp])
          refine ⟨?_, h2, ⟨_, by rw [h3, List.append_assoc]⟩, ⟨_, by rw [h4, List.append_assoc]⟩⟩
          simp only [HdsAt]
          have hl : X0.fs.length < X.fs.length := by rw [h3]; simp
          have ef : fAt X.fs X0.fs.length = ⟨rtF b f, f.t, cI (f.ps.map (·.t)), cR (f.ps.map (·.t)), f.s⟩ := by
            rw [h3, fAt_app (by simp), fAt_last]
          have ep : pAt X.pt X0.fs.length = f.ps.map (·.t) := by
            rw [h4, ← hp, pAt_app (by simp), pAt_last]
          rw [ef]
          exact ⟨hl, rfl, rfl, rfl, ep, by simpa using h1⟩
/-- The tree of a text. -/
noncomputable def treeOf (src : ByteArray) : List Fnc := by
  classical
  exact if h : ∃ gs : List Fnc, (∀ f ∈ gs, OkF f) ∧ Ans src (flFs 0 gs) (hdF 0 gs) 0 0 then h.choose else []
theorem treeOf_spec {src : ByteArray} {ns : List Nd} {root pos : Int} (h : Ans src ns root 0 pos) : (∀ f ∈ treeOf src, OkF f) ∧ ns = flFs 0 (treeOf src) ∧ root = hdF 0 (treeOf src) ∧ pos = 0 ∧ Nm8 ns := by
  obtain ⟨h8, hx⟩ := ans_names h
  obtain ⟨gs, g1, g2, g3⟩ := hx rfl
  have hp : pos = 0 := by
    rcases h with ⟨h0, _, _, h1, _⟩ | ⟨h0, ⟨_, h1, _, _⟩ | ⟨j, _, _, h1⟩⟩
    · exact absurd h1.symm h0
    · exact absurd rfl h1
    · exact h1
  subst hp
  have hex : ∃ gs : List Fnc, (∀ f ∈ gs, OkF f) ∧ Ans src (flFs 0 gs) (hdF 0 gs) 0 0 := ⟨gs, g1, by rw [← g2, ← g3]; exact h⟩
  have e : treeOf src = hex.choose := by unfold treeOf; rw [dif_pos hex]
  have hs := hex.choose_spec
  rw [← e] at hs
  obtain ⟨k1, k2, _, _⟩ := h.det hs.2
  exact ⟨hs.1, k1, k2, rfl, h8⟩
/-- What both checkers answer. -/
def RefA (ns : List Nd) (root : Int) (ty rf : List Int) (rs : List (Fh × (Nat × Nat))) (main err pos e p : Int) : Prop := ns = [] ∧ root = -1 ∧ ty = [] ∧ rf = [] ∧ rs = [] ∧ main = -1 ∧ err = e ∧ pos = p
def KA (src : ByteArray) (ns : List Nd) (root : Int) (ty rf : List Int) (rs : List (Fh × (Nat × Nat))) (main err pos : Int) : Prop := (∃ e p, e ≠ 0 ∧ Ans src [] (-1) e p ∧ RefA ns root ty rf rs main err pos e p) ∨
  (Ans src (flFs 0 (treeOf src)) (hdF 0 (treeOf src)) 0 0 ∧ match ckAll (treeOf src) src.size with
    | .bad e p => RefA ns root ty rf rs main err pos e p
    | .ok X s m => ns = flFs 0 (treeOf src) ∧ root = hdF 0 (treeOf src) ∧ ty = s.ty ∧ rf = s.rf ∧ rs = X.fs.zip s.lim ∧ main = m ∧ err = 0 ∧ pos = 0)
theorem KA.det {src : ByteArray} {ns ns' : List Nd} {root root' : Int} {ty ty' rf rf' : List Int} {rs rs' : List (Fh × (Nat × Nat))} {main main' err err' pos pos' : Int} (h : KA src ns root ty rf rs main err pos) (h' : KA src ns' root' ty' rf' rs' main' err' pos') : ns' = ns ∧ root' = root ∧ ty' = ty ∧ rf' = rf ∧ rs' = rs ∧ main' = main ∧ err' = err ∧ pos' = pos := by
  rcases h with ⟨e, p, h0, h1, h2⟩ | ⟨h1, h2⟩
  · rcases h' with ⟨e', p', k0, k1, k2⟩ | ⟨k1, k2⟩
    · obtain ⟨_, _, rfl, rfl⟩ := h1.det k1
      obtain ⟨rfl, rfl, rfl, rfl, rfl, rfl, rfl, rfl⟩ := h2
      exact k2
    · obtain ⟨_, _, e1, _⟩ := h1.det k1
      exact absurd e1 h0
  · rcases h' with ⟨e', p', k0, k1, k2⟩ | ⟨k1, k2⟩
    · obtain ⟨_, _, e1, _⟩ := k1.det h1
      exact absurd e1 k0
    · cases hc : ckAll (treeOf src) src.size with
      | bad e p =>
        rw [hc] at h2 k2
        obtain ⟨rfl, rfl, rfl, rfl, rfl, rfl, rfl, rfl⟩ := h2
        exact k2
      | ok X s m =>
        rw [hc] at h2 k2
        obtain ⟨rfl, rfl, rfl, rfl, rfl, rfl, rfl, rfl⟩ := h2
        exact k2
end Go.Proofs.Qxb6500277aGreat
