/- The checker's refusals bear an error. -/
import Derived.Test.Qxb6500277aGreatCB4
namespace Go.Proofs.Qxb6500277aGreat
open Go Go.RowKit

def Nz {α : Type} (r : Rc α) : Prop := ∀ e p, r = .bad e p → e ≠ 0
section
variable {α β : Type}
theorem nz_ok (x : α) (s : Ck) : Nz (.ok x s) := fun e p h => by cases h
theorem nz_bad {e p : Int} (h : e ≠ 0) : Nz (α := α) (.bad e p) := fun e' p' he => by injection he with h1 _; rw [← h1]; exact h
theorem nz_bind {r : Rc α} {k : α → Ck → Rc β} (h : Nz r) (hk : ∀ x s, Nz (k x s)) : Nz (r.bind k) := by
  cases r with
  | bad e p => exact nz_bad (h e p rfl)
  | ok x s => exact hk x s
theorem nz_ite {c : Prop} [Decidable c] {a b : Rc α} (h1 : Nz a) (h2 : Nz b) : Nz (if c then a else b) := by
  split
  · exact h1
  · exact h2
theorem nz_note (x : Nat) (t : Int) (s : Ck) : Nz (note x t s) := nz_ok _ _
theorem nz_isT (t u p : Int) (s : Ck) : Nz (isT t u p s) := nz_ite (nz_ok _ _) (nz_bad (by decide))
theorem nz_callT (X : Cx) (f x : Nat) (p : Int) (ts : List (Int × Int)) (s : Ck) : Nz (callT X f x p ts s) := by
  unfold callT
  refine nz_ite (nz_bad (by decide)) ?_
  split
  · exact nz_bad (by decide)
  · exact nz_note _ _ _
end
mutual
theorem nzE (X : Cx) : (e : Exp) → ∀ (b : Nat) (s : Ck), Nz (ckE X b e s)
  | .num _ _, b, s | .rd _, b, s | .boo _ _, b, s => by simp only [ckE]; exact nz_note _ _ _
  | .var nm p, b, s => by
    simp only [ckE]
    split
    · exact nz_bad (by decide)
    · exact nz_note _ _ _
  | .call nm p gs, b, s => by
    simp only [ckE]
    split
    · exact nz_bad (by decide)
    · exact nz_bind (nzEs X gs b s) fun _ _ => nz_callT _ _ _ _ _ _
  | .idx p a c, b, s => by
    simp only [ckE]
    exact nz_bind (nzE X a b s) fun _ _ => nz_ite (nz_bad (by decide)) (nz_bind (nzE X c _ _) fun _ _ => nz_bind (nz_isT _ _ _ _) fun _ _ => nz_note _ _ _)
  | .new t p e, b, s => by
    simp only [ckE]
    exact nz_ite (nz_bad (by decide)) (nz_bind (nzE X e _ _) fun _ _ => nz_bind (nz_isT _ _ _ _) fun _ _ => nz_note _ _ _)
  | .len _ e, b, s => by
    simp only [ckE]
    exact nz_bind (nzE X e _ _) fun _ _ => nz_ite (nz_bad (by decide)) (nz_note _ _ _)
  | .un k _ e, b, s => by
    simp only [ckE]
    exact nz_bind (nzE X e _ _) fun _ _ => nz_bind (nz_isT _ _ _ _) fun _ _ => nz_note _ _ _
  | .bin k _ l r, b, s => by
    simp only [ckE]
    refine nz_ite ?_ ?_
    · exact nz_bind (nzE X l _ _) fun _ _ => nz_ite (nz_bad (by decide)) (nz_bind (nzE X r _ _) fun _ _ => nz_bind (nz_isT _ _ _ _) fun _ _ => nz_note _ _ _)
    · exact nz_bind (nzE X l _ _) fun _ _ => nz_bind (nz_isT _ _ _ _) fun _ _ => nz_bind (nzE X r _ _) fun _ _ => nz_bind (nz_isT _ _ _ _) fun _ _ => nz_note _ _ _
theorem nzEs (X : Cx) : (es : Exps) → ∀ (b : Nat) (s : Ck), Nz (ckEs X b es s)
  | .nil, b, s => by simp only [ckEs]; exact nz_ok _ _
  | .cons e es, b, s => by
    simp only [ckEs]
    exact nz_bind (nzE X e _ _) fun _ _ => nz_bind (nzEs X es _ _) fun _ _ => nz_ok _ _
end
theorem nz_want (X : Cx) (b : Nat) (e : Exp) (t : Int) (s : Ck) : Nz (wantE X b e t s) := nz_bind (nzE X e b s) fun _ _ => nz_isT _ _ _ _
theorem nz_mayD (nm : ByteArray) (t p : Int) (s : Ck) : Nz (mayD nm t p s) := nz_ite (nz_bad (by decide)) (nz_ite (nz_ite (nz_bad (by decide)) (nz_ok _ _)) (nz_ite (nz_bad (by decide)) (nz_ok _ _)))
theorem nz_inB {k : Ck → Rc Unit} (h : ∀ s, Nz (k s)) (s : Ck) : Nz (inB k s) := nz_bind (h _) fun _ _ => nz_ok _ _
mutual
theorem nzS (X : Cx) (cur : Nat) : (x : Stm) → ∀ (b : Nat) (s : Ck), Nz (ckS X cur b x s)
  | .vd nm p t e, b, s => by simp only [ckS]; exact nz_bind (nz_mayD _ _ _ _) fun _ _ => nz_bind (nz_want _ _ _ _ _) fun _ _ => nz_ok _ _
  | .asg _ a c, b, s => by simp only [ckS]; exact nz_bind (nzE _ _ _ _) fun _ _ => nz_want _ _ _ _ _
  | .iff _ e _ ss, b, s => by simp only [ckS]; exact nz_bind (nz_want _ _ _ _ _) fun _ _ => nz_inB (nzSs X cur ss _) _
  | .ife _ e _ ss _ cs, b, s => by simp only [ckS]; exact nz_bind (nz_want _ _ _ _ _) fun _ _ => nz_bind (nz_inB (nzSs X cur ss _) _) fun _ _ => nz_inB (nzSs X cur cs _) _
  | .whl _ e _ ss, b, s => by simp only [ckS]; exact nz_bind (nz_want _ _ _ _ _) fun _ _ => nz_inB (nzSs X cur ss _) _
  | .ret _ e, b, s => by simp only [ckS]; exact nz_want _ _ _ _ _
  | .prt _ e, b, s => by simp only [ckS]; exact nz_want _ _ _ _ _
  | .exp e, b, s => by simp only [ckS]; exact nz_bind (nzE _ _ _ _) fun _ _ => nz_ok _ _
theorem nzSs (X : Cx) (cur : Nat) : (xs : Stms) → ∀ (b : Nat) (s : Ck), Nz (ckSs X cur b xs s)
  | .nil, b, s => by simp only [ckSs]; exact nz_ok _ _
  | .cons x xs, b, s => by simp only [ckSs]; exact nz_bind (nzS X cur x _ _) fun _ _ => nzSs X cur xs _ _
end
theorem nzP (cur : Nat) : ∀ (ps : List Prm) (x : Nat) (s : Ck), Nz (ckP cur x ps s)
  | [], x, s => nz_ok _ _
  | q :: r, x, s => by simp only [ckP]; exact nz_bind (nz_mayD _ _ _ _) fun _ _ => nzP cur r _ _
theorem nzF (X : Cx) (cur b : Nat) (f : Fnc) (s : Ck) : Nz (ckF X cur b f s) := by
  unfold ckF
  exact nz_bind (nzP _ _ _ _) fun _ _ => nz_bind (nz_inB (nzSs X cur _ _) _) fun _ _ => nz_ok _ _
theorem nzFs (X : Cx) : ∀ (gs : List Fnc) (cur b : Nat) (s : Ck), Nz (ckFs X cur b gs s)
  | [], cur, b, s => nz_ok _ _
  | f :: r, cur, b, s => by simp only [ckFs]; exact nz_bind (nzF _ _ _ _ _) fun _ _ => nzFs X r _ _ _
theorem nzH : ∀ (gs : List Fnc) (b : Nat) (X : Cx) (e p : Int), ckH b gs X = .bad e p → e ≠ 0
  | [], b, X, e, p, h => by simp only [ckH] at h; cases h
  | f :: r, b, X, e, p, h => by
    simp only [ckH] at h
    split at h
    · injection h with h _; omega
    · split at h
      · injection h with h _; omega
      · split at h
        · injection h with h _; omega
        · exact nzH r _ _ _ _ h
theorem ckAll_bad {gs : List Fnc} {len e p : Int} (h : ckAll gs len = .bad e p) : e ≠ 0 := by
  unfold ckAll at h
  split at h
  · rename_i h1
    injection h with h _
    rw [← h]
    exact nzH _ _ _ _ _ h1
  · split at h
    · rename_i h1
      injection h with h _
      rw [← h]
      exact nzFs _ _ _ _ _ _ _ h1
    · split at h
      · injection h with h _; omega
      · split at h
        · injection h with h _; omega
        · cases h
/-- An answer without an error. -/
theorem KA.ok {src : ByteArray} {ns : List Nd} {root : Int} {ty rf : List Int} {rs : List (Fh × (Nat × Nat))} {main pos : Int} (h : KA src ns root ty rf rs main 0 pos) :
    ∃ X s m, Ans src (flFs 0 (treeOf src)) (hdF 0 (treeOf src)) 0 0 ∧ ckAll (treeOf src) src.size = .ok X s m ∧ ns = flFs 0 (treeOf src) ∧ root = hdF 0 (treeOf src) ∧ ty = s.ty ∧ rf = s.rf ∧ rs = X.fs.zip s.lim ∧ main = (m : Nat) ∧ pos = 0 := by
  rcases h with ⟨e, p, h0, _, _, _, _, _, _, _, h1, _⟩ | ⟨hA, h⟩
  · exact absurd h1.symm h0
  · split at h
    · rename_i e p he
      exact absurd h.2.2.2.2.2.2.1.symm (ckAll_bad he)
    · rename_i X s m he
      exact ⟨X, s, m, hA, he, h.1, h.2.1, h.2.2.1, h.2.2.2.1, h.2.2.2.2.1, h.2.2.2.2.2.1, h.2.2.2.2.2.2.2⟩
end Go.Proofs.Qxb6500277aGreat
