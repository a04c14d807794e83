/- What the grammar reads: trees. -/
import Derived.Test.Qxb6500277aGreatPA1
namespace Go.Proofs.Qxb6500277aGreat
open Go Go.RowKit

mutual
inductive Exp
  | num (v p : Int) | boo (v p : Int) | var (s : ByteArray) (p : Int) | rd (p : Int)
  | call (s : ByteArray) (p : Int) (gs : Exps) | idx (p : Int) (a b : Exp) | new (t p : Int) (e : Exp) | len (p : Int) (e : Exp) | un (k p : Int) (e : Exp) | bin (k p : Int) (l r : Exp)
inductive Exps
  | nil | cons (e : Exp) (es : Exps)
end
mutual
def szE : Exp → Nat
  | .num .. | .boo .. | .var .. | .rd .. => 1
  | .call _ _ gs => szEs gs + 1
  | .idx _ a b => szE a + szE b + 1
  | .new _ _ e | .len _ e | .un _ _ e => szE e + 1
  | .bin _ _ l r => szE l + szE r + 1
def szEs : Exps → Nat
  | .nil => 0
  | .cons e es => szE e + szEs es
end
/-- The root of a tree laid from b on. -/
def rtE (b : Nat) (e : Exp) : Int := ((b + szE e : Nat) : Int) - 1
def hdE (b : Nat) : Exps → Int
  | .nil => -1
  | .cons e _ => rtE b e
mutual
def flE (b : Nat) (nx : Int) : Exp → List Nd
  | .num v p => [⟨10, -1, -1, -1, nx, v, p, ⟨#[]⟩⟩]
  | .boo v p => [⟨11, -1, -1, -1, nx, v, p, ⟨#[]⟩⟩]
  | .var s p => [⟨12, -1, -1, -1, nx, 0, p, s⟩]
  | .rd p => [⟨17, -1, -1, -1, nx, 0, p, ⟨#[]⟩⟩]
  | .call s p gs => flEs b gs ++ [⟨13, hdE b gs, -1, -1, nx, 0, p, s⟩]
  | .idx p x y => flE b (-1) x ++ flE (b + szE x) (-1) y ++ [⟨14, rtE b x, rtE (b + szE x) y, -1, nx, 0, p, ⟨#[]⟩⟩]
  | .new t p e => flE b (-1) e ++ [⟨15, rtE b e, -1, -1, nx, t, p, ⟨#[]⟩⟩]
  | .len p e => flE b (-1) e ++ [⟨16, rtE b e, -1, -1, nx, 0, p, ⟨#[]⟩⟩]
  | .un k p e => flE b (-1) e ++ [⟨19, rtE b e, -1, -1, nx, k, p, ⟨#[]⟩⟩]
  | .bin k p l r => flE b (-1) l ++ flE (b + szE l) (-1) r ++ [⟨18, rtE b l, rtE (b + szE l) r, -1, nx, k, p, ⟨#[]⟩⟩]
def flEs (b : Nat) : Exps → List Nd
  | .nil => []
  | .cons e es => flE b (hdE (b + szE e) es) e ++ flEs (b + szE e) es
end
mutual
theorem flE_len (b : Nat) (nx : Int) : (e : Exp) → (flE b nx e).length = szE e
  | .num .. | .boo .. | .var .. | .rd .. => by simp [flE, szE]
  | .call s p gs => by simp [flE, szE, flEs_len b gs]
  | .idx p x y => by simp [flE, szE, flE_len b (-1) x, flE_len (b + szE x) (-1) y]; omega
  | .new t p e => by simp [flE, szE, flE_len b (-1) e]
  | .len p e => by simp [flE, szE, flE_len b (-1) e]
  | .un k p e => by simp [flE, szE, flE_len b (-1) e]
  | .bin k p l r => by simp [flE, szE, flE_len b (-1) l, flE_len (b + szE l) (-1) r]; omega
theorem flEs_len (b : Nat) : (es : Exps) → (flEs b es).length = szEs es
  | .nil => by simp [flEs, szEs]
  | .cons e es => by simp [flEs, szEs, flE_len b _ e, flEs_len (b + szE e) es]
end
theorem szE_pos (e : Exp) : 0 < szE e := by cases e <;> simp [szE]
/-- A tree's nodes end with its root. -/
theorem flE_split (b : Nat) (e : Exp) : ∃ (h : List Nd) (nd : Nd), h.length + 1 = szE e ∧ ∀ nx, flE b nx e = h ++ [{ nd with nx := nx }] := by
  have key : ∀ (h : List Nd) (nd : Nd), (∀ nx, flE b nx e = h ++ [{ nd with nx := nx }]) → ∃ (h : List Nd) (nd : Nd), h.length + 1 = szE e ∧ ∀ nx, flE b nx e = h ++ [{ nd with nx := nx }] := fun h nd hh => ⟨h, nd, by have := flE_len b 0 e; rw [hh] at this; simpa using this, hh⟩
  cases e with
  | num v p => exact key [] ⟨10, -1, -1, -1, 0, v, p, ⟨#[]⟩⟩ fun nx => by simp [flE]
  | boo v p => exact key [] ⟨11, -1, -1, -1, 0, v, p, ⟨#[]⟩⟩ fun nx => by simp [flE]
  | var s p => exact key [] ⟨12, -1, -1, -1, 0, 0, p, s⟩ fun nx => by simp [flE]
  | rd p => exact key [] ⟨17, -1, -1, -1, 0, 0, p, ⟨#[]⟩⟩ fun nx => by simp [flE]
  | call s p gs => exact key (flEs b gs) ⟨13, hdE b gs, -1, -1, 0, 0, p, s⟩ fun nx => by simp [flE]
  | idx p x y => exact key (flE b (-1) x ++ flE (b + szE x) (-1) y) ⟨14, rtE b x, rtE (b + szE x) y, -1, 0, 0, p, ⟨#[]⟩⟩ fun nx => by simp [flE]
  | new t p e => exact key (flE b (-1) e) ⟨15, rtE b e, -1, -1, 0, t, p, ⟨#[]⟩⟩ fun nx => by simp [flE]
  | len p e => exact key (flE b (-1) e) ⟨16, rtE b e, -1, -1, 0, 0, p, ⟨#[]⟩⟩ fun nx => by simp [flE]
  | un k p e => exact key (flE b (-1) e) ⟨19, rtE b e, -1, -1, 0, k, p, ⟨#[]⟩⟩ fun nx => by simp [flE]
  | bin k p l r => exact key (flE b (-1) l ++ flE (b + szE l) (-1) r) ⟨18, rtE b l, rtE (b + szE l) r, -1, 0, k, p, ⟨#[]⟩⟩ fun nx => by simp [flE]
theorem setNx_mid (a : List Nd) (nd : Nd) (c : List Nd) (x : Int) : setNx (a ++ nd :: c) a.length x = a ++ { nd with nx := x } :: c := by
  unfold setNx
  simp
/-- The root's Next is set. -/
theorem setNx_root (a : List Nd) (b : Nat) (nx x : Int) (e : Exp) (c : List Nd) : setNx (a ++ flE b nx e ++ c) (a.length + szE e - 1) x = a ++ flE b x e ++ c := by
  obtain ⟨h, nd, hl, hh⟩ := flE_split b e
  rw [hh nx, hh x]
  have := setNx_mid (a ++ h) { nd with nx := nx } c x
  rw [show a.length + szE e - 1 = (a ++ h).length by simp; omega]
  simp only [List.append_assoc, List.singleton_append] at this ⊢
  exact this
def snE : Exps → Exp → Exps
  | .nil, x => .cons x .nil
  | .cons e es, x => .cons e (snE es x)
theorem szEs_sn (es : Exps) (x : Exp) : szEs (snE es x) = szEs es + szE x := by
  induction es using Exps.rec (motive_1 := fun _ => True) with
  | nil => simp [snE, szEs]
  | cons e es _ ih => simp [snE, szEs, ih]; omega
  | _ => trivial
theorem hdE_sn (b : Nat) {es : Exps} (x : Exp) (h : es ≠ .nil) : hdE b (snE es x) = hdE b es := by
  cases es with
  | nil => exact absurd rfl h
  | cons => rfl
/-- One more argument is chained. -/
theorem lk_args (es : Exps) (x : Exp) : ∀ (a : List Nd) (b : Nat), es ≠ .nil → setNx (a ++ flEs b es ++ flE (b + szEs es) (-1) x) (a.length + szEs es - 1) (rtE (b + szEs es) x) = a ++ flEs b (snE es x) := by
  induction es using Exps.rec (motive_1 := fun _ => True) with
  | nil => intro a b h; exact absurd rfl h
  | cons e es _ ih =>
    intro a b _
    by_cases hn : es = .nil
    · subst hn
      have := setNx_root a b (-1) (rtE (b + szE e) x) e (flE (b + szE e) (-1) x)
      simp only [flEs, snE, hdE, szEs, Nat.add_zero, List.append_nil] at this ⊢
      rw [this, List.append_assoc]
    · have h1 := ih (a ++ flE b (hdE (b + szE e) es) e) (b + szE e) hn
      simp only [flEs, snE, szEs]
      rw [hdE_sn _ _ hn]
      rw [← List.append_assoc a, ← List.append_assoc a]
      rw [List.length_append, flE_len] at h1
      rw [show a.length + (szE e + szEs es) - 1 = a.length + szE e + szEs es - 1 by omega, show b + (szE e + szEs es) = b + szE e + szEs es by omega]
      exact h1
  | _ => trivial
/-- The power of a tree: what it binds at; 7: a tree that stands by itself. -/
def pwE : Exp → Nat
  | .bin k .. => pow k
  | .un .. => 6
  | _ => 7
mutual
/-- e may be written at level lv with d levels open. -/
def OkE (lv d : Nat) : Exp → Prop
  | .num v _ => 0 ≤ v
  | .boo v _ => v = 0 ∨ v = 1
  | .var .. | .rd .. => True
  | .call _ _ gs => d < 8 ∧ OkEs (d + 1) gs
  | .idx _ a b => d < 8 ∧ OkE 7 d a ∧ OkE 1 (d + 1) b
  | .new t _ e => (0 ≤ t ∧ t < 8) ∧ d < 8 ∧ OkE 1 (d + 1) e
  | .len _ e => d < 8 ∧ OkE 1 (d + 1) e
  | .un k _ e => (k = 33 ∨ k = 39) ∧ (if 6 < lv then d + 1 < 8 ∧ OkE 6 (d + 2) e else d < 8 ∧ OkE 6 (d + 1) e)
  | .bin k _ l r => 1 ≤ pow k ∧ (if pow k < lv then d < 8 ∧ OkE (pow k) (d + 1) l ∧ OkE (pow k + 1) (d + 1) r else OkE (pow k) d l ∧ OkE (pow k + 1) d r)
def OkEs (d : Nat) : Exps → Prop
  | .nil => True
  | .cons e es => OkE 1 d e ∧ OkEs d es
end
end Go.Proofs.Qxb6500277aGreat
