/- Lists of names; the greatest number with a property. -/
import Derived.Test.Qxb6500277aGreatCW1
namespace Go.Proofs.Qxb6500277aGreat
open Go Go.RowKit

structure Vr where
  name : ByteArray
  ty : Int
  slot : Nat
  level : Nat
/-- The greatest number below n with p. -/
def lst (p : Nat → Bool) : Nat → Option Nat
  | 0 => none
  | n + 1 => if p n then some n else lst p n
def oi : Option Nat → Int
  | none => -1
  | some k => k
def vAt (vs : List Vr) (i : Nat) : Vr := vs.getD i ⟨⟨#[]⟩, 0, 0, 0⟩
/-- The youngest variable of that name. -/
def fndV (s : ByteArray) (vs : List Vr) : Option Nat := lst (fun i => decide ((vAt vs i).name = s)) vs.length
theorem lst_some {p : Nat → Bool} {k : Nat} : ∀ {n : Nat}, lst p n = some k → k < n ∧ p k = true ∧ ∀ j, k < j → j < n → p j = false
  | 0, h => by simp [lst] at h
  | n + 1, h => by
    unfold lst at h
    by_cases hn : p n = true
    · rw [if_pos hn] at h
      cases h
      exact ⟨by omega, hn, fun j h1 h2 => by omega⟩
    · rw [if_neg hn] at h
      obtain ⟨h1, h2, h3⟩ := lst_some h
      refine ⟨by omega, h2, fun j h4 h5 => ?_⟩
      by_cases e : j = n
      · subst e; simpa using hn
      · exact h3 j h4 (by omega)
theorem lst_none {p : Nat → Bool} : ∀ {n : Nat}, lst p n = none → ∀ j, j < n → p j = false
  | 0, _ => fun j hj => by omega
  | n + 1, h => fun j hj => by
    unfold lst at h
    by_cases hn : p n = true
    · rw [if_pos hn] at h; cases h
    · rw [if_neg hn] at h
      by_cases e : j = n
      · subst e; simpa using hn
      · exact lst_none h j (by omega)
theorem lst_congr {p q : Nat → Bool} : ∀ {n : Nat}, (∀ j, j < n → p j = q j) → lst p n = lst q n
  | 0, _ => rfl
  | n + 1, h => by
    unfold lst
    rw [h n (by omega), lst_congr (n := n) fun j hj => h j (by omega)]
theorem lst_skip {p : Nat → Bool} {m : Nat} : ∀ {n : Nat}, m ≤ n → (∀ j, m ≤ j → j < n → p j = false) → lst p n = lst p m
  | 0, h, _ => by rw [show m = 0 by omega]
  | n + 1, h, hp => by
    by_cases e : m = n + 1
    · rw [e]
    · unfold lst
      rw [if_neg (by rw [hp n (by omega) (by omega)]; decide)]
      have := lst_skip (p := p) (m := m) (n := n) (by omega) fun j h1 h2 => hp j h1 (by omega)
      cases m with
      | zero => rw [this]; rfl
      | succ m => rw [this]; rfl
theorem lst_hit {p : Nat → Bool} {n k : Nat} (h1 : k < n) (h2 : p k = true) (h3 : ∀ j, k < j → j < n → p j = false) : lst p n = some k := by
  rw [lst_skip (m := k + 1) h1 fun j h4 h5 => h3 j (by omega) h5]
  unfold lst
  rw [if_pos h2]
theorem lst_miss {p : Nat → Bool} {n : Nat} (h : ∀ j, j < n → p j = false) : lst p n = none := by
  rw [lst_skip (m := 0) (by omega) fun j _ h5 => h j h5]; rfl
theorem oi_lt {p : Nat → Bool} {n : Nat} : oi (lst p n) < n := by
  cases h : lst p n with
  | none => simp [oi]; omega
  | some k => have := (lst_some h).1; simp [oi]; omega

theorem vAt_app {a b : List Vr} {i : Nat} (h : i < a.length) : vAt (a ++ b) i = vAt a i := by
  unfold vAt
  rw [List.getD_eq_getElem?_getD, List.getD_eq_getElem?_getD, List.getElem?_append_left h]
theorem vAt_last (a : List Vr) (v : Vr) : vAt (a ++ [v]) a.length = v := by
  unfold vAt
  rw [List.getD_eq_getElem?_getD, List.getElem?_append_right (Nat.le_refl _)]
  simp
theorem vAt_take {a : List Vr} {i m : Nat} (h : i < m) : vAt (a.take m) i = vAt a i := by
  unfold vAt
  rw [List.getD_eq_getElem?_getD, List.getD_eq_getElem?_getD, List.getElem?_take_of_lt h]
end Go.Proofs.Qxb6500277aGreat
