/- A run of the machine ends as the interpreter does. -/
import Derived.Test.Qxb6500277aGreatGP20
import Derived.Test.Qxb6500277aGreatVR35
namespace Go.Proofs.Qxb6500277aGreat
open Go Go.RowKit

theorem itX_eq (C : List Nat) (I : List Int) (X : Vs × MS) : ∀ n, itX C I n X = itV C I n X
  | 0 => rfl
  | n + 1 => by rw [itX, itV, itX_eq C I X n]
/-- The machine's end is the interpreter's. -/
theorem run_end {C : List Nat} {I : List Int} {fuel e v : Int} {t : Ss} {k : Nat} (h : EndX C I fuel e v t) (he : e ≠ 0) (hr : RunR C I (X1 C fuel) k) :
    (itV C I k (X1 C fuel)).1.en = e ∧ (itV C I k (X1 C fuel)).1.rt = v ∧ (itV C I k (X1 C fuel)).1.out = t.out ∧ (itV C I k (X1 C fuel)).1.fuel = t.fuel := by
  obtain ⟨V, M, ⟨n, h1, h2⟩, h3, h4⟩ := h
  have hx : callV C (v00 fuel) ⟨[], []⟩ 0 0 = X1 C fuel := rfl
  rw [hx] at h1 h2
  rw [itX_eq] at h1
  have hn : n = k := by
    rcases Nat.lt_trichotomy n k with h | h | h
    · have := (hr.good n h).en
      rw [h1] at this
      exact absurd (h3.symm.trans this) he
    · exact h
    · have := h2 k h
      rw [itX_eq] at this
      exact absurd this hr.en
  subst hn
  rw [h1]
  exact ⟨h3, h4⟩
theorem run_same {P : Pg} {C : List Nat} {en : Nat → Nat} {m n k : Nat} {fuel : Int} {r : Ro} (hP : ProgOk P C en m) (h : runI P n (bodyI P (.inv m []) (s00 fuel)) = r) (hr : RunR C P.inp (X1 C fuel) k) :
    match r with
    | .ok v t => (itV C P.inp k (X1 C fuel)).1.en = 21 ∧ (itV C P.inp k (X1 C fuel)).1.rt = v ∧ (itV C P.inp k (X1 C fuel)).1.out = t.out ∧ (itV C P.inp k (X1 C fuel)).1.fuel = t.fuel
    | .rt _ _ => False
    | .stop e t => e ≠ 0 → (itV C P.inp k (X1 C fuel)).1.en = e ∧ (itV C P.inp k (X1 C fuel)).1.rt = 0 ∧ (itV C P.inp k (X1 C fuel)).1.out = t.out ∧ (itV C P.inp k (X1 C fuel)).1.fuel = t.fuel := by
  have q := main_sim hP.ok hP.mn hP.m0 hP.pi hP.pr hP.rt h
  cases r with
  | ok v t => exact run_end q (by decide) hr
  | rt v t => exact q
  | stop e t => exact fun he => run_end (q he) he hr
end Go.Proofs.Qxb6500277aGreat
