/- The real parser's sign. -/
import Derived.Test.Qxb6500283aGreatB6
namespace Go.Proofs.Qxb6500283aGreat
open Go Go.RowKit

theorem lazy_yes {p : ByteArray} {j : Nat} (h : isB p j 63 = true) : lazyEnd p j = j + 1 := by unfold lazyEnd; rw [if_pos h]
theorem lazy_no {p : ByteArray} {j : Nat} (h : isB p j 63 = false) : lazyEnd p j = j := by unfold lazyEnd; rw [if_neg (by rw [h]; simp)]
theorem signR_none {p : ByteArray} {T : Rs} (h : T.f.atom = none) : signR p T = .error (3, T.s.i) := by unfold signR; rw [h]
theorem signR_bad {p : ByteArray} {T : Rs} {a : Nat} (h : T.f.atom = some a) (hc : count p T.s.i = none) : signR p T = .error (3, T.s.i) := by unfold signR; rw [h]; simp only; rw [hc]
theorem signR_loop {p : ByteArray} {T : Rs} {a : Nat} {lo hi : Int} {j : Nat} (h : T.f.atom = some a) (hc : count p T.s.i = some (lo, hi, j)) (h1 : hi < 0) (h2 : nul T.s.ns a = true) : signR p T = .error (5, T.s.i) := by unfold signR; rw [h]; simp only; rw [hc]; simp only; rw [if_pos ⟨h1, h2⟩]
theorem signR_add {p : ByteArray} {T : Rs} {a : Nat} {lo hi : Int} {j : Nat} (h : T.f.atom = some a) (hc : count p T.s.i = some (lo, hi, j)) (hn : ¬ (hi < 0 ∧ nul T.s.ns a = true)) : signR p T = setAtom T (addS ⟨lazyEnd p j, T.s.ns, T.s.g⟩ (repNd a lo hi (isB p j 63))) := by unfold signR; rw [h]; simp only; rw [hc]; simp only; rw [if_neg hn]
end Go.Proofs.Qxb6500283aGreat
