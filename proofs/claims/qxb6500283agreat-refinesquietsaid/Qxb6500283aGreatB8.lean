/- Classes: plain laws, and the real parser's class. -/
import Derived.Test.Qxb6500283aGreatB6
namespace Go.Proofs.Qxb6500283aGreat
open Go Go.RowKit

section
variable {p : ByteArray} {j j1 j2 lo hi b : Nat} {m m2 : BSet} {sg al : Bool}
theorem member_e1 (h : item p j = none) : member p j = .error (4, j) := by unfold member; rw [h]
theorem member_one (h : item p j = some (m, sg, lo, j1)) (hd : dashB p j1 = false) : member p j = .ok (m, j1) := by unfold member; rw [h]; simp only; rw [if_neg (by rw [hd]; simp)]
theorem member_e2 (h : item p j = some (m, sg, lo, j1)) (hd : dashB p j1 = true) (h2 : item p (j1 + 1) = none) : member p j = .error (4, j1 + 1) := by unfold member; rw [h]; simp only; rw [if_pos hd, h2]
theorem member_bad (h : item p j = some (m, sg, lo, j1)) (hd : dashB p j1 = true) (h2 : item p (j1 + 1) = some (m2, al, hi, j2)) (hb : (!sg || !al || decide (lo > hi)) = true) : member p j = .error (2, j1) := by unfold member; rw [h]; simp only; rw [if_pos hd, h2]; simp only; rw [if_pos hb]
theorem member_rng (h : item p j = some (m, sg, lo, j1)) (hd : dashB p j1 = true) (h2 : item p (j1 + 1) = some (m2, al, hi, j2)) (hb : (!sg || !al || decide (lo > hi)) = false) : member p j = .ok (btw lo hi, j2) := by unfold member; rw [h]; simp only; rw [if_pos hd, h2]; simp only; rw [if_neg (by rw [hb]; simp)]
theorem dashB_no (h : dashB p j = false) : p.size ≤ j + 1 ∨ (j + 1 < p.size ∧ bt p j ≠ 45) ∨ (j + 1 < p.size ∧ bt p j = 45 ∧ bt p (j + 1) = 93) := by
  by_cases h1 : j + 1 < p.size
  · by_cases h2 : bt p j = 45
    · by_cases h3 : bt p (j + 1) = 93
      · exact .inr (.inr ⟨h1, h2, h3⟩)
      · simp [dashB, h1, h2, h3] at h
    · exact .inr (.inl ⟨h1, h2⟩)
  · exact .inl (by omega)
end
/-- What a leaf leaves behind. -/
def leafRes (T : Rs) (res : Except Er (Int × BSet × Nat)) : Except Er Rs := match res with | .error e => .error e | .ok (k, P, j) => setAtom ⟨⟨j, T.s.ns, T.s.g⟩, T.f, T.r⟩ (addS ⟨j, T.s.ns, T.s.g⟩ (leafNd k P))
theorem LexErr.rerr {w w' : World} {x : Nat} {p : ByteArray} {iv : Int} {f : Nat → Value} {ns : List Nd} {g : Nat} {t : Frm} {r : List Frm} {q c : Int} {n : Nat} (h : LexErr w w' x 325 323 324 f c n) (hL : Lay f p iv ns g t r 0 q) (hwf : WF ns) (hlen : ns.length ≤ 24) (hg : g ≤ 3) (hd : r.length ≤ 5) : RErr w' x p c (n : Nat) := by
  obtain ⟨⟨iv', _, hb⟩, _⟩ := h
  exact ⟨_, _, ns, g, t, r, hb, (hL.setI _).setE hlen hd c n, hwf, hlen, hg, hd⟩
end Go.Proofs.Qxb6500283aGreat
