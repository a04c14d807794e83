/- The abstract machine over the code answers the definition. -/
import Derived.Test.Qxb6500283aGreatPL3
import Derived.Test.Qxb6500283aGreatPkDfs4
import Derived.Test.Qxb6500283aGreatX8
namespace Go.Proofs.Qxb6500283aGreat
open Go Go.RowKit

section
variable {p : List In} {s : ByteArray} {t : Rx} {e : Nat} {x : In}
theorem road_at (hp : OkProg p) (hC : CdAt p 0 t e) (hR : RxC t) (hx : p[e]? = some x) (ho : x.op = 6) {a : Nat} (ha : a ≤ s.size) :
    resOf (roadAt p s a) = (match wy s t a noC with | [] => none | w :: _ => some (w.2, w.1)) ∧ ((roadAt p s a).ok = true → 0 ≤ (roadAt p s a).e) := by
  have hu : unseen (fun _ => false) (p.length * (s.size + 1)) < p.length * (s.size + 1) + 1 := by
    unfold unseen
    have := List.length_filter_le (fun o => !(fun _ => false) o) (List.range (p.length * (s.size + 1)))
    rw [List.length_range] at this
    omega
  obtain ⟨f, s2', h1, _, h3⟩ := road_dfs (str := s) hp _ 0 a (fun _ => -1) (fun _ => false) (fun _ _ => false) hp.pos ha (fun _ _ _ _ => rfl) hu
  obtain ⟨f', sn', h4⟩ := (run_code hC hR hx ho a noC ha).dfs
  have := dfs_det h1 h4
  simp only [Prod.mk.injEq] at this
  exact ⟨this.1, h3⟩
theorem run_left (hp : OkProg p) (hC : CdAt p 0 t e) (hR : RxC t) (hx : p[e]? = some x) (ho : x.op = 6) : ∀ m a, a + m ≤ s.size + 1 → runFrom p s m a = leftG (wy s t) m a
  | 0, _, _ => rfl
  | m + 1, a, ha => by
    obtain ⟨h1, h2⟩ := road_at (s := s) hp hC hR hx ho (a := a) (by omega)
    have ih := run_left hp hC hR hx ho m (a + 1) (by omega)
    simp only [runFrom, leftG, matchP]
    unfold resOf at h1
    cases hw : wy s t a noC with
    | nil =>
      rw [hw] at h1
      by_cases hk : (roadAt p s a).ok = true
      · rw [if_pos hk] at h1; cases h1
      · rw [if_neg hk]
        exact ih
    | cons w l =>
      rw [hw] at h1
      by_cases hk : (roadAt p s a).ok = true
      · rw [if_pos hk] at h1 ⊢
        simp only [Option.some.injEq, Prod.mk.injEq] at h1
        have he := h2 hk
        have e1 : (roadAt p s a).e = (w.1 : Nat) := by omega
        simp only [headP]
        rw [h1.1, e1, setC_upd, setC_upd]
      · rw [if_neg hk] at h1; cases h1
end
end Go.Proofs.Qxb6500283aGreat
