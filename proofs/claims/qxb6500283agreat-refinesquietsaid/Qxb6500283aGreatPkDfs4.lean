import Derived.Test.Qxb6500283aGreatPkDfs3
import Derived.Test.Qxb6500283aGreatPkWRun
namespace Go.Proofs.Qxb6500283aGreat
open Go Go.RowKit


section
variable {p : List In} {str : ByteArray}
def stC (at_ : Nat) : Nat → Int := upd (fun _ => -1) 0 at_
def starts : Nat → Nat → List (Nat × Nat × (Nat → Int))
  | 0, _ => []
  | m + 1, at_ => (0, at_, stC at_) :: starts m (at_ + 1)
def endC (q : (Nat → Int) × Nat) : Nat → Int := upd q.1 1 q.2

theorem roadAt_dfs (hp : OkProg p) {at_ : Nat} (hat : at_ ≤ str.size) : ∃ f s2', dfs p str f [(0, at_, stC at_)] (fun _ _ => false) = some ((resOf (roadAt p str at_)).map fun r => (upd r.1 0 (at_ : Int), r.2), s2') ∧ ((roadAt p str at_).ok = true → 0 ≤ (roadAt p str at_).e) := by
  have hu : unseen (fun _ => false) (p.length * (str.size + 1)) < p.length * (str.size + 1) + 1 := by
    unfold unseen
    have := List.length_filter_le (fun o => !(fun _ => false) o) (List.range (p.length * (str.size + 1)))
    rw [List.length_range] at this
    omega
  obtain ⟨f, s2', h1, _, h3⟩ := road_dfs (str := str) hp _ 0 at_ (fun _ => -1) (fun _ => false) (fun _ _ => false) hp.pos hat (fun _ _ _ _ => rfl) hu
  refine ⟨f, s2', ?_, h3⟩
  have := dfs_map (str := str) hp (φ := fun c => upd c 0 (at_ : Int)) (fun c k i h2 _ => upd_upd_comm c k 0 _ _ (by omega)) f [(0, at_, fun _ => -1)] (fun _ _ => false)
  rw [h1] at this
  exact this

theorem run_starts (hp : OkProg p) : ∀ (m at_ f : Nat) (K : Nat → Nat → Bool) {r sn'}, Closed p str K → at_ + m = str.size + 1 → dfs p str f (starts m at_) K = some (r, sn') → runFrom p str m at_ = r.map endC
  | 0, at_, f, K, r, sn', _, _, h => by
    cases f with
    | zero => simp [dfs] at h
    | succ f =>
      simp only [starts, dfs, Option.some.injEq, Prod.mk.injEq] at h
      rw [← h.1]; rfl
  | m + 1, at_, f, K, r, sn', hK, hm, h => by
    obtain ⟨g, s2', g1, g2⟩ := roadAt_dfs (str := str) (at_ := at_) hp (by omega)
    have hb : both (fun _ _ => false) K = K := by funext i q; simp [both]
    rw [show starts (m + 1) at_ = [(0, at_, stC at_)] ++ starts m (at_ + 1) from rfl] at h
    rw [runFrom]
    rcases dfs_inv f _ _ K sn' h with ⟨q, hq, h1⟩ | ⟨sn1, h1, h2⟩
    · have e := dfs_dead hK g f _ (fun _ _ => false) g1 (by rw [hb]; exact h1)
      cases hok : (roadAt p str at_).ok with
      | false => simp [resOf, hok] at e; rw [← e] at hq; cases hq
      | true =>
        rw [← e]
        have := g2 hok
        simp only [resOf, hok, if_true, Option.map_some, endC]
        rw [Int.toNat_of_nonneg this]
    · have e := dfs_dead hK g f _ (fun _ _ => false) g1 (by rw [hb]; exact h1)
      cases hok : (roadAt p str at_).ok with
      | true => simp [resOf, hok] at e
      | false =>
        simp only [Bool.false_eq_true, if_false]
        refine run_starts hp m (at_ + 1) f sn1 (dfs_none f _ K h1 fun i pc hi => ⟨(hK i pc hi).1, fun c t ht => .inl ((hK i pc hi).2 c t ht)⟩) (by omega) h2
end
end Go.Proofs.Qxb6500283aGreat
