import Derived.Test.Qxb6500283aGreatPkDfs
namespace Go.Proofs.Qxb6500283aGreat
open Go Go.RowKit


section
variable {p : List In} {str : ByteArray}
/-- A set of states that leads to no match: closed under 'succ', none of them a match. -/
def Closed (p : List In) (str : ByteArray) (K : Nat → Nat → Bool) : Prop := ∀ i pc, K i pc = true → isM p pc = false ∧ ∀ c, ∀ t ∈ succ p str pc i c, K t.2.1 t.1 = true
def both (sn K : Nat → Nat → Bool) : Nat → Nat → Bool := fun i pc => sn i pc || K i pc
theorem both_mark (sn K : Nat → Nat → Bool) (pc i : Nat) : both (mark sn pc i) K = mark (both sn K) pc i := by
  funext j q
  have h : ∀ sn' : Nat → Nat → Bool, mark sn' pc i j q = (sn' j q || (decide (j = i) && decide (q = pc))) := fun sn' => by
    by_cases e : j = i
    · subst e
      by_cases e2 : q = pc
      · subst e2; simp [mark, upd]
      · simp [mark, upd, e2]
    · simp [mark, upd, e]
  unfold both
  rw [h, h]
  simp only [Bool.or_assoc, Bool.or_comm, Bool.or_left_comm]

theorem dfs_grow : ∀ (f : Nat) (S : List (Nat × Nat × (Nat → Int))) (sn : Nat → Nat → Bool) {r sn'}, dfs p str f S sn = some (r, sn') → ∀ i pc, sn i pc = true → sn' i pc = true
  | 0, _, _, _, _, h => by simp [dfs] at h
  | f + 1, [], sn, r, sn', h => by
    simp only [dfs, Option.some.injEq, Prod.mk.injEq] at h
    obtain ⟨_, rfl⟩ := h
    exact fun _ _ h => h
  | f + 1, (pc, i, c) :: S, sn, r, sn', h => by
    rw [dfs] at h
    split at h
    · exact dfs_grow f S sn h
    · split at h
      · simp only [Option.some.injEq, Prod.mk.injEq] at h
        obtain ⟨_, rfl⟩ := h
        exact fun _ _ h => mark_mono _ _ h
      · exact fun j q hj => dfs_grow f _ _ h j q (mark_mono _ _ hj)

theorem dfs_closed {K : Nat → Nat → Bool} (hK : Closed p str K) : ∀ (f : Nat) (S : List (Nat × Nat × (Nat → Int))) (sn : Nat → Nat → Bool) {r sn'}, dfs p str f S sn = some (r, sn') → (∀ t ∈ S, K t.2.1 t.1 = true) →
    r = none ∧ both sn' K = both sn K
  | 0, _, _, _, _, h, _ => by simp [dfs] at h
  | f + 1, [], sn, r, sn', h, _ => by
    simp only [dfs, Option.some.injEq, Prod.mk.injEq] at h
    obtain ⟨rfl, rfl⟩ := h
    exact ⟨rfl, rfl⟩
  | f + 1, (pc, i, c) :: S, sn, r, sn', h, hS => by
    have h0 := hS (pc, i, c) (by simp)
    obtain ⟨k1, k2⟩ := hK i pc h0
    rw [dfs] at h
    split at h
    · exact dfs_closed hK f S sn h (fun t ht => hS t (by simp [ht]))
    · rw [k1] at h
      simp only [Bool.false_eq_true, if_false] at h
      obtain ⟨e1, e2⟩ := dfs_closed hK f _ _ h (fun t ht => by
        rcases List.mem_append.1 ht with h1 | h1
        · exact k2 c t h1
        · exact hS t (by simp [h1]))
      refine ⟨e1, e2.trans ?_⟩
      rw [both_mark]
      funext j q
      cases hb : both sn K j q with
      | true => exact mark_mono _ _ hb
      | false =>
        cases hm : mark (both sn K) pc i j q with
        | false => rfl
        | true =>
          rcases mark_cases hm with h3 | ⟨rfl, rfl⟩
          · rw [hb] at h3; cases h3
          · have : both sn K j q = true := by unfold both; rw [h0]; simp
            rw [hb] at this; cases this

theorem dfs_dead {K : Nat → Nat → Bool} (hK : Closed p str K) : ∀ (f g : Nat) (S : List (Nat × Nat × (Nat → Int))) (sn : Nat → Nat → Bool) {r r' sn' sn''}, dfs p str f S sn = some (r, sn') → dfs p str g S (both sn K) = some (r', sn'') → r = r'
  | 0, _, _, _, _, _, _, _, h, _ => by simp [dfs] at h
  | _ + 1, 0, _, _, _, _, _, _, _, k => by simp [dfs] at k
  | f + 1, g + 1, [], sn, r, r', sn', sn'', h, k => by
    simp only [dfs, Option.some.injEq, Prod.mk.injEq] at h k
    rw [← h.1, ← k.1]
  | f + 1, g + 1, (pc, i, c) :: S, sn, r, r', sn', sn'', h, k => by
    rw [dfs] at h k
    cases h1 : sn i pc with
    | true =>
      rw [if_pos h1] at h
      rw [if_pos (show both sn K i pc = true by simp [both, h1])] at k
      exact dfs_dead hK f g S sn h k
    | false =>
      rw [if_neg (by simp [h1])] at h
      cases h2 : K i pc with
      | true =>
        obtain ⟨k1, k2⟩ := hK i pc h2
        rw [if_pos (show both sn K i pc = true by simp [both, h2])] at k
        rw [k1] at h
        simp only [Bool.false_eq_true, if_false] at h
        have hb : both (mark sn pc i) K = both sn K := by
          rw [both_mark]
          funext j q
          cases hb : both sn K j q with
          | true => exact mark_mono _ _ hb
          | false =>
            cases hm : mark (both sn K) pc i j q with
            | false => rfl
            | true =>
              rcases mark_cases hm with h3 | ⟨rfl, rfl⟩
              · rw [hb] at h3; cases h3
              · have : both sn K j q = true := by unfold both; rw [h2]; simp
                rw [hb] at this; cases this
        rcases dfs_inv f _ S _ sn' h with ⟨q, hq, h3⟩ | ⟨sn1, h3, h4⟩
        · have := (dfs_closed hK f _ _ h3 (k2 c)).1
          rw [hq] at this; cases this
        · have e := (dfs_closed hK f _ _ h3 (k2 c)).2
          rw [hb] at e
          rw [← e] at k
          exact dfs_dead hK f g S sn1 h4 k
      | false =>
        rw [if_neg (by simp [both, h1, h2])] at k
        split at h
        · rename_i h3
          rw [if_pos h3] at k
          simp only [Option.some.injEq, Prod.mk.injEq] at h k
          rw [← h.1, ← k.1]
        · rename_i h3
          rw [if_neg h3, ← both_mark] at k
          exact dfs_dead hK f g _ _ h k

theorem succ_keys {pc i : Nat} {c c' : Nat → Int} {t : Nat × Nat × (Nat → Int)} (h : t ∈ succ p str pc i c) : ∃ t' ∈ succ p str pc i c', t'.1 = t.1 ∧ t'.2.1 = t.2.1 := by
  unfold succ at h ⊢
  split at h
  · cases h
  · repeat' split at h
    all_goals simp at h
    all_goals first | (subst h; simp [*]; done) | (rcases h with rfl | rfl <;> simp [*] <;> done)
/-- What a search that finds nothing leaves is closed. -/
theorem dfs_none : ∀ (f : Nat) (S : List (Nat × Nat × (Nat → Int))) (sn : Nat → Nat → Bool) {sn'}, dfs p str f S sn = some (none, sn') →
    (∀ i pc, sn i pc = true → isM p pc = false ∧ ∀ c, ∀ t ∈ succ p str pc i c, sn t.2.1 t.1 = true ∨ ∃ t' ∈ S, t'.1 = t.1 ∧ t'.2.1 = t.2.1) → Closed p str sn'
  | 0, _, _, _, h, _ => by simp [dfs] at h
  | f + 1, [], sn, sn', h, hI => by
    simp only [dfs, Option.some.injEq, Prod.mk.injEq, true_and] at h
    subst h
    intro i pc hi
    obtain ⟨a, b⟩ := hI i pc hi
    refine ⟨a, fun c t ht => ?_⟩
    rcases b c t ht with h1 | ⟨t', h1, _⟩
    · exact h1
    · cases h1
  | f + 1, (pc, i, c) :: S, sn, sn', h, hI => by
    rw [dfs] at h
    split at h
    · rename_i h1
      refine dfs_none f S sn h fun j q hj => ⟨(hI j q hj).1, fun d t ht => ?_⟩
      rcases (hI j q hj).2 d t ht with h2 | ⟨t', h2, h3, h4⟩
      · exact .inl h2
      · rcases List.mem_cons.1 h2 with h5 | h5
        · subst h5
          simp only at h3 h4
          subst h3 h4
          exact .inl h1
        · exact .inr ⟨t', h5, h3, h4⟩
    · split at h
      · simp at h
      · rename_i h1 h2
        refine dfs_none f _ _ h fun j q hj => ?_
        rcases mark_cases hj with h3 | ⟨rfl, rfl⟩
        · refine ⟨(hI j q h3).1, fun d t ht => ?_⟩
          rcases (hI j q h3).2 d t ht with h4 | ⟨t', h4, h5, h6⟩
          · exact .inl (mark_mono _ _ h4)
          · rcases List.mem_cons.1 h4 with h7 | h7
            · subst h7
              simp only at h5 h6
              subst h5 h6
              exact .inl (mark_same _ _ _)
            · exact .inr ⟨t', List.mem_append_right _ h7, h5, h6⟩
        · refine ⟨by simpa using h2, fun d t ht => .inr ?_⟩
          obtain ⟨t', h4, h5⟩ := succ_keys (c' := c) ht
          exact ⟨t', List.mem_append_left _ h4, h5⟩
end
end Go.Proofs.Qxb6500283aGreat
