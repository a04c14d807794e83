import Derived.Test.Qxb6500283aGreatPkRoad
namespace Go.Proofs.Qxb6500283aGreat
open Go Go.RowKit


def succ (p : List In) (str : ByteArray) (pc i : Nat) (c : Nat → Int) : List (Nat × Nat × (Nat → Int)) :=
  match p[pc]? with
  | none => []
  | some x =>
    if x.op = 0 then (if i < str.size ∧ hasB x.s0 x.s1 x.s2 x.s3 (bt str i) = true then [(pc + 1, i + 1, c)] else [])
    else if x.op = 1 then [(x.x.toNat, i, c), (x.y.toNat, i, c)]
    else if x.op = 2 then [(x.x.toNat, i, c)]
    else if x.op = 3 then [(pc + 1, i, upd c x.x.toNat i)]
    else if x.op = 4 then (if i = 0 then [(pc + 1, i, c)] else [])
    else if x.op = 5 then (if i = str.size then [(pc + 1, i, c)] else [])
    else []
def isM (p : List In) (pc : Nat) : Bool := match p[pc]? with | none => false | some x => decide (x.op = 6)
def mark (sn : Nat → Nat → Bool) (pc i : Nat) : Nat → Nat → Bool := upd sn i (upd (sn i) pc true)
theorem mark_same (sn : Nat → Nat → Bool) (pc i : Nat) : mark sn pc i i pc = true := by simp [mark, upd]
theorem mark_mono {sn : Nat → Nat → Bool} {j q : Nat} (pc i : Nat) (h : sn j q = true) : mark sn pc i j q = true := by
  unfold mark
  by_cases e : j = i
  · subst e
    rw [upd_same]
    by_cases e2 : q = pc
    · subst e2; rw [upd_same]
    · rw [upd_other _ _ _ _ e2]; exact h
  · rw [upd_other _ _ _ _ e]; exact h
theorem mark_cases {sn : Nat → Nat → Bool} {pc i j q : Nat} (h : mark sn pc i j q = true) : sn j q = true ∨ (j = i ∧ q = pc) := by
  unfold mark at h
  by_cases e : j = i
  · subst e
    rw [upd_same] at h
    by_cases e2 : q = pc
    · exact .inr ⟨rfl, e2⟩
    · rw [upd_other _ _ _ _ e2] at h; exact .inl h
  · rw [upd_other _ _ _ _ e] at h; exact .inl h

def dfs (p : List In) (str : ByteArray) : Nat → List (Nat × Nat × (Nat → Int)) → (Nat → Nat → Bool) → Option (Option ((Nat → Int) × Nat) × (Nat → Nat → Bool))
  | 0, _, _ => none
  | _ + 1, [], sn => some (none, sn)
  | f + 1, (pc, i, c) :: S, sn => if sn i pc then dfs p str f S sn else if isM p pc then some (some (c, i), mark sn pc i) else dfs p str f (succ p str pc i c ++ S) (mark sn pc i)

section
variable {p : List In} {str : ByteArray}
theorem dfs_mono : ∀ (f : Nat) (S : List (Nat × Nat × (Nat → Int))) (sn : Nat → Nat → Bool) {x}, dfs p str f S sn = some x → dfs p str (f + 1) S sn = some x
  | 0, _, _, _, h => by simp [dfs] at h
  | f + 1, [], sn, x, h => by simpa [dfs] using h
  | f + 1, (pc, i, c) :: S, sn, x, h => by
    rw [dfs] at h ⊢
    split
    · rename_i h1; rw [if_pos h1] at h; exact dfs_mono f S sn h
    · rename_i h1; rw [if_neg h1] at h
      split
      · rename_i h2; rw [if_pos h2] at h; exact h
      · rename_i h2; rw [if_neg h2] at h; exact dfs_mono f _ _ h
theorem dfs_le {f g : Nat} {S : List (Nat × Nat × (Nat → Int))} {sn : Nat → Nat → Bool} {x} (hfg : f ≤ g) (h : dfs p str f S sn = some x) : dfs p str g S sn = some x := by
  induction hfg with
  | refl => exact h
  | step _ ih => exact dfs_mono _ _ _ ih
theorem dfs_det {f g : Nat} {S : List (Nat × Nat × (Nat → Int))} {sn : Nat → Nat → Bool} {x y} (h : dfs p str f S sn = some x) (k : dfs p str g S sn = some y) : x = y := by
  have h1 := dfs_le (Nat.le_max_left f g) h
  have h2 := dfs_le (Nat.le_max_right f g) k
  rw [h1] at h2
  exact Option.some.inj h2
theorem dfs_seq : ∀ (f g : Nat) (S T : List (Nat × Nat × (Nat → Int))) (sn sn1 : Nat → Nat → Bool) {x}, dfs p str f S sn = some (none, sn1) → dfs p str g T sn1 = some x → dfs p str (f + g) (S ++ T) sn = some x
  | 0, _, _, _, _, _, _, h, _ => by simp [dfs] at h
  | f + 1, g, [], T, sn, sn1, x, h, k => by
    simp only [dfs, Option.some.injEq, Prod.mk.injEq, true_and] at h
    subst h
    exact dfs_le (by omega) k
  | f + 1, g, (pc, i, c) :: S, T, sn, sn1, x, h, k => by
    rw [dfs] at h
    rw [show f + 1 + g = (f + g) + 1 by omega, List.cons_append, dfs]
    split
    · rename_i h1; rw [if_pos h1] at h; exact dfs_seq f g S T sn sn1 h k
    · rename_i h1; rw [if_neg h1] at h
      split
      · rename_i h2; rw [if_pos h2] at h; simp at h
      · rename_i h2; rw [if_neg h2] at h
        rw [← List.append_assoc]
        exact dfs_seq f g _ T _ sn1 h k
theorem dfs_hit : ∀ (f : Nat) (S T : List (Nat × Nat × (Nat → Int))) (sn sn1 : Nat → Nat → Bool) {r}, dfs p str f S sn = some (some r, sn1) → dfs p str f (S ++ T) sn = some (some r, sn1)
  | 0, _, _, _, _, _, h => by simp [dfs] at h
  | f + 1, [], T, sn, sn1, r, h => by simp [dfs] at h
  | f + 1, (pc, i, c) :: S, T, sn, sn1, r, h => by
    rw [dfs] at h
    rw [List.cons_append, dfs]
    split
    · rename_i h1; rw [if_pos h1] at h; exact dfs_hit f S T sn sn1 h
    · rename_i h1; rw [if_neg h1] at h
      split
      · rename_i h2; rw [if_pos h2] at h; exact h
      · rename_i h2; rw [if_neg h2] at h
        rw [← List.append_assoc]
        exact dfs_hit f _ T _ sn1 h
theorem dfs_inv : ∀ (f : Nat) (S T : List (Nat × Nat × (Nat → Int))) (sn sn' : Nat → Nat → Bool) {r}, dfs p str f (S ++ T) sn = some (r, sn') →
    (∃ q, r = some q ∧ dfs p str f S sn = some (r, sn')) ∨ ∃ sn1, dfs p str f S sn = some (none, sn1) ∧ dfs p str f T sn1 = some (r, sn')
  | 0, _, _, _, _, _, h => by simp [dfs] at h
  | f + 1, [], T, sn, sn', r, h => .inr ⟨sn, by simp [dfs], h⟩
  | f + 1, (pc, i, c) :: S, T, sn, sn', r, h => by
    rw [List.cons_append, dfs] at h
    rw [dfs]
    split
    · rename_i h1; rw [if_pos h1] at h
      rcases dfs_inv f S T sn sn' h with h3 | ⟨sn1, h3, h4⟩
      · exact .inl h3
      · exact .inr ⟨sn1, h3, dfs_mono f _ _ h4⟩
    · rename_i h1; rw [if_neg h1] at h
      split
      · rename_i h2; rw [if_pos h2] at h
        simp only [Option.some.injEq, Prod.mk.injEq] at h
        obtain ⟨rfl, rfl⟩ := h
        exact .inl ⟨_, rfl, rfl⟩
      · rename_i h2; rw [if_neg h2] at h
        rw [← List.append_assoc] at h
        rcases dfs_inv f _ T _ sn' h with h3 | ⟨sn1, h3, h4⟩
        · exact .inl h3
        · exact .inr ⟨sn1, h3, dfs_mono f _ _ h4⟩

theorem succ_place (pc i : Nat) (c : Nat → Int) : ∀ t ∈ succ p str pc i c, i ≤ t.2.1 := by
  intro t ht
  unfold succ at ht
  split at ht
  · cases ht
  · repeat' split at ht
    all_goals simp at ht
    all_goals first | omega | (rcases ht with rfl | rfl <;> simp) | (subst ht; simp)
theorem upd_upd_comm {α : Type} (f : Nat → α) (i j : Nat) (a b : α) (h : i ≠ j) : upd (upd f i a) j b = upd (upd f j b) i a := by
  funext k
  simp only [upd]
  by_cases h1 : k = j <;> by_cases h2 : k = i <;> simp [h1, h2] <;> omega
theorem dfs_local (i : Nat) (v : Nat → Bool) : ∀ (f : Nat) (S : List (Nat × Nat × (Nat → Int))) (sn : Nat → Nat → Bool), (∀ t ∈ S, i < t.2.1) →
    dfs p str f S (upd sn i v) = (dfs p str f S sn).map fun x => (x.1, upd x.2 i v)
  | 0, _, _, _ => by simp [dfs]
  | f + 1, [], sn, _ => by simp [dfs]
  | f + 1, (pc, j, c) :: S, sn, h => by
    have hj : i < j := h (pc, j, c) (by simp)
    have hm : mark (upd sn i v) pc j = upd (mark sn pc j) i v := by
      unfold mark
      rw [upd_other sn i j v (by omega), upd_upd_comm _ _ _ _ _ (by omega)]
    rw [dfs, dfs, upd_other sn i j v (by omega), hm]
    split
    · exact dfs_local i v f S sn (fun t ht => h t (by simp [ht]))
    · split
      · simp
      · exact dfs_local i v f _ _ (fun t ht => by
          rcases List.mem_append.1 ht with h1 | h1
          · have := succ_place pc j c t h1; omega
          · exact h t (by simp [h1]))
end
end Go.Proofs.Qxb6500283aGreat
