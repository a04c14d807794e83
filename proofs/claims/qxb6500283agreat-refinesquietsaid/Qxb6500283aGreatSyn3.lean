import Derived.Test.Qxb6500283aGreatSyn2
namespace Go.Proofs.Qxb6500283aGreat

/-! The loop's answer is one alone. -/
theorem ClsR.det {p : ByteArray} {a i : Nat} {s : BSet} {r r' : Except Er (BSet × Nat)} (h : ClsR p a i s r) (h' : ClsR p a i s r') : r = r' := by
  induction h with
  | open_ hi => cases h' with
    | open_ => rfl
    | shut h => omega
    | bad h => omega
    | more h => omega
  | shut hi hb => cases h' with
    | open_ h => omega
    | shut => rfl
    | bad _ h => exact absurd hb h
    | more _ h => exact absurd hb h
  | bad hi hb hm => cases h' with
    | open_ h => omega
    | shut _ h => exact absurd h hb
    | bad _ _ h => rw [hm] at h; cases h; rfl
    | more _ _ h => rw [hm] at h; cases h
  | more hi hb hm _ ih => cases h' with
    | open_ h => omega
    | shut _ h => exact absurd h hb
    | bad _ _ h => rw [hm] at h; cases h
    | more _ _ h h2 => rw [hm] at h; cases h; exact ih h2
theorem LeafR.det {p : ByteArray} {i : Nat} {r r' : Except Er (Int × BSet × Nat)} (h : LeafR p i r) (h' : LeafR p i r') : r = r' := by
  cases h <;> cases h' <;> first
    | rfl
    | (exfalso; omega)
    | (rename_i h1 _ _ _ h2; have := h1.det h2; cases this; rfl)
    | (rename_i h1 _ _ h2; have := h1.det h2; cases this; rfl)
    | (rename_i h1 _ _ _ h2; have := h1.det h2; cases this; done)
    | (rename_i h1 _ _ h2; have := h1.det h2; cases this; done)
    | (rename_i h1 _ _ _ _ _ h2; rw [h1] at h2; cases h2; rfl)
    | (rename_i h1 _ h2; rw [h1] at h2; cases h2; done)
    | (rename_i h1 _ _ _ _ _ h2; rw [h1] at h2; cases h2; done)
theorem StepR.det {p : ByteArray} {t : Rs} {r r' : Except Er Rs} (h : StepR p t r) (h' : StepR p t r') : r = r' := by
  have sg : ∀ {c : Nat}, signB c = false → c ≠ 42 ∧ c ≠ 43 ∧ c ≠ 63 ∧ c ≠ 123 := by
    intro c hc
    simp only [signB, Bool.or_eq_false_iff, beq_eq_false_iff_ne] at hc
    omega
  have ng : ∀ {c : Nat}, signB c = true → c = 42 ∨ c = 43 ∨ c = 63 ∨ c = 123 := by
    intro c hc
    simp only [signB, Bool.or_eq_true, beq_iff_eq] at hc
    omega
  cases h with
  | sign hs => cases h' with
    | sign => rfl
    | joinE h _ => rw [hs] at h; cases h
    | bar h _ => have := ng hs; omega
    | shut h _ => have := ng hs; omega
    | open_ h _ => have := ng hs; omega
    | leafE h => rw [hs] at h; cases h
    | leaf h => rw [hs] at h; cases h
  | joinE hs hj => cases h' with
    | sign h => rw [hs] at h; cases h
    | joinE _ h => rw [hj] at h; cases h; rfl
    | bar _ h => rw [hj] at h; cases h
    | shut _ h => rw [hj] at h; cases h
    | open_ _ h => rw [hj] at h; cases h
    | leafE _ _ _ _ h => rw [hj] at h; cases h
    | leaf _ _ _ _ h => rw [hj] at h; cases h
  | bar hb hj => cases h' with
    | sign h => have := ng h; omega
    | joinE _ h => rw [hj] at h; cases h
    | bar _ h => rw [hj] at h; cases h; rfl
    | shut h => omega
    | open_ h => omega
    | leafE _ h => exact absurd hb h
    | leaf _ h => exact absurd hb h
  | shut hb hj => cases h' with
    | sign h => have := ng h; omega
    | joinE _ h => rw [hj] at h; cases h
    | shut _ h => rw [hj] at h; cases h; rfl
    | bar h => omega
    | open_ h => omega
    | leafE _ _ h => exact absurd hb h
    | leaf _ _ h => exact absurd hb h
  | open_ hb hj => cases h' with
    | sign h => have := ng h; omega
    | joinE _ h => rw [hj] at h; cases h
    | open_ _ h => rw [hj] at h; cases h; rfl
    | bar h => omega
    | shut h => omega
    | leafE _ _ _ h => exact absurd hb h
    | leaf _ _ _ h => exact absurd hb h
  | leafE hs h1 h2 h3 hj hl => cases h' with
    | sign h => rw [hs] at h; cases h
    | joinE _ h => rw [hj] at h; cases h
    | bar h => exact absurd h h1
    | shut h => exact absurd h h2
    | open_ h => exact absurd h h3
    | leafE _ _ _ _ _ h => have := hl.det h; cases this; rfl
    | leaf _ _ _ _ _ h => have := hl.det h; cases this
  | leaf hs h1 h2 h3 hj hl => cases h' with
    | sign h => rw [hs] at h; cases h
    | joinE _ h => rw [hj] at h; cases h
    | bar h => exact absurd h h1
    | shut h => exact absurd h h2
    | open_ h => exact absurd h h3
    | leafE _ _ _ _ _ h => have := hl.det h; cases this
    | leaf _ _ _ _ hj2 h => have := hl.det h; rw [hj] at hj2; cases this; cases hj2; rfl
theorem Ends.det {p : ByteArray} {t : Rs} {o o' : Ans} (h : Ends p t o) (h' : Ends p t o') : o = o' := by
  induction h with
  | step hi hs _ ih => cases h' with
    | step _ h h2 => have := hs.det h; cases this; exact ih h2
    | err _ h => have := hs.det h; cases this
    | fin h => omega
  | err hi hs => cases h' with
    | step _ h h2 => have := hs.det h; cases this
    | err _ h => have := hs.det h; cases this; rfl
    | fin h => omega
  | fin hi => cases h' with
    | step h => omega
    | err h => omega
    | fin => rfl
theorem model_real {p : ByteArray} {o o' : Ans} (h : ModelR p o) (h' : Ends p rs0 o') : o = o' := (model_ends h).det h'

/-! Well-formed arenas. -/
def okNd (k : Nat) (n : Nd) : Prop :=
  ((n.kind = 0 ∨ n.kind = 1 ∨ n.kind = 2 ∨ n.kind = 3) ∧ n.a = -1 ∧ n.b = -1) ∨
  ((n.kind = 4 ∨ n.kind = 5) ∧ 0 ≤ n.a ∧ n.a < k ∧ 0 ≤ n.b ∧ n.b < k) ∨
  ((n.kind = 6 ∨ n.kind = 7) ∧ 0 ≤ n.a ∧ n.a < k ∧ n.b = -1)
def WF (ns : List Nd) : Prop := ∀ k (h : k < ns.length), okNd k ns[k]
theorem WF.nil : WF [] := fun k h => by simp at h
theorem WF.add {ns : List Nd} {n : Nd} (h : WF ns) (hn : okNd ns.length n) : WF (ns ++ [n]) := by
  intro k hk
  by_cases hl : k < ns.length
  · rw [List.getElem_append_left hl]; exact h k hl
  · obtain rfl : k = ns.length := by simp at hk; omega
    simp only [List.getElem_concat_length]; exact hn
theorem nulL_add (ns : List Nd) (n : Nd) : nulL (ns ++ [n]) = nulL ns ++ [nullNd (nulL ns) n] := by
  unfold nulL
  rw [List.foldl_append]
  rfl
theorem snoc_ind {α : Type} {P : List α → Prop} (h0 : P []) (h1 : ∀ l a, P l → P (l ++ [a])) : ∀ l, P l := by
  intro l
  rw [← List.reverse_reverse l]
  induction l.reverse with
  | nil => exact h0
  | cons a t ih => rw [List.reverse_cons]; exact h1 _ _ ih
theorem nulL_len (ns : List Nd) : (nulL ns).length = ns.length := by
  induction ns using snoc_ind with
  | h0 => rfl
  | h1 l a ih => rw [nulL_add]; simp [ih]
theorem nul_add (ns : List Nd) (n : Nd) (k : Nat) (hk : k < ns.length) : nul (ns ++ [n]) k = nul ns k := by
  unfold nul
  rw [nulL_add, List.getD_eq_getElem?_getD, List.getElem?_append_left (by rw [nulL_len]; exact hk), List.getD_eq_getElem?_getD]
theorem nul_last (ns : List Nd) (n : Nd) : nul (ns ++ [n]) ns.length = nullNd (nulL ns) n := by
  unfold nul
  rw [nulL_add, List.getD_eq_getElem?_getD, ← nulL_len ns, List.getElem?_concat_length]
  rfl
theorem nullNd_add {ns : List Nd} (m n : Nd) (h : okNd ns.length n) : nullNd (nulL (ns ++ [m])) n = nullNd (nulL ns) n := by
  have key : ∀ a : Int, 0 ≤ a → a < ns.length → (nulL (ns ++ [m])).getD a.toNat true = (nulL ns).getD a.toNat true := fun a h0 h1 => nul_add ns m a.toNat (by omega)
  unfold nullNd
  rcases h with ⟨hk, _, _⟩ | ⟨hk, h1, h2, h3, h4⟩ | ⟨hk, h1, h2, _⟩
  · rw [if_neg (show ¬ n.kind = 4 by omega), if_neg (show ¬ n.kind = 5 by omega), if_neg (show ¬ n.kind = 6 by omega), if_neg (show ¬ n.kind = 7 by omega), if_neg (show ¬ n.kind = 4 by omega), if_neg (show ¬ n.kind = 5 by omega), if_neg (show ¬ n.kind = 6 by omega), if_neg (show ¬ n.kind = 7 by omega)]
  · rw [key _ h1 h2, key _ h3 h4]
  · rw [key _ h1 h2, if_neg (show ¬ n.kind = 4 by omega), if_neg (show ¬ n.kind = 5 by omega), if_neg (show ¬ n.kind = 4 by omega), if_neg (show ¬ n.kind = 5 by omega)]
theorem okNd.mono {k k' : Nat} {n : Nd} (h : okNd k n) (hk : k ≤ k') : okNd k' n := by
  unfold okNd at *
  omega
theorem nul_eq {ns : List Nd} (h : WF ns) : ∀ k (hk : k < ns.length), nul ns k = nullNd (nulL ns) ns[k] := by
  induction ns using snoc_ind with
  | h0 => intro k hk; simp at hk
  | h1 l a ih =>
    have hl : WF l := fun k hk => by have := h k (by simp; omega); rwa [List.getElem_append_left hk] at this
    intro k hk
    by_cases hlt : k < l.length
    · rw [nul_add _ _ _ hlt, ih hl k hlt, List.getElem_append_left hlt, nullNd_add _ _ ((hl k hlt).mono (by omega))]
    · obtain rfl : k = l.length := by simp at hk; omega
      have h2 := h l.length hk
      simp only [List.getElem_concat_length] at h2 ⊢
      rw [nul_last, nullNd_add _ _ h2]
end Go.Proofs.Qxb6500283aGreat
