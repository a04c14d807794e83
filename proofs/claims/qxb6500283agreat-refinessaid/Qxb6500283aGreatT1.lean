/- Lists of ways: each end once, by its first way. -/
import Derived.Test.Qxb6500283aGreatSyn
namespace Go.Proofs.Qxb6500283aGreat

abbrev Cp := Nat → Int
abbrev Wy := Nat × Cp
def ends (l : List Wy) : List Nat := l.map (·.1)
def ddS (S : List Nat) : List Wy → List Wy
  | [] => []
  | x :: l => if x.1 ∈ S then ddS S l else x :: ddS (x.1 :: S) l
def ddN (S : List Nat) : List Nat → List Nat
  | [] => []
  | x :: l => if x ∈ S then ddN S l else x :: ddN (x :: S) l
def joinL (a b : List Wy) : List Wy := a ++ ddS (ends a) b
def joinAll (l : List Wy) (g : Wy → List Wy) : List Wy := l.foldl (fun acc w => joinL acc (g w)) []
theorem ends_append (a b : List Wy) : ends (a ++ b) = ends a ++ ends b := by simp [ends]
theorem ends_dd (l : List Wy) : ∀ S, ends (ddS S l) = ddN S (ends l) := by
  induction l with
  | nil => intro S; rfl
  | cons x l ih =>
    intro S
    simp only [ddS, ends, List.map_cons, ddN]
    split
    · exact ih S
    · simp only [List.map_cons]; congr 1; exact ih _
theorem ddS_congr (l : List Wy) : ∀ S T, (∀ e, e ∈ S ↔ e ∈ T) → ddS S l = ddS T l := by
  induction l with
  | nil => intro S T _; rfl
  | cons x l ih =>
    intro S T h
    simp only [ddS]
    by_cases hx : x.1 ∈ S
    · rw [if_pos hx, if_pos ((h _).1 hx)]; exact ih S T h
    · rw [if_neg hx, if_neg (fun e => hx ((h _).2 e))]
      congr 1
      exact ih _ _ (fun e => by simp [h])
theorem ddS_append (a b : List Wy) : ∀ S, ddS S (a ++ b) = ddS S a ++ ddS (ends a ++ S) b := by
  induction a with
  | nil => intro S; rfl
  | cons x a ih =>
    intro S
    simp only [List.cons_append, ddS]
    by_cases hx : x.1 ∈ S
    · rw [if_pos hx, if_pos hx, ih S]
      congr 1
      refine ddS_congr b _ _ (fun e => ?_)
      simp only [ends, List.map_cons, List.cons_append, List.mem_cons, List.mem_append]
      constructor
      · exact fun h => .inr h
      · rintro (rfl | h)
        · exact .inr hx
        · exact h
    · rw [if_neg hx, if_neg hx, ih, List.cons_append]
      congr 2
      refine ddS_congr b _ _ (fun e => ?_)
      simp only [ends, List.map_cons, List.cons_append, List.mem_cons, List.mem_append]
      constructor
      · rintro (h | rfl | h)
        · exact .inr (.inl h)
        · exact .inl rfl
        · exact .inr (.inr h)
      · rintro (rfl | h | h)
        · exact .inr (.inl rfl)
        · exact .inl h
        · exact .inr (.inr h)
theorem ddS_all (l : List Wy) : ∀ S, (∀ x ∈ l, x.1 ∈ S) → ddS S l = [] := by
  induction l with
  | nil => intro S _; rfl
  | cons x l ih =>
    intro S h
    simp only [ddS]
    rw [if_pos (h x (List.mem_cons_self ..))]
    exact ih S (fun y hy => h y (List.mem_cons_of_mem _ hy))
theorem mem_ddN (l : List Nat) (e : Nat) : ∀ S, e ∈ ddN S l ↔ e ∈ l ∧ e ∉ S := by
  induction l with
  | nil => intro S; simp [ddN]
  | cons x l ih =>
    intro S
    simp only [ddN]
    by_cases hx : x ∈ S
    · rw [if_pos hx, ih, List.mem_cons]
      constructor
      · rintro ⟨a, b⟩; exact ⟨.inr a, b⟩
      · rintro ⟨rfl | a, b⟩
        · exact absurd hx b
        · exact ⟨a, b⟩
    · rw [if_neg hx]
      simp only [List.mem_cons, ih]
      constructor
      · rintro (rfl | ⟨a, b⟩)
        · exact ⟨.inl rfl, hx⟩
        · exact ⟨.inr a, fun h => b (.inr h)⟩
      · rintro ⟨rfl | a, b⟩
        · exact .inl rfl
        · by_cases he : e = x
          · exact .inl he
          · exact .inr ⟨a, fun h => h.elim he b⟩
theorem nodup_ddN (l : List Nat) : ∀ S, (ddN S l).Nodup := by
  induction l with
  | nil => intro S; simp [ddN]
  | cons x l ih =>
    intro S
    simp only [ddN]
    split
    · exact ih S
    · refine List.nodup_cons.2 ⟨fun h => ?_, ih _⟩
      exact ((mem_ddN l x _).1 h).2 (List.mem_cons_self ..)
theorem ddS_id (l : List Wy) : ∀ S, (ends l).Nodup → (∀ x ∈ l, x.1 ∉ S) → ddS S l = l := by
  induction l with
  | nil => intro S _ _; rfl
  | cons x l ih =>
    intro S hn h
    simp only [ddS]
    rw [if_neg (h x (List.mem_cons_self ..))]
    simp only [ends, List.map_cons, List.nodup_cons] at hn
    rw [ih _ hn.2 (fun y hy e => ?_)]
    rcases List.mem_cons.1 e with e | e
    · exact hn.1 (e ▸ List.mem_map_of_mem hy)
    · exact h y (List.mem_cons_of_mem _ hy) e
theorem mem_ddS {l : List Wy} {S : List Nat} {x : Wy} (h : x ∈ ddS S l) : x ∈ l := by
  induction l generalizing S with
  | nil => exact h
  | cons y l ih =>
    simp only [ddS] at h
    split at h
    · exact List.mem_cons_of_mem _ (ih h)
    · rcases List.mem_cons.1 h with rfl | h
      · exact List.mem_cons_self ..
      · exact List.mem_cons_of_mem _ (ih h)
theorem ddS_ddS (l : List Wy) : ∀ S T, (∀ e, e ∈ T → e ∈ S) → ddS S (ddS T l) = ddS S l := by
  induction l with
  | nil => intro S T _; rfl
  | cons x l ih =>
    intro S T h
    simp only [ddS]
    by_cases ht : x.1 ∈ T
    · rw [if_pos ht, if_pos (h _ ht)]; exact ih S T h
    · rw [if_neg ht]
      simp only [ddS]
      by_cases hs : x.1 ∈ S
      · rw [if_pos hs, if_pos hs]
        exact ih S _ (fun e he => (List.mem_cons.1 he).elim (fun e' => e' ▸ hs) (h e))
      · rw [if_neg hs, if_neg hs]
        congr 1
        exact ih _ _ (fun e he => (List.mem_cons.1 he).elim (fun e' => e' ▸ List.mem_cons_self ..) (fun e' => List.mem_cons_of_mem _ (h e e')))
theorem ends_join (a b : List Wy) : ends (joinL a b) = ends a ++ ddN (ends a) (ends b) := by
  unfold joinL
  rw [ends_append, ends_dd]
theorem join_nodup {a b : List Wy} (h : (ends a).Nodup) : (ends (joinL a b)).Nodup := by
  rw [ends_join]
  refine List.nodup_append.2 ⟨h, nodup_ddN _ _, fun x hx y hy e => ?_⟩
  subst e
  exact ((mem_ddN _ _ _).1 hy).2 hx
theorem mem_join {a b : List Wy} {x : Wy} (h : x ∈ joinL a b) : x ∈ a ∨ x ∈ b := by
  rcases List.mem_append.1 h with h | h
  · exact .inl h
  · exact .inr (mem_ddS h)
theorem join_nil (a : List Wy) : joinL a [] = a := by simp [joinL, ddS]
theorem nil_join {b : List Wy} (h : (ends b).Nodup) : joinL [] b = b := by
  unfold joinL
  rw [List.nil_append]
  exact ddS_id b _ h (fun x _ e => by cases e)
theorem joinAll_go (l : List Wy) (g : Wy → List Wy) : ∀ acc, l.foldl (fun acc w => joinL acc (g w)) acc = acc ++ ddS (ends acc) (l.flatMap g) := by
  induction l with
  | nil => intro acc; simp [ddS]
  | cons x l ih =>
    intro acc
    rw [List.foldl_cons, ih, List.flatMap_cons, ddS_append]
    unfold joinL
    rw [List.append_assoc]
    congr 2
    refine ddS_congr _ _ _ (fun e => ?_)
    rw [ends_append, ends_dd, List.mem_append, List.mem_append, mem_ddN]
    constructor
    · rintro (h | ⟨h, _⟩)
      · exact .inr h
      · exact .inl h
    · rintro (h | h)
      · by_cases he : e ∈ ends acc
        · exact .inl he
        · exact .inr ⟨h, he⟩
      · exact .inl h
theorem joinAll_eq (l : List Wy) (g : Wy → List Wy) : joinAll l g = ddS [] (l.flatMap g) := by
  unfold joinAll
  rw [joinAll_go]
  rfl
/-- What is dropped would have brought nothing new. -/
theorem dd_flat (g : Wy → List Wy) (M : List Wy) (hg : ∀ x y : Wy, x.1 = y.1 → ends (g x) = ends (g y)) : ∀ (S : List Nat) (T : List Nat), (∀ x : Wy, x.1 ∈ S → ∀ e ∈ ends (g x), e ∈ T) → ddS T ((ddS S M).flatMap g) = ddS T (M.flatMap g) := by
  induction M with
  | nil => intro S T _; rfl
  | cons x M ih =>
    intro S T h
    simp only [ddS]
    by_cases hx : x.1 ∈ S
    · rw [if_pos hx, ih S T h, List.flatMap_cons, ddS_append, ddS_all (g x) T (fun y hy => h x hx _ (List.mem_map_of_mem hy)), List.nil_append]
      refine ddS_congr _ _ _ (fun e => ?_)
      rw [List.mem_append]
      exact ⟨.inr, fun he => he.elim (h x hx e) id⟩
    · rw [if_neg hx, List.flatMap_cons, List.flatMap_cons, ddS_append, ddS_append]
      congr 1
      refine ih _ _ (fun y hy e he => ?_)
      rw [List.mem_append]
      rcases List.mem_cons.1 hy with hy | hy
      · exact .inl (by rw [← hg y x hy]; exact he)
      · exact .inr (h y hy e he)
end Go.Proofs.Qxb6500283aGreat
