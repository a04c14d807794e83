/- The stack of work is in order. -/
import Derived.Test.Qxb6500283aGreatPL7
namespace Go.Proofs.Qxb6500283aGreat

theorem modL_length (l : List In) (i : Nat) (f : In → In) : (modL l i f).length = l.length := by
  unfold modL
  split
  · rfl
  · simp
/-- The core tree's nodes are in order. -/
def NdsOk (cl : List Nd) : Prop := ∀ k (h : k < cl.length), okNd k cl[k] ∧ (cl[k].kind = 7 → 0 ≤ cl[k].cap ∧ cl[k].cap ≤ 3)
theorem Chk.cap {ns : List Nd} {N g i : Nat} {S : List Nat} (hg : g ≤ 3) (h : Chk ns N g i S) : ∀ k, k < i → ∀ n, ns[k]? = some n → n.kind = 7 → 0 ≤ n.cap ∧ n.cap ≤ 3 := by
  induction h with
  | nil => intro k hk; omega
  | @step i S S' _ hc ih =>
    intro k hk n hn h7
    by_cases hki : k < i
    · exact ih k hki n hn h7
    · obtain rfl : k = i := by omega
      cases hc with
      | leaf h1 h2 =>
        rw [hn] at h1; cases h1
        rcases h2 with rfl | rfl | rfl <;> simp [leafNd] at h7
      | set h1 h2 => rw [hn] at h1; cases h1; simp [leafNd] at h7
      | cat h1 _ _ _ _ => rw [hn] at h1; cases h1; simp [catNd] at h7
      | alt h1 => rw [hn] at h1; cases h1; simp [altNd] at h7
      | grp h1 _ _ => rw [hn] at h1; cases h1; simp only [grpNd]; omega
      | rep h1 _ => rw [hn] at h1; cases h1; simp [repNd] at h7
theorem ndsOk {p : ByteArray} {ns : List Nd} {y g : Nat} (h : ModelL p (.ok (ns, y, g))) : NdsOk (coreL ns y) := by
  have hk := keepOk h
  have hg := h.tree.2
  intro k hkl
  exact ⟨hk.wf k hkl, hk.chk.cap hg k hkl _ (List.getElem?_eq_getElem hkl)⟩
def WkOk (cl : List Nd) (L : Nat) (w : Wk) : Prop :=
  (w.what = 0 ∧ w.a < cl.length) ∨ (w.what = 1 ∧ w.a < L ∧ w.b < cl.length) ∨ (w.what = 2 ∧ w.a < L) ∨ (w.what = 3 ∧ w.a < L) ∨ w.what = 4
theorem WkOk.mono {cl : List Nd} {L L' : Nat} {w : Wk} (h : WkOk cl L w) (hL : L ≤ L') : WkOk cl L' w := by
  unfold WkOk at *
  omega
def StOk (cl : List Nd) (s : CSt) : Prop := ∀ w ∈ s.2, WkOk cl s.1.length w
theorem StOk.mk2 {cl : List Nd} {code code' : List In} {todo : List Wk} {w : Wk} (h : StOk cl (code, w :: todo)) (hl : code.length ≤ code'.length) (l : List Wk) (hw : ∀ w ∈ l, WkOk cl code'.length w) : StOk cl (code', l ++ todo) := by
  intro x hx
  rcases List.mem_append.1 hx with hx | hx
  · exact hw x hx
  · exact (h x (List.mem_cons_of_mem _ hx)).mono hl
theorem stepP_ok {cl : List Nd} (hN : NdsOk cl) {code : List In} {todo : List Wk} {w : Wk} (h : StOk cl (code, w :: todo)) : StOk cl (stepP cl w code todo) ∧ (stepP cl w code todo).1.length ≤ code.length + 1 ∧ (stepP cl w code todo).2.length ≤ todo.length + 2 := by
  have h0 := h w (List.mem_cons_self ..)
  simp only at h0
  have fin : ∀ (c : List In) (l : List Wk), code.length ≤ c.length → c.length ≤ code.length + 1 → l.length ≤ 2 → (∀ x ∈ l, WkOk cl c.length x) → ∀ s : CSt, s = (c, l ++ todo) → StOk cl s ∧ s.1.length ≤ code.length + 1 ∧ s.2.length ≤ todo.length + 2 := by
    rintro c l h1 h2 h3 h4 _ rfl
    exact ⟨h.mk2 h1 l h4, h2, by simp; omega⟩
  have two : ∀ {L : Nat} {a b : Wk}, WkOk cl L a → WkOk cl L b → ∀ x ∈ [a, b], WkOk cl L x := fun ha hb x hx => by
    simp only [List.mem_cons, List.not_mem_nil, or_false] at hx
    rcases hx with rfl | rfl
    · exact ha
    · exact hb
  have none : ∀ {L : Nat}, ∀ x ∈ ([] : List Wk), WkOk cl L x := fun x hx => by cases hx
  have hnode : ∀ m, m < cl.length → ∀ {L : Nat}, WkOk cl L ⟨0, m, 0⟩ := fun m hm _ => .inl ⟨rfl, hm⟩
  obtain ⟨what, a, b⟩ := w
  rcases h0 with ⟨hw, ha⟩ | ⟨hw, ha, hb⟩ | ⟨hw, ha⟩ | ⟨hw, ha⟩ | hw
  · simp only at hw ha
    subst hw
    obtain ⟨hok, _⟩ := hN a ha
    have hg := List.getElem?_eq_getElem ha
    generalize cl[a] = x at *
    unfold stepP
    rw [if_pos rfl]
    unfold nodeP
    rw [hg]
    rcases hok with ⟨hk, _, _⟩ | ⟨hk, h1, h2, h3, h4⟩ | ⟨hk, h1, h2, _⟩
    · rcases hk with hk | hk | hk | hk
      · exact fin code [] (Nat.le_refl _) (by omega) (by simp) none _ (by simp [hk])
      · exact fin (code ++ [chIn x.st]) [] (by simp) (by simp) (by simp) none _ (by simp [hk])
      · exact fin (code ++ [opIn 4 0 0]) [] (by simp) (by simp) (by simp) none _ (by simp [hk])
      · exact fin (code ++ [opIn 5 0 0]) [] (by simp) (by simp) (by simp) none _ (by simp [hk])
    · rcases hk with hk | hk
      · exact fin code [⟨0, x.a.toNat, 0⟩, ⟨0, x.b.toNat, 0⟩] (Nat.le_refl _) (by omega) (by simp) (two (hnode _ (by omega)) (hnode _ (by omega))) _ (by simp [hk])
      · exact fin (code ++ [opIn 1 ((code.length + 1 : Nat) : Int) (-1)]) [⟨0, x.a.toNat, 0⟩, ⟨1, code.length, x.b.toNat⟩] (by simp) (by simp) (by simp) (two (hnode _ (by omega)) (.inr (.inl ⟨rfl, by simp, by simp only; omega⟩))) _ (by simp [hk])
    · rcases hk with hk | hk
      · exact fin (code ++ [if x.lz then opIn 1 (-1) ((code.length + 1 : Nat) : Int) else opIn 1 ((code.length + 1 : Nat) : Int) (-1)]) [⟨0, x.a.toNat, 0⟩, ⟨3, code.length, if x.lz then 1 else 0⟩] (by simp) (by simp) (by simp) (two (hnode _ (by omega)) (.inr (.inr (.inr (.inl ⟨rfl, by simp⟩))))) _ (by simp [hk])
      · exact fin (code ++ [opIn 3 ((2 * x.cap.toNat : Nat) : Int) 0]) [⟨0, x.a.toNat, 0⟩, ⟨4, 2 * x.cap.toNat + 1, 0⟩] (by simp) (by simp) (by simp) (two (hnode _ (by omega)) (.inr (.inr (.inr (.inr rfl))))) _ (by simp [hk])
  · simp only at hw ha hb
    subst hw
    exact fin (modL (code ++ [opIn 2 (-1) 0]) a (fun x => setY x ((code.length + 1 : Nat) : Int))) [⟨0, b, 0⟩, ⟨2, code.length, 0⟩] (by rw [modL_length]; simp) (by rw [modL_length]; simp) (by simp) (by rw [modL_length]; exact two (hnode _ hb) (.inr (.inr (.inl ⟨rfl, by simp⟩)))) _ rfl
  · simp only at hw ha
    subst hw
    exact fin (modL code a (fun x => setX x (code.length : Nat))) [] (by rw [modL_length]; omega) (by rw [modL_length]; omega) (by simp) none _ rfl
  · simp only at hw ha
    subst hw
    exact fin (modL (code ++ [opIn 2 (a : Nat) 0]) a (fun x => if b = 1 then setX x ((code.length + 1 : Nat) : Int) else setY x ((code.length + 1 : Nat) : Int))) [] (by rw [modL_length]; simp) (by rw [modL_length]; simp) (by simp) none _ rfl
  · simp only at hw
    subst hw
    exact fin (code ++ [opIn 3 (a : Nat) 0]) [] (by simp) (by simp) (by simp) none _ rfl
end Go.Proofs.Qxb6500283aGreat
