/- The search without a memory; the search with one finds the same. -/
import Derived.Test.Qxb6500283aGreatPkDfs
namespace Go.Proofs.Qxb6500283aGreat

abbrev Sst := Nat × Nat × (Nat → Int)
/-- The search in depth, counted, without a memory. -/
inductive Ex (p : List In) (str : ByteArray) : Nat → List Sst → Option ((Nat → Int) × Nat) → Prop
  | nil : Ex p str 0 [] none
  | hit {pc i : Nat} {c : Nat → Int} {S : List Sst} : isM p pc = true → Ex p str 1 ((pc, i, c) :: S) (some (c, i))
  | go {n pc i : Nat} {c : Nat → Int} {S : List Sst} {r : Option ((Nat → Int) × Nat)} : isM p pc = false → Ex p str n (succ p str pc i c ++ S) r → Ex p str (n + 1) ((pc, i, c) :: S) r
def keyL (l : List Sst) : List (Nat × Nat) := l.map (fun t => (t.1, t.2.1))
section
variable {p : List In} {str : ByteArray}
theorem succ_key (pc i : Nat) (c c' : Nat → Int) : keyL (succ p str pc i c) = keyL (succ p str pc i c') := by
  unfold succ keyL
  cases p[pc]? with
  | none => rfl
  | some x =>
    dsimp only
    split
    · split <;> rfl
    · split
      · rfl
      · split
        · rfl
        · split
          · rfl
          · split
            · split <;> rfl
            · split
              · split <;> rfl
              · rfl
theorem Ex.keys {n : Nat} {S : List Sst} {r : Option ((Nat → Int) × Nat)} (h : Ex p str n S r) : ∀ S', keyL S = keyL S' → ∃ r', Ex p str n S' r' ∧ r.isSome = r'.isSome := by
  induction h with
  | nil =>
    intro S' hk
    cases S' with
    | nil => exact ⟨none, .nil, rfl⟩
    | cons x S' => simp [keyL] at hk
  | hit hm =>
    intro S' hk
    cases S' with
    | nil => simp [keyL] at hk
    | cons x S' =>
      obtain ⟨a, b, c'⟩ := x
      simp only [keyL, List.map_cons, List.cons.injEq, Prod.mk.injEq] at hk
      obtain ⟨⟨rfl, rfl⟩, _⟩ := hk
      exact ⟨some (c', _), .hit hm, rfl⟩
  | @go n pc i c S r hm _ ih =>
    intro S' hk
    cases S' with
    | nil => simp [keyL] at hk
    | cons x S' =>
      obtain ⟨a, b, c'⟩ := x
      simp only [keyL, List.map_cons, List.cons.injEq, Prod.mk.injEq] at hk
      obtain ⟨⟨rfl, rfl⟩, hk⟩ := hk
      obtain ⟨r', h1, h2⟩ := ih (succ p str pc i c' ++ S') (by
        have := succ_key (p := p) (str := str) pc i c c'
        simp only [keyL] at this ⊢
        rw [List.map_append, List.map_append, this, hk])
      exact ⟨r', .go hm h1, h2⟩
theorem Ex.det {n : Nat} {S : List Sst} {r : Option ((Nat → Int) × Nat)} (h : Ex p str n S r) : ∀ {m r'}, Ex p str m S r' → n = m ∧ r = r' := by
  induction h with
  | nil => intro m r' h'; cases h'; exact ⟨rfl, rfl⟩
  | hit hm =>
    intro m r' h'
    cases h' with
    | hit => exact ⟨rfl, rfl⟩
    | go hm' => rw [hm] at hm'; cases hm'
  | go hm _ ih =>
    intro m r' h'
    cases h' with
    | hit hm' => rw [hm] at hm'; cases hm'
    | go _ h2 =>
      obtain ⟨rfl, rfl⟩ := ih h2
      exact ⟨rfl, rfl⟩
theorem Ex.app_none {n : Nat} {A : List Sst} {q : Option ((Nat → Int) × Nat)} (h : Ex p str n A q) : ∀ {m B r}, q = none → Ex p str m B r → Ex p str (n + m) (A ++ B) r := by
  induction h with
  | nil => intro m B r _ hB; rw [Nat.zero_add]; exact hB
  | hit => intro m B r e; cases e
  | go hm _ ih =>
    intro m B r e hB
    have := ih e hB
    rw [List.append_assoc] at this
    rw [show ∀ a b : Nat, a + 1 + b = (a + b) + 1 by omega]
    exact .go hm this
theorem Ex.app_some {n : Nat} {A : List Sst} {q : Option ((Nat → Int) × Nat)} (h : Ex p str n A q) : ∀ {B x}, q = some x → Ex p str n (A ++ B) q := by
  induction h with
  | nil => intro B x e; cases e
  | hit hm => intro B x e; exact .hit hm
  | go hm _ ih =>
    intro B x e
    have := ih (B := B) e
    rw [List.append_assoc] at this
    exact .go hm this
theorem Ex.split {n : Nat} {C : List Sst} {r : Option ((Nat → Int) × Nat)} (h : Ex p str n C r) : ∀ {A B}, C = A ++ B → (∃ x, r = some x ∧ Ex p str n A r) ∨ ∃ a b, a + b = n ∧ Ex p str a A none ∧ Ex p str b B r := by
  induction h with
  | nil =>
    intro A B e
    cases A with
    | nil => exact .inr ⟨0, 0, rfl, .nil, by rw [List.nil_append] at e; rw [← e]; exact .nil⟩
    | cons x A => cases e
  | @hit pc i c S hm =>
    intro A B e
    cases A with
    | nil => rw [List.nil_append] at e; exact .inr ⟨0, 1, rfl, .nil, by rw [← e]; exact .hit hm⟩
    | cons x A =>
      rw [List.cons_append, List.cons.injEq] at e
      obtain ⟨rfl, _⟩ := e
      exact .inl ⟨_, rfl, .hit hm⟩
  | @go n pc i c S r hm h ih =>
    intro A B e
    cases A with
    | nil => rw [List.nil_append] at e; exact .inr ⟨0, n + 1, by omega, .nil, by rw [← e]; exact .go hm h⟩
    | cons x A =>
      rw [List.cons_append, List.cons.injEq] at e
      obtain ⟨rfl, rfl⟩ := e
      rcases ih (A := succ p str pc i c ++ A) (B := B) (by rw [List.append_assoc]) with ⟨y, rfl, h1⟩ | ⟨a, b, hab, h1, h2⟩
      · exact .inl ⟨y, rfl, .go hm h1⟩
      · exact .inr ⟨a + 1, b, by omega, .go hm h1, h2⟩
theorem Ex.pos {n : Nat} {t : Sst} {S : List Sst} {r : Option ((Nat → Int) × Nat)} (h : Ex p str n (t :: S) r) : 1 ≤ n := by
  cases h <;> omega
/-- What may be remembered. -/
def SeenOk (p : List In) (str : ByteArray) (n : Nat) (sn : Nat → Nat → Bool) : Prop := ∀ i pc, sn i pc = true → (∀ c, ∃ m, Ex p str m [(pc, i, c)] none) ∨ ∀ c m x, Ex p str m [(pc, i, c)] (some x) → n < m
theorem Ex.dfs : ∀ n S sn r, Ex p str n S r → SeenOk p str n sn → ∃ f sn', Go.Proofs.Qxb6500283aGreat.dfs p str f S sn = some (r, sn') := by
  intro n
  induction n using Nat.strongRecOn with
  | ind n ih =>
    intro S sn r h hs
    cases S with
    | nil =>
      cases h
      exact ⟨1, sn, rfl⟩
    | cons t S =>
      obtain ⟨pc, i, c⟩ := t
      have hsp := h.split (A := [(pc, i, c)]) (B := S) rfl
      cases hq : sn i pc with
      | true =>
        rcases hsp with ⟨x, rfl, h1⟩ | ⟨a, b, hab, h1, h2⟩
        · rcases hs i pc hq with hd | hb
          · obtain ⟨m, hm⟩ := hd c
            have := (h1.det hm).2
            cases this
          · have := hb c n x h1
            omega
        · have ha := h1.pos
          obtain ⟨f, sn', hf⟩ := ih b (by omega) S sn r h2 (fun i' pc' hq' => (hs i' pc' hq').imp id (fun hb c' m x hx => by have := hb c' m x hx; omega))
          refine ⟨f + 1, sn', ?_⟩
          simp only [Go.Proofs.Qxb6500283aGreat.dfs]
          rw [if_pos hq]
          exact hf
      | false =>
        cases h with
        | hit hm =>
          refine ⟨1, mark sn pc i, ?_⟩
          simp only [Go.Proofs.Qxb6500283aGreat.dfs]
          rw [if_neg (by rw [hq]; decide), if_pos hm]
        | @go n' _ _ _ _ _ hm h' =>
          obtain ⟨f, sn', hf⟩ := ih n' (by omega) _ (mark sn pc i) r h' (fun i' pc' hq' => by
            rcases mark_cases hq' with h1 | ⟨rfl, rfl⟩
            · exact (hs i' pc' h1).imp id (fun hb c' m x hx => by have := hb c' m x hx; omega)
            · rcases hsp with ⟨x, rfl, h1⟩ | ⟨a, b, hab, h1, h2⟩
              · refine .inr (fun c' m x' hx => ?_)
                obtain ⟨r', h3, h4⟩ := h1.keys [(pc', i', c')] rfl
                have := (h3.det hx).1
                omega
              · refine .inl (fun c' => ?_)
                obtain ⟨r', h3, h4⟩ := h1.keys [(pc', i', c')] rfl
                cases r' with
                | none => exact ⟨a, h3⟩
                | some x => cases h4)
          refine ⟨f + 1, sn', ?_⟩
          simp only [Go.Proofs.Qxb6500283aGreat.dfs]
          rw [if_neg (by rw [hq]; decide), if_neg (by rw [hm]; decide)]
          exact hf
/-- The search, its count left out. -/
def ExR (p : List In) (str : ByteArray) (S : List Sst) (r : Option ((Nat → Int) × Nat)) : Prop := ∃ n, Ex p str n S r
theorem ExR.dfs {S : List Sst} {r : Option ((Nat → Int) × Nat)} (h : ExR p str S r) : ∃ f sn', Go.Proofs.Qxb6500283aGreat.dfs p str f S (fun _ _ => false) = some (r, sn') := by
  obtain ⟨n, h⟩ := h
  exact Ex.dfs n S _ r h (fun i pc hq => by cases hq)
theorem ExR.nil : ExR p str [] none := ⟨0, .nil⟩
theorem ExR.go {pc i : Nat} {c : Nat → Int} {S : List Sst} {r : Option ((Nat → Int) × Nat)} (hm : isM p pc = false) (h : ExR p str (succ p str pc i c ++ S) r) : ExR p str ((pc, i, c) :: S) r := by
  obtain ⟨n, h⟩ := h
  exact ⟨n + 1, .go hm h⟩
theorem ExR.split {A B : List Sst} {r : Option ((Nat → Int) × Nat)} (h : ExR p str (A ++ B) r) : (∃ x, r = some x ∧ ExR p str A r) ∨ (ExR p str A none ∧ ExR p str B r) := by
  obtain ⟨n, h⟩ := h
  rcases h.split rfl with ⟨x, e, h1⟩ | ⟨a, b, _, h1, h2⟩
  · exact .inl ⟨x, e, n, h1⟩
  · exact .inr ⟨⟨a, h1⟩, b, h2⟩
theorem ExR.app {A B : List Sst} {r : Option ((Nat → Int) × Nat)} (h1 : ExR p str A none) (h2 : ExR p str B r) : ExR p str (A ++ B) r := by
  obtain ⟨n, h1⟩ := h1
  obtain ⟨m, h2⟩ := h2
  exact ⟨n + m, h1.app_none rfl h2⟩
theorem ExR.hit {A B : List Sst} {x : (Nat → Int) × Nat} (h1 : ExR p str A (some x)) : ExR p str (A ++ B) (some x) := by
  obtain ⟨n, h1⟩ := h1
  exact ⟨n, h1.app_some rfl⟩
/-- A part may be put in another's place. -/
theorem ExR.under {A B B' : List Sst} {r : Option ((Nat → Int) × Nat)} (h : ExR p str (A ++ B) r) (hB : ∀ r, ExR p str B r → ExR p str B' r) : ExR p str (A ++ B') r := by
  rcases h.split with ⟨x, rfl, h1⟩ | ⟨h1, h2⟩
  · exact h1.hit
  · exact h1.app (hB r h2)
theorem ExR.front {A A' B : List Sst} {r : Option ((Nat → Int) × Nat)} (h : ExR p str (A ++ B) r) (hA : ∀ r, ExR p str A r → ExR p str A' r) : ExR p str (A' ++ B) r := by
  rcases h.split with ⟨x, rfl, h1⟩ | ⟨h1, h2⟩
  · exact (hA _ h1).hit
  · exact (hA _ h1).app h2
theorem ExR.dead {pc i : Nat} {c c' : Nat → Int} (h : ExR p str [(pc, i, c)] none) : ExR p str [(pc, i, c')] none := by
  obtain ⟨n, h⟩ := h
  obtain ⟨r', h3, h4⟩ := h.keys [(pc, i, c')] rfl
  cases r' with
  | none => exact ⟨n, h3⟩
  | some x => cases h4
end
end Go.Proofs.Qxb6500283aGreat
