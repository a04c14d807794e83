/- The heap's plain side: the order of the live objects. -/
import Derived.Test.Qxb6500277aGreatBase
namespace Go.Proofs.Qxb6500277aGreat
open Go Go.RowKit

/-- x is listed at its first sight; none is not listed. -/
def noteL (l : List Int) (x : Int) : List Int := if 0 ≤ x ∧ x ∉ l then l ++ [x] else l
def fnd : List Int → Int → Int
  | [], _ => -1
  | y :: r, x => if y = x then 0 else if fnd r x < 0 then -1 else fnd r x + 1
theorem fnd_ge (l : List Int) (x : Int) : -1 ≤ fnd l x := by
  induction l with
  | nil => simp [fnd]
  | cons y r ih =>
    simp only [fnd]
    split
    · omega
    · split <;> omega
theorem fnd_miss {l : List Int} {x : Int} (h : x ∉ l) : fnd l x = -1 := by
  induction l with
  | nil => rfl
  | cons y r ih =>
    simp only [List.mem_cons, not_or] at h
    have h2 := ih h.2
    simp [fnd, h2, Ne.symm h.1]
theorem fnd_hit {l : List Int} {x : Int} {i : Nat} (h : i < l.length) (e : l[i] = x) (n : ∀ j (hj : j < l.length), j < i → l[j] ≠ x) : fnd l x = i := by
  induction l generalizing i with
  | nil => cases h
  | cons y r ih =>
    cases i with
    | zero => simp at e; simp [fnd, e]
    | succ i =>
      have h0 := n 0 (by simp) (by omega)
      simp only [List.getElem_cons_zero] at h0
      have hi := ih (i := i) (by simpa using h) (by simpa using e) (fun j hj hl => by have := n (j + 1) (by simp; omega) (by omega); rw [List.getElem_cons_succ] at this; exact this)
      simp only [fnd, if_neg h0, hi]
      rw [if_neg (by omega)]
      omega
theorem fnd_at {l : List Int} (hn : l.Nodup) {i : Nat} (h : i < l.length) : fnd l l[i] = i :=
  fnd_hit h rfl (fun j hj hl e => by
    have := (List.getElem_inj hn).1 e
    omega)
theorem fnd_mem {l : List Int} {x : Int} (h : x ∈ l) : ∃ i, ∃ hi : i < l.length, fnd l x = i ∧ l[i] = x := by
  induction l with
  | nil => cases h
  | cons y r ih =>
    by_cases e : y = x
    · exact ⟨0, by simp, by simp [fnd, e], by simp [e]⟩
    · have hr : x ∈ r := by rcases List.mem_cons.1 h with h | h; exact absurd h.symm e; exact h
      obtain ⟨i, hi, h1, h2⟩ := ih hr
      exact ⟨i + 1, by simpa using hi, by simp only [fnd, if_neg e, h1]; rw [if_neg (by omega)]; omega, by simpa using h2⟩
theorem noteL_sub (l : List Int) (x : Int) : l <+: noteL l x := by
  unfold noteL; split
  · exact List.prefix_append _ _
  · exact List.prefix_refl _
theorem noteL_nodup {l : List Int} (h : l.Nodup) (x : Int) : (noteL l x).Nodup := by
  unfold noteL; split
  · next hx => exact List.nodup_append.2 ⟨h, by simp, fun a ha b hb => by simp at hb; subst hb; exact fun e => hx.2 (e ▸ ha)⟩
  · exact h
theorem noteL_mem {l : List Int} {x y : Int} : y ∈ noteL l x ↔ y ∈ l ∨ (y = x ∧ 0 ≤ x) := by
  unfold noteL; split
  · next hx => simp [hx.1]
  · next hx =>
    constructor
    · exact .inl
    · rintro (h | ⟨rfl, h0⟩)
      · exact h
      · by_cases hm : y ∈ l
        · exact hm
        · exact absurd ⟨h0, hm⟩ hx
theorem notes_sub (xs : List Int) : ∀ l : List Int, l <+: xs.foldl noteL l := by
  induction xs with
  | nil => exact fun l => List.prefix_refl _
  | cons x r ih => exact fun l => (noteL_sub l x).trans (ih _)
theorem notes_nodup (xs : List Int) : ∀ {l : List Int}, l.Nodup → (xs.foldl noteL l).Nodup := by
  induction xs with
  | nil => exact fun h => h
  | cons x r ih => exact fun h => ih (noteL_nodup h x)
theorem notes_mem (xs : List Int) : ∀ {l : List Int} {y : Int}, y ∈ xs.foldl noteL l ↔ y ∈ l ∨ (y ∈ xs ∧ 0 ≤ y) := by
  induction xs with
  | nil => simp
  | cons x r ih =>
    intro l y
    rw [List.foldl_cons, ih, noteL_mem]
    constructor
    · rintro ((h | ⟨rfl, h⟩) | h)
      · exact .inl h
      · exact .inr ⟨by simp, h⟩
      · exact .inr ⟨by simp [h.1], h.2⟩
    · rintro (h | ⟨h, h0⟩)
      · exact .inl (.inl h)
      · rcases List.mem_cons.1 h with rfl | h
        · exact .inl (.inr ⟨rfl, h0⟩)
        · exact .inr ⟨h, h0⟩
/-- Going through the list while it grows. -/
def scanF (R : Int → List Int) : Nat → Nat → List Int → List Int
  | 0, _, l => l
  | n + 1, k, l => if h : k < l.length then scanF R n (k + 1) ((R l[k]).foldl noteL l) else l
def orderF (roots : List Int) (R : Int → List Int) : List Int := scanF R 100 0 (roots.foldl noteL [])
theorem scanF_end {R : Int → List Int} {n k : Nat} {l : List Int} (h : l.length ≤ k) : scanF R n k l = l := by
  cases n with
  | zero => rfl
  | succ n => simp only [scanF]; rw [dif_neg (by omega)]
theorem scanF_step {R : Int → List Int} {n k : Nat} {l : List Int} (h : k < l.length) : scanF R (n + 1) k l = scanF R n (k + 1) ((R l[k]).foldl noteL l) := by
  simp only [scanF]; rw [dif_pos h]
theorem scanF_sub {R : Int → List Int} : ∀ (n k : Nat) (l : List Int), l <+: scanF R n k l
  | 0, _, l => List.prefix_refl _
  | n + 1, k, l => by
    simp only [scanF]; split
    · exact (notes_sub _ l).trans (scanF_sub n _ _)
    · exact List.prefix_refl _
theorem scanF_nodup {R : Int → List Int} : ∀ (n k : Nat) {l : List Int}, l.Nodup → (scanF R n k l).Nodup
  | 0, _, _, h => h
  | n + 1, k, l, h => by
    simp only [scanF]; split
    · exact scanF_nodup n _ (notes_nodup _ h)
    · exact h
/-- Whatever holds of the roots and goes down the fields holds of all that is listed. -/
theorem scanF_all {R : Int → List Int} {U : Int → Prop} (hR : ∀ x, U x → ∀ y ∈ R x, 0 ≤ y → U y) : ∀ (n k : Nat) {l : List Int}, (∀ x ∈ l, U x) → ∀ x ∈ scanF R n k l, U x
  | 0, _, _, h => h
  | n + 1, k, l, h => by
    simp only [scanF]; split
    · next hk =>
      refine scanF_all hR n _ fun x hx => ?_
      rcases (notes_mem _).1 hx with hx | ⟨hx, h0⟩
      · exact h x hx
      · exact hR _ (h _ (List.getElem_mem hk)) x hx h0
    · exact h
theorem nodup_len {α : Type} [DecidableEq α] {l m : List α} (hn : l.Nodup) (hs : ∀ x ∈ l, x ∈ m) : l.length ≤ m.length := by
  induction l generalizing m with
  | nil => simp
  | cons a r ih =>
    have ha := hs a (by simp)
    have hr := ih (m := m.erase a) (List.nodup_cons.1 hn).2 (fun x hx => by
      have hne : x ≠ a := fun e => (List.nodup_cons.1 hn).1 (e ▸ hx)
      exact (List.mem_erase_of_ne hne).2 (hs x (by simp [hx])))
    have hl := List.length_erase_of_mem ha
    have : 0 < m.length := List.length_pos_of_mem ha
    simp only [List.length_cons]
    omega
theorem nodup_sum {α : Type} [DecidableEq α] (w : α → Nat) {l m : List α} (hn : l.Nodup) (hs : ∀ x ∈ l, x ∈ m) : (l.map w).sum ≤ (m.map w).sum := by
  induction l generalizing m with
  | nil => simp
  | cons a r ih =>
    have ha := hs a (by simp)
    have hr := ih (m := m.erase a) (List.nodup_cons.1 hn).2 (fun x hx => by
      have hne : x ≠ a := fun e => (List.nodup_cons.1 hn).1 (e ▸ hx)
      exact (List.mem_erase_of_ne hne).2 (hs x (by simp [hx])))
    have hp : (m.map w).sum = w a + ((m.erase a).map w).sum := by
      have := ((List.perm_cons_erase ha).map w).sum_nat
      simpa using this
    simp only [List.map_cons, List.sum_cons]
    omega
/-- All that is listed has been gone through, if the list cannot be longer than the rounds. -/
theorem scanF_closed {R : Int → List Int} {m : List Int} : ∀ (n k : Nat) {l : List Int}, m.length ≤ n + k → l.Nodup → (∀ x, x ∈ scanF R n k l → x ∈ m) → (∀ i (hi : i < l.length), i < k → ∀ y ∈ R l[i], 0 ≤ y → y ∈ l) → ∀ x ∈ scanF R n k l, ∀ y ∈ R x, 0 ≤ y → y ∈ scanF R n k l
  | 0, k, l, hm, hn, hs, hd => fun x hx y hy h0 => by
    obtain ⟨i, hi, rfl⟩ := List.getElem_of_mem hx
    have := nodup_len hn hs
    simp only [scanF] at hi hy ⊢
    exact hd i hi (by omega) y hy h0
  | n + 1, k, l, hm, hn, hs, hd => by
    by_cases hk : k < l.length
    · rw [scanF_step hk] at hs ⊢
      refine scanF_closed n (k + 1) (by omega) (notes_nodup _ hn) hs fun i hi hik y hy h0 => ?_
      obtain ⟨t, ht⟩ := notes_sub (R l[k]) l
      have hlt : i < l.length := by omega
      have e : ((R l[k]).foldl noteL l)[i] = l[i] := by
        simp only [← ht, List.getElem_append_left hlt]
      rw [e] at hy
      rw [notes_mem]
      by_cases hik2 : i = k
      · subst hik2; exact .inr ⟨hy, h0⟩
      · exact .inl (hd i hlt (by omega) y hy h0)
    · rw [scanF_end (by omega)] at hs ⊢
      intro x hx y hy h0
      obtain ⟨i, hi, rfl⟩ := List.getElem_of_mem hx
      exact hd i hi (by omega) y hy h0

/-- Two lists, cell by cell. -/
inductive L2 (V : Int → Int → Prop) : List Int → List Int → Prop
  | nil : L2 V [] []
  | cons {a b : Int} {l m : List Int} : V a b → L2 V l m → L2 V (a :: l) (b :: m)
theorem L2.len {V : Int → Int → Prop} {l m : List Int} (h : L2 V l m) : l.length = m.length := by
  induction h with
  | nil => rfl
  | cons _ _ ih => simp [ih]
theorem L2.get {V : Int → Int → Prop} {l m : List Int} (h : L2 V l m) : ∀ (i : Nat) (h1 : i < l.length) (h2 : i < m.length), V l[i] m[i] := by
  induction h with
  | nil => intro i h1; cases h1
  | cons hv _ ih => intro i h1 h2; cases i with
    | zero => exact hv
    | succ i => exact ih i (by simpa using h1) (by simpa using h2)
theorem L2.of {V : Int → Int → Prop} : ∀ {l m : List Int}, l.length = m.length → (∀ (i : Nat) (h1 : i < l.length) (h2 : i < m.length), V l[i] m[i]) → L2 V l m
  | [], [], _, _ => .nil
  | a :: l, b :: m, hl, h => .cons (h 0 (by simp) (by simp)) (.of (by simpa using hl) (fun i h1 h2 => h (i + 1) (by simpa using h1) (by simpa using h2)))
theorem L2.app {V : Int → Int → Prop} {l m l' m' : List Int} (h : L2 V l m) (h' : L2 V l' m') : L2 V (l ++ l') (m ++ m') := by
  induction h with
  | nil => exact h'
  | cons hv _ ih => exact .cons hv ih
theorem L2.imp {V V' : Int → Int → Prop} {l m : List Int} (h : L2 V l m) (hi : ∀ a ∈ l, ∀ b, V a b → V' a b) : L2 V' l m := by
  induction h with
  | nil => exact .nil
  | cons hv _ ih => exact .cons (hi _ (by simp) _ hv) (ih (fun a ha => hi a (by simp [ha])))
/-- One object for one object. -/
structure Pair (P : Int → Int → Prop) : Prop where
  pos : ∀ a i, P a i → 0 ≤ a ∧ 0 ≤ i
  one : ∀ a i b j, P a i → P b j → (a = b ↔ i = j)
def VV (P : Int → Int → Prop) (a i : Int) : Prop := (a = -1 ∧ i = -1) ∨ P a i
theorem L2.mem {P : Int → Int → Prop} (hP : Pair P) {l m : List Int} (h : L2 P l m) {a i : Int} (hv : P a i) : a ∈ l ↔ i ∈ m := by
  induction h with
  | nil => simp
  | cons hc _ ih => simp only [List.mem_cons, ih, hP.one _ _ _ _ hv hc]
theorem L2.note {P : Int → Int → Prop} (hP : Pair P) {l m : List Int} (h : L2 P l m) {a i : Int} (hv : VV P a i) : L2 P (noteL l a) (noteL m i) := by
  rcases hv with ⟨rfl, rfl⟩ | hv
  · simpa [noteL] using h
  · have hm := h.mem hP hv
    have hp := hP.pos a i hv
    by_cases ha : a ∈ l
    · have hi := hm.1 ha
      simpa [noteL, ha, hi] using h
    · have hi : i ∉ m := fun h => ha (hm.2 h)
      simp only [noteL, ha, hi, hp.1, hp.2, not_false_eq_true, and_self, if_true]
      exact h.app (.cons hv .nil)
theorem L2.notes {P : Int → Int → Prop} (hP : Pair P) {xs ys : List Int} (hx : L2 (VV P) xs ys) : ∀ {l m : List Int}, L2 P l m → L2 P (xs.foldl noteL l) (ys.foldl noteL m) := by
  induction hx with
  | nil => exact fun h => h
  | cons hv _ ih => exact fun h => ih (h.note hP hv)
theorem L2.fnd {P : Int → Int → Prop} (hP : Pair P) {l m : List Int} (h : L2 P l m) {a i : Int} (hv : VV P a i) : fnd l a = fnd m i := by
  rcases hv with ⟨rfl, rfl⟩ | hv
  · have h1 : (-1 : Int) ∉ l ∧ (-1 : Int) ∉ m := by
      induction h with
      | nil => simp
      | cons hv _ ih =>
        have := hP.pos _ _ hv
        simp only [List.mem_cons, not_or]
        exact ⟨⟨by omega, ih.1⟩, ⟨by omega, ih.2⟩⟩
    rw [fnd_miss h1.1, fnd_miss h1.2]
  · induction h with
    | nil => rfl
    | cons hc _ ih =>
      have := hP.one _ _ _ _ hc hv
      simp only [Go.Proofs.Qxb6500277aGreat.fnd, this, ih]
end Go.Proofs.Qxb6500277aGreat
