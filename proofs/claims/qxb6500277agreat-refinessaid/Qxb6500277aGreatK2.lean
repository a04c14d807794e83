/- The heap's plain side: the row of objects, the collector. -/
import Derived.Test.Qxb6500277aGreatK1
namespace Go.Proofs.Qxb6500277aGreat
open Go Go.RowKit

def nrO (m : Nat → Int) (a : Nat) : Nat := (m a).toNat / 49
def niO (m : Nat → Int) (a : Nat) : Nat := (m a).toNat % 49
def wdO (m : Nat → Int) (a : Nat) : Nat := 1 + nrO m a + niO m a
def rfO (m : Nat → Int) (a : Int) : List Int := (List.range (nrO m a.toNat)).map fun f => m (a.toNat + 1 + f)
def itO (m : Nat → Int) (a : Int) : List Int := (List.range (niO m a.toNat)).map fun f => m (a.toNat + 1 + nrO m a.toNat + f)
/-- A row of whole objects from a to e. -/
inductive Row (m : Nat → Int) : Nat → Nat → List Int → Prop
  | nil (a : Nat) : Row m a a []
  | cons {a e : Nat} {os : List Int} : 0 ≤ m a → Row m (a + wdO m a) e os → Row m a e ((a : Int) :: os)
section
variable {m m' : Nat → Int} {a e : Nat} {os : List Int}
theorem wdO_pos (m : Nat → Int) (a : Nat) : 0 < wdO m a := by unfold wdO; omega
theorem Row.le (h : Row m a e os) : a ≤ e := by
  induction h with
  | nil => omega
  | cons _ _ ih => omega
theorem Row.mem (h : Row m a e os) {x : Int} (hx : x ∈ os) : 0 ≤ x ∧ a ≤ x.toNat ∧ x.toNat + wdO m x.toNat ≤ e ∧ 0 ≤ m x.toNat := by
  induction h with
  | nil => cases hx
  | cons h0 hr ih =>
    rcases List.mem_cons.1 hx with rfl | hx
    · have := hr.le
      simp only [Int.toNat_natCast]
      exact ⟨by omega, by omega, by omega, h0⟩
    · have := ih hx
      exact ⟨this.1, by omega, this.2.2⟩
theorem Row.apart (h : Row m a e os) {x y : Int} (hx : x ∈ os) (hy : y ∈ os) (hn : x ≠ y) : x.toNat + wdO m x.toNat ≤ y.toNat ∨ y.toNat + wdO m y.toNat ≤ x.toNat := by
  induction h with
  | nil => cases hx
  | cons h0 hr ih =>
    rcases List.mem_cons.1 hx with rfl | hx
    · rcases List.mem_cons.1 hy with rfl | hy
      · exact absurd rfl hn
      · have := hr.mem hy
        simp only [Int.toNat_natCast]
        omega
    · rcases List.mem_cons.1 hy with rfl | hy
      · have := hr.mem hx
        simp only [Int.toNat_natCast]
        omega
      · exact ih hx hy
theorem Row.nodup (h : Row m a e os) : os.Nodup := by
  induction h with
  | nil => simp
  | @cons a e os h0 hr ih =>
    refine List.nodup_cons.2 ⟨fun hx => ?_, ih⟩
    have := hr.mem hx
    simp only [Int.toNat_natCast] at this
    have := wdO_pos m a
    omega
def wdL (m : Nat → Int) (l : List Int) : Nat := (l.map fun x => wdO m x.toNat).sum
theorem Row.sum (h : Row m a e os) : a + wdL m os = e := by
  induction h with
  | nil => simp [wdL]
  | cons h0 hr ih => simp only [wdL, List.map_cons, List.sum_cons, Int.toNat_natCast] at ih ⊢; omega
theorem Row.frame (h : Row m a e os) (hm : ∀ o, a ≤ o → o < e → m' o = m o) : Row m' a e os := by
  induction h with
  | nil => exact .nil _
  | @cons a e os h0 hr ih =>
    have hl := hr.le
    have hp := wdO_pos m a
    have e0 := hm a (Nat.le_refl _) (by omega)
    have ew : wdO m' a = wdO m a := by simp [wdO, nrO, niO, e0]
    refine .cons (by rw [e0]; exact h0) ?_
    rw [ew]
    exact ih fun o h1 h2 => hm o (by omega) h2
theorem Row.snoc {b : Nat} (h : Row m a b os) (h0 : 0 ≤ m b) : Row m a (b + wdO m b) (os ++ [(b : Int)]) := by
  induction h with
  | nil => exact .cons h0 (.nil _)
  | cons h1 hr ih => exact .cons h1 (ih h0)
end
theorem wdL_app (m : Nat → Int) (l l' : List Int) : wdL m (l ++ l') = wdL m l + wdL m l' := by simp [wdL]
theorem wdL_take_succ (m : Nat → Int) {l : List Int} {k : Nat} (h : k < l.length) : wdL m (l.take (k + 1)) = wdL m (l.take k) + wdO m l[k].toNat := by
  rw [List.take_succ_eq_append_getElem h, wdL_app]
  simp [wdL]
theorem wdL_take_le (m : Nat → Int) {l : List Int} {k j : Nat} (h : k ≤ j) : wdL m (l.take k) ≤ wdL m (l.take j) := by
  have : l.take k = (l.take j).take k := by rw [List.take_take]; congr 1; omega
  rw [this]
  have := wdL_app m ((l.take j).take k) ((l.take j).drop k)
  rw [List.take_append_drop] at this
  omega
/-- Where the copy of the k-th listed object lies. -/
def adr (m : Nat → Int) (to : Nat) (l : List Int) (k : Nat) : Nat := to + wdL m (l.take k)
section
variable {m : Nat → Int} {to : Nat} {l l' : List Int}
theorem adr_succ {k : Nat} (h : k < l.length) : adr m to l (k + 1) = adr m to l k + wdO m l[k].toNat := by
  unfold adr; rw [wdL_take_succ m h]; omega
theorem adr_le {k j : Nat} (h : k ≤ j) : adr m to l k ≤ adr m to l j := by
  unfold adr; have := wdL_take_le m (l := l) h; omega
theorem adr_pre (h : l <+: l') {k : Nat} (hk : k ≤ l.length) : adr m to l' k = adr m to l k := by
  obtain ⟨t, rfl⟩ := h
  unfold adr
  rw [List.take_append_of_le_length hk]
theorem adr_len : adr m to l l.length = to + wdL m l := by unfold adr; rw [List.take_length]
theorem adr_ge {k : Nat} : to ≤ adr m to l k := by unfold adr; omega
theorem adr_lt {k j : Nat} (hk : k < l.length) (h : k < j) : adr m to l k + wdO m l[k].toNat ≤ adr m to l j := by
  rw [← adr_succ hk]; exact adr_le h
end
/-- The new address of what x was. -/
def nwA (m : Nat → Int) (to : Nat) (l : List Int) (x : Int) : Int := if x < 0 then -1 else adr m to l (fnd l x).toNat
theorem fnd_pre {l l' : List Int} (h : l <+: l') {x : Int} (hx : x ∈ l) : fnd l' x = fnd l x := by
  obtain ⟨t, rfl⟩ := h
  induction l with
  | nil => cases hx
  | cons y r ih =>
    by_cases e : y = x
    · simp [fnd, e]
    · have hr : x ∈ r := by rcases List.mem_cons.1 hx with h | h; exact absurd h.symm e; exact h
      simp only [List.cons_append, fnd, if_neg e, ih hr]
theorem nwA_pre {m : Nat → Int} {to : Nat} {l l' : List Int} (h : l <+: l') {x : Int} (hx : x ∈ l) : nwA m to l' x = nwA m to l x := by
  unfold nwA
  rw [fnd_pre h hx]
  split
  · rfl
  · obtain ⟨i, hi, h1, h2⟩ := fnd_mem hx
    rw [h1]
    simp only [Int.toNat_natCast]
    rw [adr_pre h (by omega)]
/-- The collector at work: l is what has been moved; of the copies the first s are done, and of copy s the first f ref fields. -/
structure Col (m0 : Nat → Int) (b to e : Nat) (os l : List Int) (s f : Nat) (m : Nat → Int) : Prop where
  row : Row m0 b e os
  half : e ≤ b + 48 ∧ (to + 48 ≤ b ∨ b + 48 ≤ to)
  cl : ∀ a ∈ os, ∀ y ∈ rfO m0 a, y = -1 ∨ y ∈ os
  sl : s < l.length ∨ (s = l.length ∧ f = 0)
  nd : l.Nodup
  sub : ∀ x ∈ l, x ∈ os
  fwd : ∀ k (hk : k < l.length), m l[k].toNat = -1 - adr m0 to l k
  old : ∀ x : Nat, b ≤ x → x < b + 48 → (x : Int) ∉ l → m x = m0 x
  hdr : ∀ k (hk : k < l.length), m (adr m0 to l k) = m0 l[k].toNat
  int : ∀ k (hk : k < l.length), ∀ j, j < niO m0 l[k].toNat → m (adr m0 to l k + 1 + nrO m0 l[k].toNat + j) = m0 (l[k].toNat + 1 + nrO m0 l[k].toNat + j)
  ref : ∀ k (hk : k < l.length), ∀ j, j < nrO m0 l[k].toNat → ((k < s ∨ (k = s ∧ j < f)) ∧ m (adr m0 to l k + 1 + j) = nwA m0 to l (m0 (l[k].toNat + 1 + j)) ∧ (m0 (l[k].toNat + 1 + j) = -1 ∨ m0 (l[k].toNat + 1 + j) ∈ l)) ∨ (¬ (k < s ∨ (k = s ∧ j < f)) ∧ m (adr m0 to l k + 1 + j) = m0 (l[k].toNat + 1 + j))
section
variable {m0 m : Nat → Int} {b to e s f : Nat} {os l : List Int}
theorem Col.fit (h : Col m0 b to e os l s f m) : adr m0 to l l.length ≤ to + 48 := by
  rw [adr_len]
  have h1 := nodup_sum (fun x : Int => wdO m0 x.toNat) h.nd h.sub
  have h2 := h.row.sum
  have h3 := h.half
  unfold wdL at h2 ⊢
  omega
theorem Col.fit1 (h : Col m0 b to e os l s f m) {x : Int} (hx : x ∈ os) (hn : x ∉ l) : adr m0 to l l.length + wdO m0 x.toNat ≤ to + 48 := by
  rw [adr_len]
  have h1 := nodup_sum (fun x : Int => wdO m0 x.toNat) (l := l ++ [x]) (m := os) (List.nodup_append.2 ⟨h.nd, by simp, fun a ha c hc => by simp at hc; subst hc; exact fun e => hn (e ▸ ha)⟩) (fun y hy => by
    rcases List.mem_append.1 hy with hy | hy
    · exact h.sub y hy
    · simp at hy; exact hy ▸ hx)
  have h2 := h.row.sum
  have h3 := h.half
  unfold wdL at h2 ⊢
  simp only [List.map_append, List.map_cons, List.map_nil, List.sum_append, List.sum_cons, List.sum_nil] at h1
  omega
theorem Col.space (h : Col m0 b to e os l s f m) {k : Nat} (hk : k < l.length) : adr m0 to l k + wdO m0 l[k].toNat ≤ to + 48 :=
  Nat.le_trans (adr_lt hk hk) h.fit
theorem Col.inold (h : Col m0 b to e os l s f m) {x : Int} (hx : x ∈ os) : b ≤ x.toNat ∧ x.toNat + wdO m0 x.toNat ≤ b + 48 ∧ (x.toNat : Int) = x := by
  have := h.row.mem hx
  have := h.half
  omega
/-- An object is copied. -/
def cpy (m : Nat → Int) (a to n : Nat) : Nat → Int := fun o => if to ≤ o ∧ o < to + n then m (a + (o - to)) else m o
theorem Col.add (h : Col m0 b to e os l s f m) {x : Int} (hx : x ∈ os) (hn : x ∉ l) :
    Col m0 b to e os (l ++ [x]) s f (fun o => if o = x.toNat then -1 - (adr m0 to l l.length : Int) else cpy m x.toNat (adr m0 to l l.length) (wdO m0 x.toNat) o) := by
  have hp : l <+: l ++ [x] := List.prefix_append _ _
  have hL : (l ++ [x]).length = l.length + 1 := by simp
  have hfit := h.fit1 hx hn
  have hio := h.inold hx
  have hhalf := h.half
  have hge : to ≤ adr m0 to l l.length := adr_ge
  have hxl : ∀ k (hk : k < l.length), (l ++ [x])[k]'(by omega) = l[k] := fun k hk => List.getElem_append_left hk
  have hxn : (l ++ [x])[l.length]'(by omega) = x := by rw [List.getElem_append_right (Nat.le_refl _)]; simp
  have ha : ∀ k, k ≤ l.length → adr m0 to (l ++ [x]) k = adr m0 to l k := fun k hk => adr_pre hp hk
  -- a word of an old copy is left alone
  have keep : ∀ k (hk : k < l.length) o, adr m0 to l k ≤ o → o < adr m0 to l k + wdO m0 l[k].toNat → (if o = x.toNat then -1 - (adr m0 to l l.length : Int) else cpy m x.toNat (adr m0 to l l.length) (wdO m0 x.toNat) o) = m o := by
    intro k hk o h1 h2
    have h3 : adr m0 to l k + wdO m0 l[k].toNat ≤ adr m0 to l l.length := adr_lt hk hk
    have h4 : to ≤ adr m0 to l k := adr_ge
    have h5 := wdO_pos m0 x.toNat
    rw [if_neg (by omega)]
    unfold cpy
    rw [if_neg (by omega)]
  -- a word of the new copy
  have here : ∀ j, j < wdO m0 x.toNat → (if adr m0 to l l.length + j = x.toNat then -1 - (adr m0 to l l.length : Int) else cpy m x.toNat (adr m0 to l l.length) (wdO m0 x.toNat) (adr m0 to l l.length + j)) = m (x.toNat + j) := by
    intro j hj
    rw [if_neg (by omega)]
    unfold cpy
    rw [if_pos (by omega)]
    congr 1
    omega
  have oldw : ∀ j, j < wdO m0 x.toNat → m (x.toNat + j) = m0 (x.toNat + j) := by
    intro j hj
    refine h.old _ (by omega) (by omega) (fun hm => ?_)
    have hmo := h.sub _ hm
    by_cases he : ((x.toNat + j : Nat) : Int) = x
    · exact hn (he ▸ hm)
    · have := h.row.apart hmo hx he
      have := wdO_pos m0 ((x.toNat + j : Nat) : Int).toNat
      simp only [Int.toNat_natCast] at *
      omega
  refine ⟨h.row, h.half, h.cl, ?_, List.nodup_append.2 ⟨h.nd, by simp, fun a hal c hc => by simp at hc; subst hc; exact fun e => hn (e ▸ hal)⟩, ?_, ?_, ?_, ?_, ?_, ?_⟩
  · have := h.sl; omega
  · intro y hy
    rcases List.mem_append.1 hy with hy | hy
    · exact h.sub y hy
    · simp at hy; exact hy ▸ hx
  · intro k hk
    by_cases hk2 : k < l.length
    · rw [hxl k hk2, ha k (by omega), ← h.fwd k hk2]
      have h1 := h.inold (h.sub _ (List.getElem_mem hk2))
      have h2 := wdO_pos m0 l[k].toNat
      have h3 : l[k] ≠ x := fun e => hn (e ▸ List.getElem_mem hk2)
      have h4 := wdO_pos m0 x.toNat
      rw [if_neg (by omega)]
      unfold cpy
      rw [if_neg (by omega)]
    · have : k = l.length := by omega
      subst this
      rw [hxn, ha _ (Nat.le_refl _), if_pos rfl]
  · intro o h1 h2 h3
    have h4 : (o : Int) ∉ l := fun hm => h3 (by simp [hm])
    have h5 : (o : Int) ≠ x := fun e => h3 (by simp [e])
    have h6 := wdO_pos m0 x.toNat
    rw [if_neg (by omega)]
    unfold cpy
    rw [if_neg (by omega)]
    exact h.old o h1 h2 h4
  · intro k hk
    by_cases hk2 : k < l.length
    · rw [hxl k hk2, ha k (by omega), ← h.hdr k hk2]
      exact keep k hk2 _ (Nat.le_refl _) (by have := wdO_pos m0 l[k].toNat; omega)
    · have : k = l.length := by omega
      subst this
      rw [hxn, ha _ (Nat.le_refl _)]
      have h1 := here 0 (wdO_pos _ _)
      have h2 := oldw 0 (wdO_pos _ _)
      simp only [Nat.add_zero] at h1 h2
      exact h1.trans h2
  · intro k hk j hj
    by_cases hk2 : k < l.length
    · simp only [hxl k hk2] at hj ⊢
      rw [ha k (by omega), ← h.int k hk2 j hj]
      exact keep k hk2 _ (by omega) (by unfold wdO; omega)
    · have : k = l.length := by omega
      subst this
      simp only [hxn] at hj ⊢
      rw [ha _ (Nat.le_refl _)]
      have hj2 : 1 + nrO m0 x.toNat + j < wdO m0 x.toNat := by unfold wdO; omega
      have h1 := here _ hj2
      have h2 := oldw _ hj2
      simp only [← Nat.add_assoc] at h1 h2
      exact h1.trans h2
  · intro k hk j hj
    by_cases hk2 : k < l.length
    · simp only [hxl k hk2] at hj ⊢
      rw [ha k (by omega)]
      have hkp := keep k hk2 (adr m0 to l k + 1 + j) (by omega) (by unfold wdO; omega)
      rw [hkp]
      rcases h.ref k hk2 j hj with ⟨h1, h2, h3⟩ | h1
      · refine .inl ⟨h1, ?_, h3.imp id (fun hm => by simp [hm])⟩
        rw [h2]
        rcases h3 with h3 | h3
        · simp [nwA, h3]
        · exact (nwA_pre hp h3).symm
      · exact .inr h1
    · have : k = l.length := by omega
      subst this
      simp only [hxn] at hj ⊢
      rw [ha _ (Nat.le_refl _)]
      have hj2 : 1 + j < wdO m0 x.toNat := by unfold wdO; omega
      have h1 := here _ hj2
      have h2 := oldw _ hj2
      simp only [← Nat.add_assoc] at h1 h2
      have h3 := h.sl
      exact .inr ⟨by omega, h1.trans h2⟩
end
end Go.Proofs.Qxb6500277aGreat
