/- The heap's plain side: the collector's steps and its end. -/
import Derived.Test.Qxb6500277aGreatK2
namespace Go.Proofs.Qxb6500277aGreat
open Go Go.RowKit

section
variable {m0 m : Nat → Int} {b to e s f : Nat} {os l : List Int}
theorem Col.start {m0 : Nat → Int} {b to e : Nat} {os : List Int} (hr : Row m0 b e os) (hh : e ≤ b + 48 ∧ (to + 48 ≤ b ∨ b + 48 ≤ to)) (hc : ∀ a ∈ os, ∀ y ∈ rfO m0 a, y = -1 ∨ y ∈ os) : Col m0 b to e os [] 0 0 m0 :=
  ⟨hr, hh, hc, .inr ⟨rfl, rfl⟩, by simp, by simp, fun k hk => (by cases hk), fun _ _ _ _ => rfl, fun k hk => (by cases hk), fun k hk => (by cases hk), fun k hk => (by cases hk)⟩
/-- What move meets. -/
theorem Col.mv (h : Col m0 b to e os l s f m) {x : Int} (hx : x = -1 ∨ x ∈ os) :
    (x = -1 ∧ noteL l x = l ∧ nwA m0 to l x = -1) ∨
    (0 ≤ x ∧ b ≤ x.toNat ∧ x.toNat < b + 48 ∧ m x.toNat < 0 ∧ noteL l x = l ∧ x ∈ l ∧ -1 - m x.toNat = nwA m0 to l x) ∨
    (0 ≤ x ∧ x ∈ os ∧ x ∉ l ∧ b ≤ x.toNat ∧ x.toNat + wdO m0 x.toNat ≤ b + 48 ∧ m x.toNat = m0 x.toNat ∧ 0 ≤ m x.toNat ∧ noteL l x = l ++ [x] ∧ adr m0 to l l.length + wdO m0 x.toNat ≤ to + 48 ∧ nwA m0 to (l ++ [x]) x = adr m0 to l l.length ∧ adr m0 to (l ++ [x]) (l ++ [x]).length = adr m0 to l l.length + wdO m0 x.toNat) := by
  rcases hx with rfl | hx
  · exact .inl ⟨rfl, by simp [noteL], by simp [nwA]⟩
  have hr := h.row.mem hx
  have hi := h.inold hx
  have hw := wdO_pos m0 x.toNat
  by_cases hm : x ∈ l
  · obtain ⟨k, hk, h1, h2⟩ := fnd_mem hm
    have h3 := h.fwd k hk
    rw [h2] at h3
    refine .inr (.inl ⟨hr.1, by omega, by omega, by rw [h3]; omega, by simp [noteL, hm], hm, ?_⟩)
    rw [h3]
    unfold nwA
    rw [if_neg (by omega), h1]
    simp only [Int.toNat_natCast]
    omega
  · have ho := h.old x.toNat (by omega) (by omega) (by rw [hi.2.2]; exact hm)
    have hfn : fnd (l ++ [x]) x = l.length := fnd_hit (i := l.length) (by simp) (by rw [List.getElem_append_right (Nat.le_refl _)]; simp) (fun j hj hlt e => hm (by rw [List.getElem_append_left hlt] at e; exact e ▸ List.getElem_mem hlt))
    refine .inr (.inr ⟨hr.1, hx, hm, by omega, by omega, ho, by rw [ho]; exact hr.2.2.2, by simp [noteL, hm, hr.1], h.fit1 hx hm, ?_, ?_⟩)
    · unfold nwA
      rw [if_neg (by omega), hfn]
      simp only [Int.toNat_natCast]
      rw [adr_pre (List.prefix_append _ _) (Nat.le_refl _)]
    · rw [adr_len, adr_len, wdL_app]
      simp [wdL]
      omega
/-- A field of copy s is done. -/
theorem Col.store (h : Col m0 b to e os l s f m) (hs : s < l.length) (hf : f < nrO m0 l[s].toNat) (hx : m0 (l[s].toNat + 1 + f) = -1 ∨ m0 (l[s].toNat + 1 + f) ∈ l) :
    Col m0 b to e os l s (f + 1) (fun o => if o = adr m0 to l s + 1 + f then nwA m0 to l (m0 (l[s].toNat + 1 + f)) else m o) := by
  have hsp := h.space hs
  have hge : to ≤ adr m0 to l s := adr_ge
  have hw : wdO m0 l[s].toNat = 1 + nrO m0 l[s].toNat + niO m0 l[s].toNat := rfl
  have hh := h.half
  -- another copy
  have oth : ∀ k (hk : k < l.length), k ≠ s → ∀ o, adr m0 to l k ≤ o → o < adr m0 to l k + wdO m0 l[k].toNat → (if o = adr m0 to l s + 1 + f then nwA m0 to l (m0 (l[s].toNat + 1 + f)) else m o) = m o := by
    intro k hk hne o h1 h2
    rw [if_neg]
    rcases Nat.lt_or_gt_of_ne hne with h3 | h3
    · have := adr_lt (m := m0) (to := to) hk h3; omega
    · have := adr_lt (m := m0) (to := to) hs h3; omega
  refine ⟨h.row, h.half, h.cl, .inl hs, h.nd, h.sub, ?_, ?_, ?_, ?_, ?_⟩
  · intro k hk
    have h1 := h.inold (h.sub _ (List.getElem_mem hk))
    have := wdO_pos m0 l[k].toNat
    rw [if_neg (by omega)]
    exact h.fwd k hk
  · intro o h1 h2 h3
    rw [if_neg (by omega)]
    exact h.old o h1 h2 h3
  · intro k hk
    by_cases hks : k = s
    · subst hks
      rw [if_neg (by omega)]
      exact h.hdr k hk
    · rw [oth k hk hks _ (Nat.le_refl _) (by have := wdO_pos m0 l[k].toNat; omega)]
      exact h.hdr k hk
  · intro k hk j hj
    by_cases hks : k = s
    · subst hks
      rw [if_neg (by omega)]
      exact h.int k hk j hj
    · rw [oth k hk hks _ (by omega) (by unfold wdO; omega)]
      exact h.int k hk j hj
  · intro k hk j hj
    by_cases hks : k = s
    · subst hks
      by_cases hjf : j = f
      · subst hjf
        simp only [if_true]
        exact .inl ⟨.inr ⟨by simp, by omega⟩, by simp, hx⟩
      · rw [if_neg (by omega)]
        rcases h.ref k hk j hj with ⟨h1, h2⟩ | ⟨h1, h2⟩
        · exact .inl ⟨h1.imp id (fun h => ⟨h.1, by omega⟩), h2⟩
        · exact .inr ⟨fun hh => h1 (hh.imp id (fun h => ⟨h.1, by omega⟩)), h2⟩
    · rw [oth k hk hks _ (by omega) (by unfold wdO; omega)]
      rcases h.ref k hk j hj with ⟨h1, h2⟩ | ⟨h1, h2⟩
      · exact .inl ⟨by omega, h2⟩
      · exact .inr ⟨by omega, h2⟩
theorem Col.next (h : Col m0 b to e os l s f m) (hs : s < l.length) (hf : nrO m0 l[s].toNat ≤ f) : Col m0 b to e os l (s + 1) 0 m := by
  refine ⟨h.row, h.half, h.cl, by omega, h.nd, h.sub, h.fwd, h.old, h.hdr, h.int, fun k hk j hj => ?_⟩
  rcases h.ref k hk j hj with ⟨h1, h2⟩ | ⟨h1, h2⟩
  · exact .inl ⟨by omega, h2⟩
  · by_cases hks : k = s
    · subst hks
      exact absurd (.inr ⟨rfl, by omega⟩) h1
    · exact .inr ⟨by omega, h2⟩
/-- What scan meets at copy s. -/
theorem Col.at (h : Col m0 b to e os l s f m) (hs : s < l.length) : 0 ≤ m (adr m0 to l s) ∧ nrO m (adr m0 to l s) = nrO m0 l[s].toNat ∧ wdO m (adr m0 to l s) = wdO m0 l[s].toNat := by
  have h1 := h.hdr s hs
  have h2 := h.row.mem (h.sub _ (List.getElem_mem hs))
  refine ⟨by rw [h1]; exact h2.2.2.2, ?_, ?_⟩
  · unfold nrO; rw [h1]
  · unfold wdO nrO niO; rw [h1]
theorem Col.fld (h : Col m0 b to e os l s f m) (hs : s < l.length) (hf : f < nrO m0 l[s].toNat) : m (adr m0 to l s + 1 + f) = m0 (l[s].toNat + 1 + f) ∧ (m0 (l[s].toNat + 1 + f) = -1 ∨ m0 (l[s].toNat + 1 + f) ∈ os) := by
  constructor
  · rcases h.ref s hs f hf with ⟨h1, _⟩ | ⟨_, h2⟩
    · omega
    · exact h2
  · refine h.cl l[s] (h.sub _ (List.getElem_mem hs)) _ ?_
    unfold rfO
    exact List.mem_map.2 ⟨f, List.mem_range.2 hf, rfl⟩
/-- The copies in their row. -/
def adrs (m0 : Nat → Int) (to : Nat) (l : List Int) (n : Nat) : List Int := (List.range n).map fun k => (adr m0 to l k : Int)
theorem Col.rowN (h : Col m0 b to e os l s f m) : ∀ n, n ≤ l.length → Row m to (adr m0 to l n) (adrs m0 to l n)
  | 0, _ => by
    have : adr m0 to l 0 = to := by simp [adr, wdL]
    rw [this]; exact .nil _
  | n + 1, hn => by
    have ih := Col.rowN h n (by omega)
    have hd := h.hdr n (by omega)
    have h2 := h.row.mem (h.sub _ (List.getElem_mem (show n < l.length by omega)))
    have hw : wdO m (adr m0 to l n) = wdO m0 l[n].toNat := by unfold wdO nrO niO; rw [hd]
    have := ih.snoc (by rw [hd]; exact h2.2.2.2)
    rw [hw, ← adr_succ (show n < l.length by omega)] at this
    unfold adrs at this ⊢
    rw [List.range_succ, List.map_append]
    exact this
theorem Col.rfN (h : Col m0 b to e os l l.length 0 m) {k : Nat} (hk : k < l.length) : rfO m (adr m0 to l k : Nat) = (rfO m0 l[k]).map (nwA m0 to l) ∧ ∀ y ∈ rfO m0 l[k], y = -1 ∨ y ∈ l := by
  have hd := h.hdr k hk
  have hn : nrO m (adr m0 to l k) = nrO m0 l[k].toNat := by unfold nrO; rw [hd]
  constructor
  · unfold rfO
    simp only [Int.toNat_natCast, hn, List.map_map]
    refine List.map_congr_left fun j hj => ?_
    rcases h.ref k hk j (List.mem_range.1 hj) with ⟨_, h2, _⟩ | ⟨h1, _⟩
    · exact h2
    · exact absurd (.inl hk) h1
  · intro y hy
    unfold rfO at hy
    obtain ⟨j, hj, rfl⟩ := List.mem_map.1 hy
    rcases h.ref k hk j (List.mem_range.1 hj) with ⟨_, _, h2⟩ | ⟨h1, _⟩
    · exact h2
    · exact absurd (.inl hk) h1
theorem Col.itN (h : Col m0 b to e os l l.length 0 m) {k : Nat} (hk : k < l.length) : itO m (adr m0 to l k : Nat) = itO m0 l[k] := by
  have hd := h.hdr k hk
  have hn : nrO m (adr m0 to l k) = nrO m0 l[k].toNat := by unfold nrO; rw [hd]
  have hi : niO m (adr m0 to l k) = niO m0 l[k].toNat := by unfold niO; rw [hd]
  unfold itO
  simp only [Int.toNat_natCast, hn, hi]
  exact List.map_congr_left fun j hj => h.int k hk j (List.mem_range.1 hj)
end
end Go.Proofs.Qxb6500277aGreat
