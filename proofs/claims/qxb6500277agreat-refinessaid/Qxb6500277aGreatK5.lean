/- The heap's plain side: both heaps, what their commands do. -/
import Derived.Test.Qxb6500277aGreatK4
namespace Go.Proofs.Qxb6500277aGreat
open Go Go.RowKit

/-- The real heap. -/
structure HS where
  mem : Nat → Int
  base : Nat
  free : Nat
  roots : Nat → Int
  top : Nat
  turns : Int
def HS.gh (S : HS) : Gh := ⟨(List.range S.top).map S.roots, rfO S.mem, itO S.mem⟩
structure HInv (S : HS) (os : List Int) : Prop where
  base : S.base = 0 ∨ S.base = 48
  row : Row S.mem S.base S.free os
  le : S.free ≤ S.base + 48
  top : S.top ≤ 24
  rts : ∀ i, i < S.top → S.roots i = -1 ∨ S.roots i ∈ os
  cl : ∀ a ∈ os, ∀ y ∈ rfO S.mem a, y = -1 ∨ y ∈ os
/-- The model. -/
structure MS where
  objs : List (List Int × List Int)
  rt : List Int
def rfM (os : List (List Int × List Int)) (i : Int) : List Int := ((os[i.toNat]?).map (·.1)).getD []
def itM (os : List (List Int × List Int)) (i : Int) : List Int := ((os[i.toNat]?).map (·.2)).getD []
def MS.gh (M : MS) : Gh := ⟨M.rt, rfM M.objs, itM M.objs⟩
def InM (n : Nat) (x : Int) : Prop := x = -1 ∨ (0 ≤ x ∧ x < n)
structure MInv (M : MS) : Prop where
  rts : ∀ x ∈ M.rt, InM M.objs.length x
  cl : ∀ o ∈ M.objs, ∀ y ∈ o.1, InM M.objs.length y
  len : M.objs.length ≤ 48
  sz : ∀ o ∈ M.objs, o.1.length ≤ 48 ∧ o.2.length ≤ 48
/-- Both show the same. -/
structure Rel (S : HS) (M : MS) : Prop where
  all : ∃ P os, HInv S os ∧ Sim P S.gh M.gh ∧ ∀ a i, P a i → a ∈ os ∧ i < M.objs.length
  mi : MInv M
theorem Rel.len {S : HS} {M : MS} (h : Rel S M) : M.rt.length = S.top := by
  obtain ⟨P, os, hI, hs, _⟩ := h.all
  have := hs.rt.len
  simp [HS.gh, MS.gh] at this
  exact this.symm
theorem Rel.top {S : HS} {M : MS} (h : Rel S M) : S.top ≤ 24 := by
  obtain ⟨P, os, hI, hs, _⟩ := h.all
  exact hI.top

def hPush (S : HS) (x : Int) : HS := { S with roots := upd S.roots S.top x, top := S.top + 1 }
def pushN (S : HS) : Int × HS := if 24 ≤ S.top then (3, S) else (0, hPush S (-1))
def pushM (M : MS) : Int × MS := if 24 ≤ M.rt.length then (3, M) else (0, { M with rt := M.rt ++ [-1] })
def popN (S : HS) (n : Int) : Int × HS := if n < 0 ∨ S.top < n then (1, S) else (0, { S with top := S.top - n.toNat })
def popM (M : MS) (n : Int) : Int × MS := if n < 0 ∨ M.rt.length < n then (1, M) else if n = M.rt.length then (0, ⟨[], []⟩) else (0, { M with rt := M.rt.take (M.rt.length - n.toNat) })
def slideN (S : HS) (n : Int) : Int × HS := if n < 0 ∨ S.top ≤ n then (1, S) else (0, { S with roots := upd S.roots (S.top - 1 - n.toNat) (S.roots (S.top - 1)), top := S.top - n.toNat })
def slideM (M : MS) (n : Int) : Int × MS := if n < 0 ∨ M.rt.length ≤ n then (1, M) else (0, { M with rt := (M.rt.take (M.rt.length - n.toNat)).set (M.rt.length - n.toNat - 1) (M.rt[M.rt.length - 1]?.getD 0) })
def dupN (S : HS) (i : Int) : Int × HS := if i < 0 ∨ S.top ≤ i then (2, S) else if 24 ≤ S.top then (3, S) else (0, hPush S (S.roots i.toNat))
def dupM (M : MS) (i : Int) : Int × MS := if i < 0 ∨ M.rt.length ≤ i then (2, M) else if 24 ≤ M.rt.length then (3, M) else (0, { M with rt := M.rt ++ [M.rt[i.toNat]?.getD 0] })
def setN (S : HS) (i : Int) : Int × HS := if i < 0 ∨ (S.top : Int) - 1 ≤ i then (2, S) else (0, { S with roots := upd S.roots i.toNat (S.roots (S.top - 1)), top := S.top - 1 })
def setM (M : MS) (i : Int) : Int × MS := if i < 0 ∨ (M.rt.length : Int) - 1 ≤ i then (2, M) else (0, { M with rt := (M.rt.set i.toNat (M.rt[M.rt.length - 1]?.getD 0)).take (M.rt.length - 1) })

section
variable {S : HS} {M : MS}
theorem rt_get {S : HS} {k : Nat} (h : k < S.gh.rt.length) : S.gh.rt[k] = S.roots k := by simp [HS.gh]
theorem rt_len (S : HS) : S.gh.rt.length = S.top := by simp [HS.gh]
/-- Only the slots turn. -/
theorem Rel.slots {S' : HS} {M' : MS} (h : Rel S M) (e1 : S'.mem = S.mem) (e2 : S'.base = S.base) (e3 : S'.free = S.free) (eo : M'.objs = M.objs) (ht : S'.top ≤ 24) (hl : M'.rt.length = S'.top)
    (hc : ∀ k (hk : k < M'.rt.length), (S'.roots k = -1 ∧ M'.rt[k] = -1) ∨ ∃ j, ∃ hj : j < M.rt.length, S'.roots k = S.roots j ∧ M'.rt[k] = M.rt[j]) : Rel S' M' := by
  obtain ⟨⟨P, os, hI, hs, hd⟩, mi⟩ := h
  have hL : M.rt.length = S.top := by have := hs.rt.len; simp [HS.gh, MS.gh] at this; exact this.symm
  have hVV : ∀ j (hj : j < M.rt.length), VV P (S.roots j) M.rt[j] := fun j hj => by
    have := hs.rt.get j (by simp [HS.gh]; omega) (by exact hj)
    rw [rt_get] at this
    exact this
  refine ⟨⟨P, os, ⟨by rw [e2]; exact hI.base, by rw [e1, e2, e3]; exact hI.row, by rw [e2, e3]; exact hI.le, ht, ?_, by rw [e1]; exact hI.cl⟩, ⟨hs.pr, ?_, ?_⟩, by rw [eo]; exact hd⟩, ⟨?_, by rw [eo]; exact mi.cl, by rw [eo]; exact mi.len, by rw [eo]; exact mi.sz⟩⟩
  · intro k hk
    rcases hc k (by omega) with ⟨h1, _⟩ | ⟨j, hj, h1, _⟩
    · exact .inl h1
    · rw [h1]; exact hI.rts j (by omega)
  · refine L2.of (by rw [rt_len]; exact hl.symm) fun k h1 h2 => ?_
    rw [rt_get]
    rcases hc k h2 with ⟨h3, h4⟩ | ⟨j, hj, h3, h4⟩
    · exact .inl ⟨h3, h4⟩
    · have := hVV j hj
      rw [h3]
      show VV P (S.roots j) (M'.rt[k])
      rw [h4]
      exact this
  · intro a i hp
    have := hs.fl a i hp
    simp only [HS.gh, MS.gh, e1, eo] at this ⊢
    exact this
  · intro x hx
    obtain ⟨k, hk, rfl⟩ := List.getElem_of_mem hx
    rw [eo]
    rcases hc k hk with ⟨_, h2⟩ | ⟨j, hj, _, h2⟩
    · exact .inl h2
    · rw [h2]; exact mi.rts _ (List.getElem_mem hj)
theorem Rel.push (h : Rel S M) : (pushN S).1 = (pushM M).1 ∧ Rel (pushN S).2 (pushM M).2 := by
  have hL := h.len
  unfold pushN pushM
  rw [hL]
  by_cases ht : 24 ≤ S.top
  · simp only [ht, if_true]; exact ⟨trivial, h⟩
  · simp only [ht, if_false, true_and]
    refine h.slots (S' := hPush S (-1)) (M' := { M with rt := M.rt ++ [-1] }) rfl rfl rfl rfl (by simp only [hPush]; omega) (by simp [hPush, hL]) fun k hk => ?_
    simp only [hPush, List.length_append, List.length_singleton, upd] at hk ⊢
    by_cases hk2 : k < M.rt.length
    · rw [if_neg (by omega), List.getElem_append_left hk2]
      exact .inr ⟨k, hk2, rfl, rfl⟩
    · have : k = M.rt.length := by omega
      subst this
      rw [if_pos hL, List.getElem_append_right (Nat.le_refl _)]
      exact .inl ⟨rfl, by simp⟩
theorem Rel.dup (h : Rel S M) (i : Int) : (dupN S i).1 = (dupM M i).1 ∧ Rel (dupN S i).2 (dupM M i).2 := by
  have hL := h.len
  unfold dupN dupM
  rw [hL]
  by_cases hi : i < 0 ∨ (S.top : Int) ≤ i
  · simp only [hi, if_true]; exact ⟨trivial, h⟩
  simp only [hi, if_false]
  by_cases ht : 24 ≤ S.top
  · simp only [ht, if_true]; exact ⟨trivial, h⟩
  · simp only [ht, if_false, true_and]
    refine h.slots (S' := hPush S (S.roots i.toNat)) (M' := { M with rt := M.rt ++ [M.rt[i.toNat]?.getD 0] }) rfl rfl rfl rfl (by simp only [hPush]; omega) (by simp [hPush, hL]) fun k hk => ?_
    simp only [hPush, List.length_append, List.length_singleton, upd] at hk ⊢
    by_cases hk2 : k < M.rt.length
    · rw [if_neg (by omega), List.getElem_append_left hk2]
      exact .inr ⟨k, hk2, rfl, rfl⟩
    · have : k = M.rt.length := by omega
      subst this
      rw [if_pos hL, List.getElem_append_right (Nat.le_refl _)]
      have hi2 : i.toNat < M.rt.length := by omega
      exact .inr ⟨i.toNat, hi2, rfl, by simp [List.getElem?_eq_getElem hi2]⟩
theorem Rel.pop (h : Rel S M) (n : Int) : (popN S n).1 = (popM M n).1 ∧ Rel (popN S n).2 (popM M n).2 := by
  have hL := h.len
  unfold popN popM
  rw [hL]
  by_cases hn : n < 0 ∨ (S.top : Int) < n
  · simp only [hn, if_true]; exact ⟨trivial, h⟩
  simp only [hn, if_false]
  by_cases hz : n = S.top
  · simp only [hz, if_true, true_and, Int.toNat_natCast, Nat.sub_self]
    obtain ⟨⟨P, os, hI, hs, hd⟩, mi⟩ := h
    refine ⟨⟨fun _ _ => False, os, ⟨hI.base, hI.row, hI.le, by simp, fun i hi => by simp at hi, hI.cl⟩, ⟨⟨fun _ _ h => h.elim, fun _ _ _ _ h => h.elim⟩, ?_, fun _ _ h => h.elim⟩, fun _ _ h => h.elim⟩, ⟨by simp, by simp, by simp, by simp⟩⟩
    simp only [HS.gh, MS.gh, List.range_zero, List.map_nil]
    exact .nil
  · simp only [hz, if_false, true_and]
    refine h.slots (S' := { S with top := S.top - n.toNat }) (M' := { M with rt := M.rt.take (S.top - n.toNat) }) rfl rfl rfl rfl (by have := h.top; simp only; omega) (by simp; omega) fun k hk => ?_
    simp only [List.length_take] at hk ⊢
    exact .inr ⟨k, by omega, rfl, by simp⟩
theorem Rel.slide (h : Rel S M) (n : Int) : (slideN S n).1 = (slideM M n).1 ∧ Rel (slideN S n).2 (slideM M n).2 := by
  have hL := h.len
  unfold slideN slideM
  rw [hL]
  by_cases hn : n < 0 ∨ (S.top : Int) ≤ n
  · simp only [hn, if_true]; exact ⟨trivial, h⟩
  simp only [hn, if_false, true_and]
  refine h.slots (S' := { S with roots := upd S.roots (S.top - 1 - n.toNat) (S.roots (S.top - 1)), top := S.top - n.toNat }) (M' := { M with rt := (M.rt.take (S.top - n.toNat)).set (S.top - n.toNat - 1) (M.rt[S.top - 1]?.getD 0) }) rfl rfl rfl rfl (by have := h.top; simp only; omega) (by simp; omega) fun k hk => ?_
  simp only [List.length_set, List.length_take] at hk
  simp only [upd, List.getElem_set, List.getElem_take]
  by_cases hk2 : k = S.top - n.toNat - 1
  · rw [if_pos (by omega), if_pos (by omega)]
    have hi2 : S.top - 1 < M.rt.length := by omega
    exact .inr ⟨S.top - 1, hi2, rfl, by simp [List.getElem?_eq_getElem hi2]⟩
  · rw [if_neg (by omega), if_neg (by omega)]
    exact .inr ⟨k, by omega, rfl, rfl⟩
theorem Rel.set (h : Rel S M) (i : Int) : (setN S i).1 = (setM M i).1 ∧ Rel (setN S i).2 (setM M i).2 := by
  have hL := h.len
  unfold setN setM
  rw [hL]
  by_cases hi : i < 0 ∨ (S.top : Int) - 1 ≤ i
  · simp only [hi, if_true]; exact ⟨trivial, h⟩
  simp only [hi, if_false, true_and]
  refine h.slots (S' := { S with roots := upd S.roots i.toNat (S.roots (S.top - 1)), top := S.top - 1 }) (M' := { M with rt := (M.rt.set i.toNat (M.rt[S.top - 1]?.getD 0)).take (S.top - 1) }) rfl rfl rfl rfl (by have := h.top; simp only; omega) (by simp; omega) fun k hk => ?_
  simp only [List.length_set, List.length_take] at hk
  simp only [upd, List.getElem_set, List.getElem_take]
  by_cases hk2 : k = i.toNat
  · rw [if_pos (by omega), if_pos (by omega)]
    have hi2 : S.top - 1 < M.rt.length := by omega
    exact .inr ⟨S.top - 1, hi2, rfl, by simp [List.getElem?_eq_getElem hi2]⟩
  · rw [if_neg (by omega), if_neg (by omega)]
    exact .inr ⟨k, by omega, rfl, rfl⟩
end
end Go.Proofs.Qxb6500277aGreat
