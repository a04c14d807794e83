/- The heap's plain side: Alloc. -/
import Derived.Test.Qxb6500277aGreatK7
namespace Go.Proofs.Qxb6500277aGreat
open Go Go.RowKit

def bornM (m : Nat → Int) (a p q : Nat) : Nat → Int := fun o => if o = a then ((p * 49 + q : Nat) : Int) else if a < o ∧ o ≤ a + p then -1 else if a + p < o ∧ o ≤ a + p + q then 0 else m o
def born (S : HS) (p q : Nat) : HS := { S with mem := bornM S.mem S.free p q, free := S.free + (1 + p + q), roots := upd S.roots S.top (S.free : Int), top := S.top + 1 }
def bornG (M : MS) (p q : Nat) : MS := ⟨M.objs ++ [(List.replicate p (-1), List.replicate q 0)], M.rt ++ [(M.objs.length : Int)]⟩
def allocM (M : MS) (p q : Int) : Int × MS := if p < 0 ∨ q < 0 then (1, M) else if 24 ≤ M.rt.length then (3, M) else if 48 < p ∨ 48 < q ∨ 48 < (M.gh.live : Int) + 1 + p + q then (6, M) else (0, bornG (tidyM M) p.toNat q.toNat)
inductive AllocR (S : HS) (p q : Int) : Int → HS → Prop
  | neg : p < 0 ∨ q < 0 → AllocR S p q 1 S
  | full : 0 ≤ p → 0 ≤ q → 24 ≤ S.top → AllocR S p q 3 S
  | big : 0 ≤ p → 0 ≤ q → S.top < 24 → 48 < p ∨ 48 < q → AllocR S p q 6 S
  | fits : 0 ≤ p → 0 ≤ q → S.top < 24 → p ≤ 48 → q ≤ 48 → (1 : Int) + p + q ≤ (S.base : Int) + 48 - S.free → AllocR S p q 0 (born S p.toNat q.toNat)
  | coll {S1 : HS} : 0 ≤ p → 0 ≤ q → S.top < 24 → p ≤ 48 → q ≤ 48 → (S.base : Int) + 48 - S.free < 1 + p + q → Coll S S1 → (1 : Int) + p + q ≤ (S1.base : Int) + 48 - S1.free → AllocR S p q 0 (born S1 p.toNat q.toNat)
  | no {S1 : HS} : 0 ≤ p → 0 ≤ q → S.top < 24 → p ≤ 48 → q ≤ 48 → (S.base : Int) + 48 - S.free < 1 + p + q → Coll S S1 → (S1.base : Int) + 48 - S1.free < 1 + p + q → AllocR S p q 6 S1
theorem bornM_lt {m : Nat → Int} {a p q o : Nat} (h : o < a) : bornM m a p q o = m o := by
  unfold bornM; rw [if_neg (by omega), if_neg (by omega), if_neg (by omega)]
theorem born_at (m : Nat → Int) (a : Nat) {p q : Nat} (hq : q ≤ 48) : nrO (bornM m a p q) a = p ∧ niO (bornM m a p q) a = q := by
  unfold nrO niO bornM
  simp only [if_true, Int.toNat_natCast]
  omega
theorem born_new (m : Nat → Int) (a : Nat) {p q : Nat} (hq : q ≤ 48) : rfO (bornM m a p q) (a : Nat) = List.replicate p (-1) ∧ itO (bornM m a p q) (a : Nat) = List.replicate q 0 := by
  obtain ⟨h1, h2⟩ := born_at m a (p := p) hq
  constructor
  · refine List.ext_getElem (by simp [rfO_len, h1]) fun j j1 j2 => ?_
    simp only [rfO_len, Int.toNat_natCast, h1] at j1
    rw [rfO_get, List.getElem_replicate]
    simp only [Int.toNat_natCast]
    unfold bornM
    rw [if_neg (by omega), if_pos (by omega)]
  · refine List.ext_getElem (by simp [itO_len, h2]) fun j j1 j2 => ?_
    simp only [itO_len, Int.toNat_natCast, h2] at j1
    rw [itO_get, List.getElem_replicate]
    simp only [Int.toNat_natCast, h1]
    unfold bornM
    rw [if_neg (by omega), if_neg (by omega), if_pos (by omega)]
theorem born_old {m : Nat → Int} {b e : Nat} {os : List Int} (h : Row m b e os) (p q : Nat) {c : Int} (hc : c ∈ os) : rfO (bornM m e p q) c = rfO m c ∧ itO (bornM m e p q) c = itO m c := by
  have hm := h.mem hc
  have hw : wdO m c.toNat = 1 + nrO m c.toNat + niO m c.toNat := rfl
  have h0 : bornM m e p q c.toNat = m c.toNat := bornM_lt (by omega)
  have hn : nrO (bornM m e p q) c.toNat = nrO m c.toNat := by unfold nrO; rw [h0]
  have hi : niO (bornM m e p q) c.toNat = niO m c.toNat := by unfold niO; rw [h0]
  constructor
  · refine List.ext_getElem (by rw [rfO_len, rfO_len, hn]) fun j j1 j2 => ?_
    rw [rfO_len] at j2
    rw [rfO_get, rfO_get, bornM_lt (by omega)]
  · refine List.ext_getElem (by rw [itO_len, itO_len, hi]) fun j j1 j2 => ?_
    rw [itO_len] at j2
    rw [itO_get, itO_get, hn, bornM_lt (by omega)]
theorem HInv.born {S : HS} {os : List Int} (hI : HInv S os) {p q : Nat} (ht : S.top < 24) (hq : q ≤ 48) (hf : S.free + (1 + p + q) ≤ S.base + 48) : HInv (born S p q) (os ++ [(S.free : Int)]) := by
  obtain ⟨h1, h2⟩ := born_at S.mem S.free (p := p) hq
  have hrow : Row (bornM S.mem S.free p q) S.base S.free os := hI.row.frame fun o _ h => bornM_lt h
  have h0 : 0 ≤ bornM S.mem S.free p q S.free := by unfold bornM; rw [if_pos rfl]; omega
  have hsn := hrow.snoc h0
  have hwd : wdO (bornM S.mem S.free p q) S.free = 1 + p + q := by unfold wdO; rw [h1, h2]
  rw [hwd] at hsn
  refine ⟨hI.base, hsn, hf, ht, ?_, ?_⟩
  · intro i hi
    simp only [Go.Proofs.Qxb6500277aGreat.born] at hi ⊢
    simp only [upd]
    by_cases hit : i = S.top
    · rw [if_pos hit]; exact .inr (by simp)
    · rw [if_neg hit]; exact (hI.rts i (by omega)).imp id (fun h => by simp [h])
  · intro a ha y hy
    simp only [Go.Proofs.Qxb6500277aGreat.born] at hy
    rcases List.mem_append.1 ha with ha | ha
    · rw [(born_old hI.row p q ha).1] at hy
      exact (hI.cl a ha y hy).imp id (fun h => by simp [h])
    · simp at ha
      subst ha
      rw [(born_new S.mem S.free hq).1] at hy
      exact .inl (List.eq_of_mem_replicate hy)
theorem MInv.born {M : MS} (mi : MInv M) {p q : Nat} (hp : p ≤ 48) (hq : q ≤ 48) (hl : M.objs.length < 48) : MInv (bornG M p q) := by
  have up : ∀ x, InM M.objs.length x → InM (M.objs.length + 1) x := fun x h => h.imp id (fun h => by omega)
  refine ⟨fun x hx => ?_, fun o ho y hy => ?_, by simp [bornG]; omega, fun o ho => ?_⟩
  · simp only [bornG, List.length_append, List.length_singleton] at hx ⊢
    rcases List.mem_append.1 hx with hx | hx
    · exact up x (mi.rts x hx)
    · simp at hx; exact .inr (by omega)
  · simp only [bornG, List.length_append, List.length_singleton] at ho ⊢
    rcases List.mem_append.1 ho with ho | ho
    · exact up y (mi.cl o ho y hy)
    · simp at ho
      subst ho
      exact .inl (List.eq_of_mem_replicate hy)
  · simp only [bornG] at ho
    rcases List.mem_append.1 ho with ho | ho
    · exact mi.sz o ho
    · simp at ho
      subst ho
      simp; omega
theorem rfM_app {os : List (List Int × List Int)} {o : List Int × List Int} {i : Int} (h : i.toNat < os.length) : rfM (os ++ [o]) i = rfM os i ∧ itM (os ++ [o]) i = itM os i := by
  simp only [rfM, itM, List.getElem?_append_left h, and_self]
theorem rfM_new {os : List (List Int × List Int)} {o : List Int × List Int} : rfM (os ++ [o]) (os.length : Nat) = o.1 ∧ itM (os ++ [o]) (os.length : Nat) = o.2 := by
  simp [rfM, itM]
theorem Rel.born {S : HS} {M : MS} {p q : Nat} {os : List Int} {P : Int → Int → Prop} (hI : HInv S os) (hs : Sim P S.gh M.gh) (hd : ∀ a i, P a i → a ∈ os ∧ i < M.objs.length) (mi : MInv M) (ht : S.top < 24) (hp : p ≤ 48) (hq : q ≤ 48) (hf : S.free + (1 + p + q) ≤ S.base + 48) (hl : M.objs.length < 48) : Rel (born S p q) (bornG M p q) := by
  have hL : M.rt.length = S.top := by have := hs.rt.len; simp [HS.gh, MS.gh] at this; exact this.symm
  have hos : ∀ a ∈ os, a < S.free := fun a ha => by have := hI.row.mem ha; have := wdO_pos S.mem a.toNat; omega
  have up : ∀ a i, VV P a i → VV (fun a i => P a i ∨ (a = S.free ∧ i = M.objs.length)) a i := fun a i h => h.imp id .inl
  refine ⟨⟨fun a i => P a i ∨ (a = S.free ∧ i = M.objs.length), os ++ [(S.free : Int)], hI.born ht hq hf, ⟨⟨?_, ?_⟩, ?_, ?_⟩, ?_⟩, mi.born hp hq hl⟩
  · rintro a i (h | ⟨rfl, rfl⟩)
    · exact hs.pr.pos a i h
    · exact ⟨by omega, by omega⟩
  · rintro a i b j (h1 | ⟨rfl, rfl⟩) (h2 | ⟨rfl, rfl⟩)
    · exact hs.pr.one a i b j h1 h2
    · have := hd a i h1
      have := hos a this.1
      constructor <;> intro h <;> omega
    · have := hd b j h2
      have := hos b this.1
      constructor <;> intro h <;> omega
    · simp
  · have : (Go.Proofs.Qxb6500277aGreat.born S p q).gh.rt = S.gh.rt ++ [(S.free : Int)] := by
      simp only [Go.Proofs.Qxb6500277aGreat.born, HS.gh, List.range_succ, List.map_append, List.map_cons, List.map_nil]
      congr 1
      · refine List.map_congr_left fun i hi => ?_
        have := List.mem_range.1 hi
        simp only [upd]
        rw [if_neg (by omega)]
      · simp [upd]
    rw [this]
    exact (hs.rt.imp' up).app (.cons (.inr (.inr ⟨rfl, rfl⟩)) .nil)
  · rintro a i (h | ⟨rfl, rfl⟩)
    · obtain ⟨h1, h2⟩ := hd a i h
      have h0 := (hs.pr.pos a i h).2
      have hfl := hs.fl a i h
      simp only [Go.Proofs.Qxb6500277aGreat.born, bornG, HS.gh, MS.gh] at hfl ⊢
      have hil : i.toNat < M.objs.length := by omega
      rw [(born_old hI.row p q h1).1, (born_old hI.row p q h1).2, (rfM_app hil).1, (rfM_app hil).2]
      exact ⟨hfl.1.imp' up, hfl.2⟩
    · simp only [Go.Proofs.Qxb6500277aGreat.born, bornG, HS.gh, MS.gh]
      rw [(born_new S.mem S.free hq).1, (born_new S.mem S.free hq).2, rfM_new.1, rfM_new.2]
      exact ⟨L2.of (by simp) (fun i h1 h2 => by simp only [List.getElem_replicate]; exact .inl ⟨rfl, rfl⟩), rfl⟩
  · rintro a i (h | ⟨rfl, rfl⟩)
    · obtain ⟨h1, h2⟩ := hd a i h
      exact ⟨by simp [h1], by simp [bornG]; omega⟩
    · exact ⟨by simp, by simp [bornG]; omega⟩
theorem live_len (g : Gh) : g.ord.length ≤ g.live := by
  unfold Gh.live
  generalize g.ord = l
  induction l with
  | nil => simp
  | cons a r ih => simp only [List.map_cons, List.sum_cons, List.length_cons]; omega
/-- A collection is not seen. -/
theorem Coll.rel {S S1 : HS} {M : MS} (hc : Coll S S1) (h : Rel S M) : Rel S1 M := by
  obtain ⟨⟨P, os, hI, hs, hd⟩, mi⟩ := h
  obtain ⟨os1, hI1, hs1, hm1, _⟩ := hc.sim
  refine ⟨⟨_, os1, hI1, hs1.flip.comp hs, ?_⟩, mi⟩
  rintro b i ⟨a, h1, h2⟩
  exact ⟨hm1 a b h1, (hd a i h2).2⟩
theorem tidy_rel {S : HS} {M : MS} (h : Rel S M) : Rel S (tidyM M) ∧ (tidyM M).objs.length ≤ S.gh.live := by
  obtain ⟨⟨P, os, hI, hs, hd⟩, mi⟩ := h
  obtain ⟨h1, h2, h3⟩ := tidied mi
  refine ⟨⟨⟨_, os, hI, hs.comp h2, ?_⟩, h1⟩, by rw [h3, hs.live]; exact live_len _⟩
  rintro a k ⟨i, h4, j, hj, rfl, rfl⟩
  exact ⟨(hd _ _ h4).1, by simp only; omega⟩
theorem Rel.live {S : HS} {M : MS} (h : Rel S M) : S.gh.live = M.gh.live := by
  obtain ⟨⟨P, os, hI, hs, hd⟩, mi⟩ := h
  exact hs.live
theorem Rel.within {S : HS} {M : MS} (h : Rel S M) : S.base + S.gh.live ≤ S.free ∧ S.free ≤ S.base + 48 := by
  obtain ⟨⟨P, os, hI, hs, hd⟩, mi⟩ := h
  exact ⟨hI.live, hI.le⟩
theorem Rel.birth {S : HS} {M : MS} (h : Rel S M) {p q : Nat} (ht : S.top < 24) (hp : p ≤ 48) (hq : q ≤ 48) (hf : S.free + (1 + p + q) ≤ S.base + 48) : Rel (Go.Proofs.Qxb6500277aGreat.born S p q) (bornG (tidyM M) p q) := by
  obtain ⟨h1, h2⟩ := tidy_rel h
  have := h.within
  obtain ⟨⟨P, os, hI, hs, hd⟩, mi⟩ := h1
  exact Rel.born hI hs hd mi ht hp hq hf (by omega)
theorem Rel.alloc {S S' : HS} {M : MS} {p q er : Int} (h : Rel S M) (ha : AllocR S p q er S') : er = (allocM M p q).1 ∧ Rel S' (allocM M p q).2 := by
  have hL := h.len
  have hv := h.live
  have hw := h.within
  unfold allocM
  rw [hL, ← hv]
  cases ha with
  | neg h1 => rw [if_pos h1]; exact ⟨rfl, h⟩
  | full h1 h2 h3 => rw [if_neg (by omega), if_pos h3]; exact ⟨rfl, h⟩
  | big h1 h2 h3 h4 => rw [if_neg (by omega), if_neg (by omega), if_pos (by omega)]; exact ⟨rfl, h⟩
  | fits h1 h2 h3 h4 h5 h6 =>
    rw [if_neg (by omega), if_neg (by omega), if_neg (by omega)]
    exact ⟨rfl, h.birth h3 (by omega) (by omega) (by omega)⟩
  | @coll S1 h1 h2 h3 h4 h5 h6 hc h7 =>
    obtain ⟨os1, hI1, hs1, hm1, hl1, _⟩ := hc.sim
    rw [if_neg (by omega), if_neg (by omega), if_neg (by omega)]
    exact ⟨rfl, (hc.rel h).birth (by rw [hc.top]; exact h3) (by omega) (by omega) (by omega)⟩
  | no h1 h2 h3 h4 h5 h6 hc h7 =>
    obtain ⟨os1, hI1, hs1, hm1, hl1, _⟩ := hc.sim
    rw [if_neg (by omega), if_neg (by omega), if_pos (by omega)]
    exact ⟨rfl, hc.rel h⟩
end Go.Proofs.Qxb6500277aGreat
