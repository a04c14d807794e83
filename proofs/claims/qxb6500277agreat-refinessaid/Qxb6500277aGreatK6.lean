/- The heap's plain side: the fields. -/
import Derived.Test.Qxb6500277aGreatK5
namespace Go.Proofs.Qxb6500277aGreat
open Go Go.RowKit

def atN (S : HS) (i : Int) : Int × Int := if i < 0 ∨ S.top ≤ i then (-1, 2) else if S.roots i.toNat < 0 then (-1, 4) else (S.roots i.toNat, 0)
def atM (M : MS) (i : Int) : Int × Int := if i < 0 ∨ M.rt.length ≤ i then (-1, 2) else if M.rt[i.toNat]?.getD 0 < 0 then (-1, 4) else (M.rt[i.toNat]?.getD 0, 0)
def lenN (S : HS) (i : Int) : Int × Int × Int := if (atN S i).2 ≠ 0 then (0, 0, (atN S i).2) else (nrO S.mem (atN S i).1.toNat, niO S.mem (atN S i).1.toNat, 0)
def lenM (M : MS) (i : Int) : Int × Int × Int := if (atM M i).2 ≠ 0 then (0, 0, (atM M i).2) else ((rfM M.objs (atM M i).1).length, (itM M.objs (atM M i).1).length, 0)
def ldIntN (S : HS) (i f : Int) : Int × Int := if (atN S i).2 ≠ 0 then (0, (atN S i).2) else if f < 0 ∨ niO S.mem (atN S i).1.toNat ≤ f then (0, 5) else (S.mem ((atN S i).1.toNat + 1 + nrO S.mem (atN S i).1.toNat + f.toNat), 0)
def ldIntM (M : MS) (i f : Int) : Int × Int := if (atM M i).2 ≠ 0 then (0, (atM M i).2) else if f < 0 ∨ (itM M.objs (atM M i).1).length ≤ f then (0, 5) else ((itM M.objs (atM M i).1)[f.toNat]?.getD 0, 0)
def stIntN (S : HS) (i f v : Int) : Int × HS := if (atN S i).2 ≠ 0 then ((atN S i).2, S) else if f < 0 ∨ niO S.mem (atN S i).1.toNat ≤ f then (5, S) else (0, { S with mem := upd S.mem ((atN S i).1.toNat + 1 + nrO S.mem (atN S i).1.toNat + f.toNat) v })
def stIntM (M : MS) (i f v : Int) : Int × MS := if (atM M i).2 ≠ 0 then ((atM M i).2, M) else if f < 0 ∨ (itM M.objs (atM M i).1).length ≤ f then (5, M) else (0, { M with objs := M.objs.set (atM M i).1.toNat (rfM M.objs (atM M i).1, (itM M.objs (atM M i).1).set f.toNat v) })
def ldRefN (S : HS) (i f j : Int) : Int × HS := if (atN S i).2 ≠ 0 then ((atN S i).2, S) else if f < 0 ∨ nrO S.mem (atN S i).1.toNat ≤ f then (5, S) else if j < 0 ∨ S.top ≤ j then (2, S) else (0, { S with roots := upd S.roots j.toNat (S.mem ((atN S i).1.toNat + 1 + f.toNat)) })
def ldRefM (M : MS) (i f j : Int) : Int × MS := if (atM M i).2 ≠ 0 then ((atM M i).2, M) else if f < 0 ∨ (rfM M.objs (atM M i).1).length ≤ f then (5, M) else if j < 0 ∨ M.rt.length ≤ j then (2, M) else (0, { M with rt := M.rt.set j.toNat ((rfM M.objs (atM M i).1)[f.toNat]?.getD 0) })
def stRefN (S : HS) (i f j : Int) : Int × HS := if (atN S i).2 ≠ 0 then ((atN S i).2, S) else if f < 0 ∨ nrO S.mem (atN S i).1.toNat ≤ f then (5, S) else if j < 0 ∨ S.top ≤ j then (2, S) else (0, { S with mem := upd S.mem ((atN S i).1.toNat + 1 + f.toNat) (S.roots j.toNat) })
def stRefM (M : MS) (i f j : Int) : Int × MS := if (atM M i).2 ≠ 0 then ((atM M i).2, M) else if f < 0 ∨ (rfM M.objs (atM M i).1).length ≤ f then (5, M) else if j < 0 ∨ M.rt.length ≤ j then (2, M) else (0, { M with objs := M.objs.set (atM M i).1.toNat ((rfM M.objs (atM M i).1).set f.toNat (M.rt[j.toNat]?.getD 0), itM M.objs (atM M i).1) })

theorem rfO_len (m : Nat → Int) (a : Int) : (rfO m a).length = nrO m a.toNat := by simp [rfO]
theorem itO_len (m : Nat → Int) (a : Int) : (itO m a).length = niO m a.toNat := by simp [itO]
theorem rfO_get {m : Nat → Int} {a : Int} {f : Nat} (h : f < (rfO m a).length) : (rfO m a)[f] = m (a.toNat + 1 + f) := by simp [rfO]
theorem itO_get {m : Nat → Int} {a : Int} {f : Nat} (h : f < (itO m a).length) : (itO m a)[f] = m (a.toNat + 1 + nrO m a.toNat + f) := by simp [itO]
theorem Row.hdrs {m m' : Nat → Int} {a e : Nat} {os : List Int} (h : Row m a e os) (hm : ∀ x ∈ os, m' x.toNat = m x.toNat) : Row m' a e os := by
  induction h with
  | nil => exact .nil _
  | @cons a e os h0 hr ih =>
    have e0 : m' a = m a := by simpa using hm a (by simp)
    have ew : wdO m' a = wdO m a := by simp [wdO, nrO, niO, e0]
    refine .cons (by rw [e0]; exact h0) ?_
    rw [ew]
    exact ih fun x hx => hm x (by simp [hx])
section
variable {m : Nat → Int} {b e : Nat} {os : List Int} {a : Int}
/-- A word behind the header of a is written: no header turns, and no word of another object. -/
theorem Row.other (h : Row m b e os) (ha : a ∈ os) {o : Nat} (h1 : a.toNat < o) (h2 : o < a.toNat + wdO m a.toNat) {c : Int} (hc : c ∈ os) (hn : c ≠ a) {q : Nat} (h3 : c.toNat ≤ q) (h4 : q < c.toNat + wdO m c.toNat) : q ≠ o := by
  have := h.apart hc ha hn
  omega
theorem Row.head (h : Row m b e os) (ha : a ∈ os) {o : Nat} (h1 : a.toNat < o) (h2 : o < a.toNat + wdO m a.toNat) (v : Int) {c : Int} (hc : c ∈ os) : upd m o v c.toNat = m c.toNat := by
  simp only [upd]
  by_cases hn : c = a
  · subst hn; rw [if_neg (by omega)]
  · rw [if_neg (h.other ha h1 h2 hc hn (Nat.le_refl _) (by have := wdO_pos m c.toNat; omega))]
theorem Row.write (h : Row m b e os) (ha : a ∈ os) {o : Nat} (h1 : a.toNat < o) (h2 : o < a.toNat + wdO m a.toNat) (v : Int) : Row (upd m o v) b e os := h.hdrs fun _ hx => h.head ha h1 h2 v hx
theorem nrO_w (h : Row m b e os) (ha : a ∈ os) {o : Nat} (h1 : a.toNat < o) (h2 : o < a.toNat + wdO m a.toNat) (v : Int) {c : Int} (hc : c ∈ os) : nrO (upd m o v) c.toNat = nrO m c.toNat ∧ niO (upd m o v) c.toNat = niO m c.toNat := by
  unfold nrO niO
  rw [h.head ha h1 h2 v hc]
  exact ⟨rfl, rfl⟩
theorem rf_ref (h : Row m b e os) (ha : a ∈ os) {f : Nat} (hf : f < nrO m a.toNat) (v : Int) {c : Int} (hc : c ∈ os) :
    rfO (upd m (a.toNat + 1 + f) v) c = (if c = a then (rfO m a).set f v else rfO m c) ∧ itO (upd m (a.toNat + 1 + f) v) c = itO m c := by
  have hw : wdO m a.toNat = 1 + nrO m a.toNat + niO m a.toNat := rfl
  have hwc : wdO m c.toNat = 1 + nrO m c.toNat + niO m c.toNat := rfl
  have h1 : a.toNat < a.toNat + 1 + f := by omega
  have h2 : a.toNat + 1 + f < a.toNat + wdO m a.toNat := by omega
  obtain ⟨hn, hi⟩ := nrO_w h ha h1 h2 v hc
  constructor
  · refine List.ext_getElem ?_ fun j hj1 hj2 => ?_
    · rw [rfO_len, hn]
      split
      · next e => subst e; simp [rfO_len]
      · rw [rfO_len]
    · rw [rfO_len, hn] at hj1
      rw [rfO_get]
      by_cases hca : c = a
      · subst hca
        simp only [if_true, List.getElem_set, rfO_get, upd]
        by_cases hjf : f = j
        · subst hjf; simp
        · rw [if_neg (by omega), if_neg hjf]
      · simp only [if_neg hca, rfO_get, upd]
        rw [if_neg (h.other ha h1 h2 hc hca (by omega) (by omega))]
  · refine List.ext_getElem (by rw [itO_len, itO_len, hi]) fun j hj1 hj2 => ?_
    rw [itO_len] at hj2
    rw [itO_get, itO_get, hn]
    simp only [upd]
    by_cases hca : c = a
    · subst hca; rw [if_neg (by omega)]
    · rw [if_neg (h.other ha h1 h2 hc hca (by omega) (by omega))]
theorem rf_int (h : Row m b e os) (ha : a ∈ os) {f : Nat} (hf : f < niO m a.toNat) (v : Int) {c : Int} (hc : c ∈ os) :
    rfO (upd m (a.toNat + 1 + nrO m a.toNat + f) v) c = rfO m c ∧ itO (upd m (a.toNat + 1 + nrO m a.toNat + f) v) c = if c = a then (itO m a).set f v else itO m c := by
  have hw : wdO m a.toNat = 1 + nrO m a.toNat + niO m a.toNat := rfl
  have hwc : wdO m c.toNat = 1 + nrO m c.toNat + niO m c.toNat := rfl
  have h1 : a.toNat < a.toNat + 1 + nrO m a.toNat + f := by omega
  have h2 : a.toNat + 1 + nrO m a.toNat + f < a.toNat + wdO m a.toNat := by omega
  obtain ⟨hn, hi⟩ := nrO_w h ha h1 h2 v hc
  constructor
  · refine List.ext_getElem (by rw [rfO_len, rfO_len, hn]) fun j hj1 hj2 => ?_
    rw [rfO_len] at hj2
    rw [rfO_get, rfO_get]
    simp only [upd]
    by_cases hca : c = a
    · subst hca; rw [if_neg (by omega)]
    · rw [if_neg (h.other ha h1 h2 hc hca (by omega) (by omega))]
  · refine List.ext_getElem ?_ fun j hj1 hj2 => ?_
    · rw [itO_len, hi]
      split
      · next e => subst e; simp [itO_len]
      · rw [itO_len]
    · rw [itO_len, hi] at hj1
      rw [itO_get, hn]
      by_cases hca : c = a
      · subst hca
        simp only [if_true, List.getElem_set, itO_get, upd]
        by_cases hjf : f = j
        · subst hjf; simp
        · rw [if_neg (by omega), if_neg hjf]
      · simp only [if_neg hca, itO_get, upd]
        rw [if_neg (h.other ha h1 h2 hc hca (by omega) (by omega))]
end
theorem L2.set {V : Int → Int → Prop} {l m : List Int} (h : L2 V l m) (f : Nat) {x y : Int} (hv : V x y) : L2 V (l.set f x) (m.set f y) := by
  refine L2.of (by simp [h.len]) fun i h1 h2 => ?_
  simp only [List.length_set] at h1 h2
  rw [List.getElem_set, List.getElem_set]
  split
  · exact hv
  · exact h.get i h1 h2
theorem rfM_set (os : List (List Int × List Int)) (j i : Int) (o : List Int × List Int) (hj : 0 ≤ j) (hl : j.toNat < os.length) (hi : 0 ≤ i) : rfM (os.set j.toNat o) i = if i = j then o.1 else rfM os i := by
  unfold rfM
  rw [List.getElem?_set]
  by_cases e : i = j
  · subst e; simp [hl]
  · rw [if_neg (by omega), if_neg e]
theorem itM_set (os : List (List Int × List Int)) (j i : Int) (o : List Int × List Int) (hj : 0 ≤ j) (hl : j.toNat < os.length) (hi : 0 ≤ i) : itM (os.set j.toNat o) i = if i = j then o.2 else itM os i := by
  unfold itM
  rw [List.getElem?_set]
  by_cases e : i = j
  · subst e; simp [hl]
  · rw [if_neg (by omega), if_neg e]
section
variable {S : HS} {M : MS} {P : Int → Int → Prop} {os : List Int}
theorem at_sim (hs : Sim P S.gh M.gh) (i : Int) : (atN S i).2 = (atM M i).2 ∧ ((atM M i).2 = 0 → P (atN S i).1 (atM M i).1) := by
  have hL : M.rt.length = S.top := by have := hs.rt.len; simp [HS.gh, MS.gh] at this; exact this.symm
  unfold atN atM
  rw [hL]
  by_cases hi : i < 0 ∨ (S.top : Int) ≤ i
  · simp [hi]
  · simp only [hi, if_false]
    have hi2 : i.toNat < M.rt.length := by omega
    have hv : VV P (S.roots i.toNat) (M.rt[i.toNat]) := by
      have := hs.rt.get i.toNat (by simp [HS.gh]; omega) hi2
      rw [rt_get] at this
      exact this
    rw [List.getElem?_eq_getElem hi2]
    simp only [Option.getD_some]
    rcases hv with ⟨h1, h2⟩ | hv
    · rw [h1, h2]; simp
    · have := hs.pr.pos _ _ hv
      rw [if_neg (by omega), if_neg (by omega)]
      exact ⟨rfl, fun _ => hv⟩
theorem Rel.lenF (h : Rel S M) (i : Int) : lenN S i = lenM M i := by
  obtain ⟨⟨P, os, hI, hs, hd⟩, mi⟩ := h
  obtain ⟨h1, h2⟩ := at_sim hs i
  unfold lenN lenM
  rw [h1]
  by_cases he : (atM M i).2 = 0
  · obtain ⟨h3, h4⟩ := hs.fl _ _ (h2 he)
    have h5 := h3.len
    simp only [HS.gh, MS.gh, rfO_len] at h5
    have h6 := congrArg List.length h4
    simp only [HS.gh, MS.gh, itO_len] at h6
    simp [he, h5, h6]
  · simp [he]
theorem Rel.ldInt (h : Rel S M) (i f : Int) : ldIntN S i f = ldIntM M i f := by
  obtain ⟨⟨P, os, hI, hs, hd⟩, mi⟩ := h
  obtain ⟨h1, h2⟩ := at_sim hs i
  unfold ldIntN ldIntM
  rw [h1]
  by_cases he : (atM M i).2 = 0
  · obtain ⟨h3, h4⟩ := hs.fl _ _ (h2 he)
    have h6 := congrArg List.length h4
    simp only [HS.gh, MS.gh, itO_len] at h6
    simp only [he, ne_eq, not_true_eq_false, if_false, h6]
    split
    · rfl
    · next hf =>
      have hf2 : f.toNat < (itM M.objs (atM M i).1).length := by omega
      have h7 : (itO S.mem (atN S i).1)[f.toNat]'(by rw [itO_len]; omega) = (itM M.objs (atM M i).1)[f.toNat] := by
        have : itO S.mem (atN S i).1 = itM M.objs (atM M i).1 := h4
        simp only [this]
      rw [itO_get] at h7
      rw [h7, List.getElem?_eq_getElem hf2]
      rfl
  · simp [he]
theorem Rel.stInt (h : Rel S M) (i f v : Int) : (stIntN S i f v).1 = (stIntM M i f v).1 ∧ Rel (stIntN S i f v).2 (stIntM M i f v).2 := by
  have h0 := h
  obtain ⟨⟨P, os, hI, hs, hd⟩, mi⟩ := h
  obtain ⟨h1, h2⟩ := at_sim hs i
  unfold stIntN stIntM
  rw [h1]
  by_cases he : (atM M i).2 = 0
  · have hp := h2 he
    obtain ⟨h3, h4⟩ := hs.fl _ _ hp
    obtain ⟨d1, d2⟩ := hd _ _ hp
    have d3 := hs.pr.pos _ _ hp
    have h6 := congrArg List.length h4
    simp only [HS.gh, MS.gh, itO_len] at h6
    simp only [he, ne_eq, not_true_eq_false, if_false, h6]
    split
    · exact ⟨rfl, h0⟩
    · next hf =>
      have hf2 : f.toNat < niO S.mem (atN S i).1.toNat := by omega
      have hw := hI.row
      generalize (atN S i).1 = a at *
      generalize (atM M i).1 = j at *
      have hlj : j.toNat < M.objs.length := by omega
      have hR := fun c (hc : c ∈ os) => rf_int hw d1 hf2 v hc
      have hwd : wdO S.mem a.toNat = 1 + nrO S.mem a.toNat + niO S.mem a.toNat := rfl
      refine ⟨rfl, ⟨P, os, ⟨hI.base, hw.write d1 (by omega) (by omega) v, hI.le, hI.top, hI.rts, fun c hc y hy => hI.cl c hc y (by rw [← (hR c hc).1]; exact hy)⟩, ⟨hs.pr, hs.rt, ?_⟩, fun c k hck => ⟨(hd c k hck).1, by simp; exact (hd c k hck).2⟩⟩, ⟨by simpa using mi.rts, ?_, by simpa using mi.len, ?_⟩⟩
      · intro c k hck
        have hc := (hd c k hck).1
        have hk0 := (hs.pr.pos c k hck).2
        have hfl := hs.fl c k hck
        have hone := hs.pr.one _ _ _ _ hck hp
        simp only [HS.gh, MS.gh] at hfl ⊢
        rw [(hR c hc).1, (hR c hc).2, rfM_set _ _ _ _ d3.2 hlj hk0, itM_set _ _ _ _ d3.2 hlj hk0]
        by_cases hca : c = a
        · have hkj := hone.1 hca
          subst hca hkj
          simp only [if_true]
          exact ⟨hfl.1, by rw [hfl.2]⟩
        · rw [if_neg hca, if_neg (fun e => hca (hone.2 e)), if_neg (fun e => hca (hone.2 e))]
          exact hfl
      · intro o ho y hy
        simp only [List.length_set]
        rcases List.mem_or_eq_of_mem_set ho with ho | rfl
        · exact mi.cl o ho y hy
        · simp only [rfM, List.getElem?_eq_getElem hlj, Option.map_some, Option.getD_some] at hy
          exact mi.cl _ (List.getElem_mem hlj) y hy
      · intro o ho
        rcases List.mem_or_eq_of_mem_set ho with ho | rfl
        · exact mi.sz o ho
        · have := mi.sz _ (List.getElem_mem hlj)
          simp only [rfM, itM, List.getElem?_eq_getElem hlj, Option.map_some, Option.getD_some, List.length_set]
          exact this
  · simp only [he, ne_eq, not_false_eq_true, if_true, true_and]
    exact h0
theorem Rel.stRef (h : Rel S M) (i f jj : Int) : (stRefN S i f jj).1 = (stRefM M i f jj).1 ∧ Rel (stRefN S i f jj).2 (stRefM M i f jj).2 := by
  have h0 := h
  have hL := h.len
  obtain ⟨⟨P, os, hI, hs, hd⟩, mi⟩ := h
  obtain ⟨h1, h2⟩ := at_sim hs i
  unfold stRefN stRefM
  rw [h1, hL]
  by_cases he : (atM M i).2 = 0
  · have hp := h2 he
    obtain ⟨h3, h4⟩ := hs.fl _ _ hp
    obtain ⟨d1, d2⟩ := hd _ _ hp
    have d3 := hs.pr.pos _ _ hp
    have h6 := h3.len
    simp only [HS.gh, MS.gh, rfO_len] at h6
    simp only [he, ne_eq, not_true_eq_false, if_false, h6]
    split
    · exact ⟨rfl, h0⟩
    · next hf =>
      split
      · exact ⟨rfl, h0⟩
      next hjj =>
      have hf2 : f.toNat < nrO S.mem (atN S i).1.toNat := by omega
      have hi2 : jj.toNat < M.rt.length := by omega
      have hv : VV P (S.roots jj.toNat) (M.rt[jj.toNat]) := by
        have := hs.rt.get jj.toNat (by simp [HS.gh]; omega) hi2
        rw [rt_get] at this
        exact this
      have hrx := hI.rts jj.toNat (by omega)
      have hmx := mi.rts _ (List.getElem_mem hi2)
      rw [List.getElem?_eq_getElem hi2]
      simp only [Option.getD_some]
      have hw := hI.row
      generalize (atN S i).1 = a at *
      generalize (atM M i).1 = j at *
      generalize S.roots jj.toNat = x at *
      generalize M.rt[jj.toNat] = y at *
      have hlj : j.toNat < M.objs.length := by omega
      have hR := fun c (hc : c ∈ os) => rf_ref hw d1 hf2 x hc
      have hwd : wdO S.mem a.toNat = 1 + nrO S.mem a.toNat + niO S.mem a.toNat := rfl
      refine ⟨trivial, ⟨P, os, ⟨hI.base, hw.write d1 (by omega) (by omega) x, hI.le, hI.top, hI.rts, ?_⟩, ⟨hs.pr, hs.rt, ?_⟩, fun c k hck => ⟨(hd c k hck).1, by simp; exact (hd c k hck).2⟩⟩, ⟨by simpa using mi.rts, ?_, by simpa using mi.len, ?_⟩⟩
      · intro c hc z hz
        rw [(hR c hc).1] at hz
        by_cases hca : c = a
        · subst hca
          simp only [if_true] at hz
          rcases List.mem_or_eq_of_mem_set hz with hz | rfl
          · exact hI.cl c hc z hz
          · exact hrx
        · rw [if_neg hca] at hz
          exact hI.cl c hc z hz
      · intro c k hck
        have hc := (hd c k hck).1
        have hk0 := (hs.pr.pos c k hck).2
        have hfl := hs.fl c k hck
        have hone := hs.pr.one _ _ _ _ hck hp
        simp only [HS.gh, MS.gh] at hfl ⊢
        rw [(hR c hc).1, (hR c hc).2, rfM_set _ _ _ _ d3.2 hlj hk0, itM_set _ _ _ _ d3.2 hlj hk0]
        by_cases hca : c = a
        · have hkj := hone.1 hca
          subst hca hkj
          simp only [if_true]
          exact ⟨hfl.1.set _ hv, hfl.2⟩
        · rw [if_neg hca, if_neg (fun e => hca (hone.2 e)), if_neg (fun e => hca (hone.2 e))]
          exact hfl
      · intro o ho z hz
        simp only [List.length_set]
        rcases List.mem_or_eq_of_mem_set ho with ho | rfl
        · exact mi.cl o ho z hz
        · rcases List.mem_or_eq_of_mem_set hz with hz | rfl
          · simp only [rfM, List.getElem?_eq_getElem hlj, Option.map_some, Option.getD_some] at hz
            exact mi.cl _ (List.getElem_mem hlj) z hz
          · exact hmx
      · intro o ho
        rcases List.mem_or_eq_of_mem_set ho with ho | rfl
        · exact mi.sz o ho
        · have := mi.sz _ (List.getElem_mem hlj)
          simp only [rfM, itM, List.getElem?_eq_getElem hlj, Option.map_some, Option.getD_some, List.length_set]
          exact this
  · simp only [he, ne_eq, not_false_eq_true, if_true, true_and]
    exact h0
theorem Rel.ldRef (h : Rel S M) (i f jj : Int) : (ldRefN S i f jj).1 = (ldRefM M i f jj).1 ∧ Rel (ldRefN S i f jj).2 (ldRefM M i f jj).2 := by
  have h0 := h
  have hL := h.len
  obtain ⟨⟨P, os, hI, hs, hd⟩, mi⟩ := h
  obtain ⟨h1, h2⟩ := at_sim hs i
  unfold ldRefN ldRefM
  rw [h1, hL]
  by_cases he : (atM M i).2 = 0
  · have hp := h2 he
    obtain ⟨h3, h4⟩ := hs.fl _ _ hp
    obtain ⟨d1, d2⟩ := hd _ _ hp
    have d3 := hs.pr.pos _ _ hp
    have h6 := h3.len
    simp only [HS.gh, MS.gh, rfO_len] at h6
    simp only [he, ne_eq, not_true_eq_false, if_false, h6]
    split
    · exact ⟨rfl, h0⟩
    · next hf =>
      split
      · exact ⟨rfl, h0⟩
      next hjj =>
      have hf2 : f.toNat < nrO S.mem (atN S i).1.toNat := by omega
      have hf3 : f.toNat < (rfM M.objs (atM M i).1).length := by omega
      have hv : VV P (S.mem ((atN S i).1.toNat + 1 + f.toNat)) ((rfM M.objs (atM M i).1)[f.toNat]) := by
        have := h3.get f.toNat (by show f.toNat < (rfO _ _).length; rw [rfO_len]; exact hf2) hf3
        have e : S.gh.R = rfO S.mem := rfl
        simp only [e, rfO_get] at this
        exact this
      have hrx : S.mem ((atN S i).1.toNat + 1 + f.toNat) = -1 ∨ S.mem ((atN S i).1.toNat + 1 + f.toNat) ∈ os := hI.cl _ d1 _ (List.mem_map.2 ⟨f.toNat, List.mem_range.2 hf2, rfl⟩)
      have hlj : (atM M i).1.toNat < M.objs.length := by omega
      have hmx : InM M.objs.length ((rfM M.objs (atM M i).1)[f.toNat]) := by
        have e : rfM M.objs (atM M i).1 = M.objs[(atM M i).1.toNat].1 := by simp only [rfM, List.getElem?_eq_getElem hlj, Option.map_some, Option.getD_some]
        exact mi.cl _ (List.getElem_mem hlj) _ (by rw [← e]; exact List.getElem_mem hf3)
      rw [List.getElem?_eq_getElem hf3]
      simp only [Option.getD_some]
      generalize S.mem ((atN S i).1.toNat + 1 + f.toNat) = x at *
      generalize (rfM M.objs (atM M i).1)[f.toNat] = y at *
      refine ⟨trivial, ⟨P, os, ⟨hI.base, hI.row, hI.le, hI.top, ?_, hI.cl⟩, ⟨hs.pr, ?_, hs.fl⟩, hd⟩, ⟨?_, mi.cl, mi.len, mi.sz⟩⟩
      · intro k hk
        simp only [upd]
        split
        · exact hrx
        · exact hI.rts k hk
      · refine L2.of (by simp [HS.gh, MS.gh, hL]) fun k k1 k2 => ?_
        rw [rt_get]
        simp only [MS.gh, List.length_set] at k2
        simp only [MS.gh, List.getElem_set, upd]
        by_cases hk : k = jj.toNat
        · rw [if_pos hk, if_pos hk.symm]; exact hv
        · rw [if_neg hk, if_neg (Ne.symm hk)]
          have := hs.rt.get k (by rw [rt_len]; omega) k2
          rw [rt_get] at this
          exact this
      · intro z hz
        rcases List.mem_or_eq_of_mem_set hz with hz | rfl
        · exact mi.rts z hz
        · exact hmx
  · simp only [he, ne_eq, not_false_eq_true, if_true, true_and]
    exact h0
end
end Go.Proofs.Qxb6500277aGreat
