/- The real checker: its tables. -/
import Derived.Test.Qxb6500277aGreatCV
namespace Go.Proofs.Qxb6500277aGreat
open Go Go.RowKit

/-- The entries of bucket b below n: the youngest. -/
def lb (vs : List Vr) (b n : Nat) : Option Nat := lst (fun j => decide (bk (vAt vs j).name = b)) n
theorem lb_congr {vs us : List Vr} {b n : Nat} (h : ∀ j, j < n → vAt vs j = vAt us j) : lb vs b n = lb us b n := lst_congr fun j hj => by rw [h j hj]
/-- A table in the cells from o on. -/
structure Tab (f : Nat → Value) (o : Nat) (vs : List Vr) : Prop where
  n : f (o + 160) = .int .i64 (vs.length : Nat)
  le : vs.length ≤ 24
  hd : ∀ b, b < 16 → f (o + b) = .int .i64 (oi (lb vs b vs.length))
  nm : ∀ i, i < vs.length → f (o + 16 + i * 6) = .string (vAt vs i).name
  ty : ∀ i, i < vs.length → f (o + 16 + i * 6 + 1) = .int .i64 (vAt vs i).ty
  sl : ∀ i, i < vs.length → f (o + 16 + i * 6 + 2) = .int .i64 (vAt vs i).slot
  lv : ∀ i, i < vs.length → f (o + 16 + i * 6 + 3) = .int .i64 (vAt vs i).level
  bu : ∀ i, i < vs.length → f (o + 16 + i * 6 + 4) = .int .i64 (bk (vAt vs i).name)
  nx : ∀ i, i < vs.length → f (o + 16 + i * 6 + 5) = .int .i64 (oi (lb vs (bk (vAt vs i).name) i))
section
variable {f f' : Nat → Value} {o : Nat} {vs l : List Vr} {v : Vr}
theorem Tab.congr (h : Tab f o vs) (e : ∀ k, o ≤ k → k < o + 161 → f' k = f k) : Tab f' o vs := by
  have hl := h.le
  exact ⟨by rw [e _ (by omega) (by omega)]; exact h.n, hl, fun b hb => by rw [e _ (by omega) (by omega)]; exact h.hd b hb,
    fun i hi => by rw [e _ (by omega) (by omega)]; exact h.nm i hi, fun i hi => by rw [e _ (by omega) (by omega)]; exact h.ty i hi, fun i hi => by rw [e _ (by omega) (by omega)]; exact h.sl i hi,
    fun i hi => by rw [e _ (by omega) (by omega)]; exact h.lv i hi, fun i hi => by rw [e _ (by omega) (by omega)]; exact h.bu i hi, fun i hi => by rw [e _ (by omega) (by omega)]; exact h.nx i hi⟩
theorem Tab.empty (h0 : f (o + 160) = .int .i64 (0 : Nat)) (hh : ∀ b, b < 16 → f (o + b) = .int .i64 (-1)) : Tab f o [] :=
  ⟨h0, by simp, fun b hb => hh b hb, (fun i hi => by cases hi), (fun i hi => by cases hi), (fun i hi => by cases hi), (fun i hi => by cases hi), (fun i hi => by cases hi), (fun i hi => by cases hi)⟩
theorem Tab.push (h : Tab f o vs) (hl : vs.length < 24) (h0 : f' (o + 160) = .int .i64 ((vs.length + 1 : Nat) : Int)) (hh : f' (o + bk v.name) = .int .i64 (vs.length : Nat))
    (a0 : f' (o + 16 + vs.length * 6) = .string v.name) (a1 : f' (o + 16 + vs.length * 6 + 1) = .int .i64 v.ty) (a2 : f' (o + 16 + vs.length * 6 + 2) = .int .i64 v.slot) (a3 : f' (o + 16 + vs.length * 6 + 3) = .int .i64 v.level) (a4 : f' (o + 16 + vs.length * 6 + 4) = .int .i64 (bk v.name)) (a5 : f' (o + 16 + vs.length * 6 + 5) = .int .i64 (oi (lb vs (bk v.name) vs.length)))
    (hs : ∀ k, o ≤ k → k < o + 160 → k ≠ o + bk v.name → (k < o + 16 + vs.length * 6 ∨ o + 22 + vs.length * 6 ≤ k) → f' k = f k) : Tab f' o (vs ++ [v]) := by
  have hb := bk_lt v.name
  have hlen : (vs ++ [v]).length = vs.length + 1 := by simp
  have old : ∀ i, i < vs.length → vAt (vs ++ [v]) i = vAt vs i := fun i hi => vAt_app hi
  have new : vAt (vs ++ [v]) vs.length = v := vAt_last vs v
  have key : ∀ (P : Nat → Prop), (∀ i, i < vs.length → P i) → P vs.length → ∀ i, i < (vs ++ [v]).length → P i := fun P p1 p2 i hi => by
    rw [hlen] at hi
    by_cases e : i < vs.length
    · exact p1 i e
    · obtain rfl : i = vs.length := by omega
      exact p2
  refine ⟨by rw [hlen]; exact h0, by rw [hlen]; exact hl, fun b hb' => ?_, ?_, ?_, ?_, ?_, ?_, ?_⟩
  · rw [hlen]
    by_cases e : b = bk v.name
    · subst e
      rw [hh]
      unfold lb
      rw [lst, if_pos (by rw [new]; simp)]
      rfl
    · rw [hs _ (by omega) (by omega) (by omega) (by omega), h.hd b hb']
      unfold lb
      rw [lst, if_neg (by rw [new]; simpa using fun e' => e e'.symm)]
      rw [lst_congr (p := fun j => decide (bk (vAt (vs ++ [v]) j).name = b)) (q := fun j => decide (bk (vAt vs j).name = b)) (fun j hj => by rw [old j hj])]
  · exact key _ (fun i hi => by rw [hs _ (by omega) (by omega) (by omega) (by omega), old i hi]; exact h.nm i hi) (by rw [new]; exact a0)
  · exact key _ (fun i hi => by rw [hs _ (by omega) (by omega) (by omega) (by omega), old i hi]; exact h.ty i hi) (by rw [new]; exact a1)
  · exact key _ (fun i hi => by rw [hs _ (by omega) (by omega) (by omega) (by omega), old i hi]; exact h.sl i hi) (by rw [new]; exact a2)
  · exact key _ (fun i hi => by rw [hs _ (by omega) (by omega) (by omega) (by omega), old i hi]; exact h.lv i hi) (by rw [new]; exact a3)
  · exact key _ (fun i hi => by rw [hs _ (by omega) (by omega) (by omega) (by omega), old i hi]; exact h.bu i hi) (by rw [new]; exact a4)
  · refine key _ (fun i hi => ?_) ?_
    · rw [hs _ (by omega) (by omega) (by omega) (by omega), old i hi, lb_congr (us := vs) (fun j hj => old j (by omega))]; exact h.nx i hi
    · rw [new, lb_congr (us := vs) (fun j hj => old j hj)]; exact a5
theorem Tab.pop (h : Tab f o (l ++ [v])) (h0 : f' (o + 160) = .int .i64 (l.length : Nat)) (hh : f' (o + bk v.name) = .int .i64 (oi (lb (l ++ [v]) (bk v.name) l.length)))
    (hs : ∀ k, o ≤ k → k < o + 160 → k ≠ o + bk v.name → f' k = f k) : Tab f' o l := by
  have hb := bk_lt v.name
  have hlen : (l ++ [v]).length = l.length + 1 := by simp
  have hle := h.le
  rw [hlen] at hle
  have old : ∀ i, i < l.length → vAt (l ++ [v]) i = vAt l i := fun i hi => vAt_app hi
  have new : vAt (l ++ [v]) l.length = v := vAt_last l v
  refine ⟨h0, by omega, fun b hb' => ?_, ?_, ?_, ?_, ?_, ?_, ?_⟩
  · by_cases e : b = bk v.name
    · subst e
      rw [hh, lb_congr (us := l) (fun j hj => old j hj)]
    · rw [hs _ (by omega) (by omega) (by omega), h.hd b hb', hlen]
      unfold lb
      rw [lst, if_neg (by rw [new]; simpa using fun e' => e e'.symm)]
      rw [lst_congr (p := fun j => decide (bk (vAt (l ++ [v]) j).name = b)) (q := fun j => decide (bk (vAt l j).name = b)) (fun j hj => by rw [old j hj])]
  · exact fun i hi => by rw [hs _ (by omega) (by omega) (by omega), h.nm i (by rw [hlen]; omega), old i hi]
  · exact fun i hi => by rw [hs _ (by omega) (by omega) (by omega), h.ty i (by rw [hlen]; omega), old i hi]
  · exact fun i hi => by rw [hs _ (by omega) (by omega) (by omega), h.sl i (by rw [hlen]; omega), old i hi]
  · exact fun i hi => by rw [hs _ (by omega) (by omega) (by omega), h.lv i (by rw [hlen]; omega), old i hi]
  · exact fun i hi => by rw [hs _ (by omega) (by omega) (by omega), h.bu i (by rw [hlen]; omega), old i hi]
  · exact fun i hi => by rw [hs _ (by omega) (by omega) (by omega), h.nx i (by rw [hlen]; omega), old i hi, lb_congr (us := l) (fun j hj => old j (by omega))]
/-- What find's loop knows: no entry at or above m bears the name. -/
def NoHit (vs : List Vr) (s : ByteArray) (m : Nat) : Prop := m ≤ vs.length ∧ ∀ j, m ≤ j → j < vs.length → (vAt vs j).name ≠ s
theorem NoHit.none {s : ByteArray} {m : Nat} (h : NoHit vs s m) (e : lb vs (bk s) m = none) : fndV s vs = none := by
  refine lst_miss fun j hj => ?_
  by_cases hm : m ≤ j
  · simpa using h.2 j hm hj
  · have := lst_none e j (by omega)
    simp only [decide_eq_false_iff_not] at this ⊢
    exact fun e' => this (by rw [e'])
theorem NoHit.some {s : ByteArray} {m k : Nat} (h : NoHit vs s m) (e : lb vs (bk s) m = some k) : k < vs.length ∧ k < m ∧ bk (vAt vs k).name = bk s ∧ ((vAt vs k).name = s → fndV s vs = some k) ∧ ((vAt vs k).name ≠ s → NoHit vs s k) := by
  obtain ⟨h1, h2, h3⟩ := lst_some e
  have hm := h.1
  have up : ∀ j, k < j → j < vs.length → (vAt vs j).name ≠ s := fun j h4 h5 => by
    by_cases hj : m ≤ j
    · exact h.2 j hj h5
    · have := h3 j h4 (by omega)
      simp only [decide_eq_false_iff_not] at this
      exact fun e' => this (by rw [e'])
  refine ⟨by omega, h1, by simpa using h2, fun e' => ?_, fun e' => ⟨by omega, fun j h4 h5 => ?_⟩⟩
  · exact lst_hit (by omega) (by simpa using e') fun j h4 h5 => by simpa using up j h4 h5
  · by_cases ej : k = j
    · subst ej; exact e'
    · exact up j (by omega) h5
end
end Go.Proofs.Qxb6500277aGreat
