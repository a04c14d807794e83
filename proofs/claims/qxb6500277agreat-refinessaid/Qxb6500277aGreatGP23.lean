/- The compiler's result, plainly. -/
import Derived.Test.Qxb6500277aGreatGE20
namespace Go.Proofs.Qxb6500277aGreat
open Go Go.RowKit

/-- A row of the fixup table lies inside the code from a on, n bytes long; its function is there. -/
def RowIn (P : Pg) (a n : Nat) (l : List (Nat × Nat)) : Prop := ∀ x ∈ l, a ≤ x.1 ∧ x.1 + 2 ≤ a + n ∧ x.2 < P.fns.length
theorem RowIn.nil {P : Pg} {a n : Nat} : RowIn P a n [] := fun _ h => by cases h
theorem RowIn.app {P : Pg} {a n : Nat} {l m : List (Nat × Nat)} (h : RowIn P a n l) (k : RowIn P a n m) : RowIn P a n (l ++ m) := fun x hx => (List.mem_append.1 hx).elim (h x) (k x)
theorem RowIn.sub {P : Pg} {a n a' n' : Nat} {l : List (Nat × Nat)} (h : RowIn P a n l) (h1 : a' ≤ a) (h2 : a + n ≤ a' + n') : RowIn P a' n' l := fun x hx => by have := h x hx; omega
mutual
theorem row_E {P : Pg} {li lr : Nat} : (e : Exp) → ∀ (a b : Nat), WtE P li lr b e → RowIn P a (nE e) (fxE P a b e)
  | .num .. | .boo .. | .var .. | .rd .. => fun _ _ _ => .nil
  | .un _ _ e => fun a b h => by simp only [WtE] at h; simp only [fxE, nE]; exact (row_E e a b h.1).sub (by omega) (by omega)
  | .new _ _ e => fun a b h => by simp only [WtE] at h; simp only [fxE, nE]; exact (row_E e a b h.1).sub (by omega) (by omega)
  | .len _ e => fun a b h => by simp only [WtE] at h; simp only [fxE, nE]; exact (row_E e a b h.1).sub (by omega) (by omega)
  | .bin k _ l r => fun a b h => by
    simp only [WtE] at h
    simp only [fxE, nE]
    split
    · exact ((row_E l a b h.1).sub (by omega) (by omega)).app ((row_E r _ _ h.2.1).sub (by omega) (by omega))
    · exact ((row_E l a b h.1).sub (by omega) (by omega)).app ((row_E r _ _ h.2.1).sub (by omega) (by omega))
  | .idx _ x i => fun a b h => by
    simp only [WtE] at h
    simp only [fxE, nE]
    exact ((row_E x a b h.1).sub (by omega) (by omega)).app ((row_E i _ _ h.2.1).sub (by omega) (by omega))
  | .call _ _ gs => fun a b h => by
    simp only [WtE] at h
    simp only [fxE, nE]
    refine ((row_Es gs a b h.1).sub (by omega) (by omega)).app fun x hx => ?_
    rw [List.mem_singleton] at hx
    subst hx
    exact ⟨by simp only []; omega, by simp only []; omega, h.2.1⟩
theorem row_Es {P : Pg} {li lr : Nat} : (es : Exps) → ∀ (a b : Nat), WtEs P li lr b es → RowIn P a (nEs es) (fxEs P a b es)
  | .nil => fun _ _ _ => .nil
  | .cons e es => fun a b h => by
    simp only [WtEs] at h
    simp only [fxEs, nEs]
    exact ((row_E e a b h.1).sub (by omega) (by omega)).app ((row_Es es _ _ h.2).sub (by omega) (by omega))
end
mutual
theorem row_S {P : Pg} {li lr : Nat} {ret : Int} : (x : Stm) → ∀ (a b : Nat), WtS P li lr ret b x → RowIn P a (nS x) (fxS P a b x)
  | .vd _ _ _ e => fun a b h => by simp only [WtS] at h; simp only [fxS, nS]; exact (row_E e a b h.1).sub (by omega) (by omega)
  | .ret _ e => fun a b h => by simp only [WtS] at h; simp only [fxS, nS]; exact (row_E e a b h.1).sub (by omega) (by omega)
  | .prt _ e => fun a b h => by simp only [WtS] at h; simp only [fxS, nS]; exact (row_E e a b h.1).sub (by omega) (by omega)
  | .exp e => fun a b h => by simp only [WtS] at h; simp only [fxS, nS]; exact (row_E e a b h).sub (by omega) (by omega)
  | .asg _ x c => fun a b h => by
    cases x with
    | idx _ a' i' =>
      simp only [WtS] at h
      simp only [fxS, nS]
      exact ((row_E a' a b h.1).sub (by omega) (by omega)).app (((row_E i' _ _ h.2.1).sub (by omega) (by omega)).app ((row_E c _ _ h.2.2.1).sub (by omega) (by omega)))
    | var s q =>
      simp only [WtS] at h
      simp only [fxS, nS, szE]
      exact (row_E c _ _ h.1).sub (by omega) (by omega)
    | _ => exact h.elim
  | .iff _ e _ ss => fun a b h => by
    simp only [WtS] at h
    simp only [fxS, nS]
    exact ((row_E e a b h.1).sub (by omega) (by omega)).app ((row_Ss ss _ _ h.2.2).sub (by omega) (by omega))
  | .whl _ e _ ss => fun a b h => by
    simp only [WtS] at h
    simp only [fxS, nS]
    exact ((row_E e a b h.1).sub (by omega) (by omega)).app ((row_Ss ss _ _ h.2.2).sub (by omega) (by omega))
  | .ife _ e _ ss _ cs => fun a b h => by
    simp only [WtS] at h
    simp only [fxS, nS]
    exact ((row_E e a b h.1).sub (by omega) (by omega)).app (((row_Ss ss _ _ h.2.2.1).sub (by omega) (by omega)).app ((row_Ss cs _ _ h.2.2.2).sub (by omega) (by omega)))
theorem row_Ss {P : Pg} {li lr : Nat} {ret : Int} : (xs : Stms) → ∀ (a b : Nat), WtSs P li lr ret b xs → RowIn P a (nSs xs) (fxSs P a b xs)
  | .nil => fun _ _ _ => .nil
  | .cons x xs => fun a b h => by
    simp only [WtSs] at h
    simp only [fxSs, nSs]
    exact ((row_S x a b h.1).sub (by omega) (by omega)).app ((row_Ss xs _ _ h.2).sub (by omega) (by omega))
end
def sumF (P : Pg) (l : List Nat) : Nat := (l.map fun i => nF (fiA P i)).sum
theorem row_L {P : Pg} : ∀ (l : List Nat) (a : Nat), (∀ i ∈ l, WtSs P (fiA P i).li (fiA P i).lr (fiA P i).ret (fiA P i).bb (fiA P i).ss) → RowIn P a (sumF P l) (fxL P l a)
  | [], _, _ => .nil
  | j :: l, a, h => by
    have e : sumF P (j :: l) = nF (fiA P j) + sumF P l := by simp [sumF]
    have e2 : nF (fiA P j) = 5 + nSs (fiA P j).ss + (if 2 ≤ (fiA P j).ret then 2 else 10) := rfl
    simp only [fxL]
    rw [e]
    exact ((row_Ss (fiA P j).ss (a + 5) (fiA P j).bb (h j (by simp))).sub (by omega) (by omega)).app ((row_L l _ fun i hi => h i (by simp [hi])).sub (by omega) (by omega))
/-- Functions emitted one behind the other. -/
def addFs (P0 : Pg) (B : Gb) : List Nat → Gb
  | [] => B
  | i :: l => addFs P0 (addF P0 B i (fiA P0 i)) l
theorem addFs_app (P0 : Pg) : ∀ (l m : List Nat) (B : Gb), addFs P0 B (l ++ m) = addFs P0 (addFs P0 B l) m
  | [], _, _ => rfl
  | _ :: l, m, _ => addFs_app P0 l m _
theorem addFs_code (P0 : Pg) : ∀ (l : List Nat) (B : Gb), (addFs P0 B l).code = B.code ++ cdL P0 (fun _ => 0) l B.code.length
  | [], B => by simp [addFs, cdL]
  | i :: l, B => by
    rw [addFs, addFs_code P0 l, addF_len]
    simp [addF, cdL]
theorem addFs_calls (P0 : Pg) : ∀ (l : List Nat) (B : Gb), (addFs P0 B l).calls = B.calls ++ fxL P0 l B.code.length
  | [], B => by simp [addFs, fxL]
  | i :: l, B => by
    rw [addFs, addFs_calls P0 l, addF_len]
    simp [addF, fxL]
theorem addFs_holes (P0 : Pg) : ∀ (l : List Nat) (B : Gb), (addFs P0 B l).holes = B.holes
  | [], _ => rfl
  | i :: l, B => by rw [addFs, addFs_holes P0 l]; rfl
theorem addFs_el (P0 : Pg) : ∀ (l : List Nat) (B : Gb), (addFs P0 B l).entry.length = B.entry.length
  | [], _ => rfl
  | i :: l, B => by rw [addFs, addFs_el P0 l]; simp [addF]
theorem addFs_entry (P0 : Pg) : ∀ (l : List Nat) (B : Gb), l.Nodup → ∀ i, i < B.entry.length → (addFs P0 B l).entry[i]? = if i ∈ l then some ((enO P0 l B.code.length i : Nat) : Int) else B.entry[i]?
  | [], _, _, _, _ => by simp [addFs]
  | j :: l, B, hn, i, hi => by
    rw [List.nodup_cons] at hn
    rw [addFs, addFs_entry P0 l _ hn.2 i (by simpa [addF] using hi), addF_len]
    by_cases h1 : i ∈ l
    · have hj : i ≠ j := fun e => hn.1 (e ▸ h1)
      rw [if_pos h1, if_pos (List.mem_cons_of_mem _ h1)]
      simp only [enO]
      rw [if_neg hj]
    · rw [if_neg h1]
      by_cases hj : i = j
      · subst hj
        rw [if_pos (by simp)]
        simp only [enO, addF]
        rw [if_pos trivial, List.getElem?_set_self hi]
      · rw [if_neg (by simp [hj, h1])]
        simp only [addF]
        rw [List.getElem?_set_ne (Ne.symm hj)]
theorem ord_nodup (n m : Nat) : (ordL n m).Nodup := by
  unfold ordL
  rw [List.nodup_cons]
  exact ⟨by simp, List.Pairwise.filter _ List.nodup_range⟩
theorem ord_lt {n m i : Nat} (hm : m < n) (h : i ∈ ordL n m) : i < n := by
  unfold ordL at h
  rcases List.mem_cons.1 h with rfl | h
  · exact hm
  · exact List.mem_range.1 (List.mem_filter.1 h).1
theorem ord_succ (n m : Nat) : ordL (n + 1) m = if n = m then ordL n m else ordL n m ++ [n] := by
  unfold ordL
  rw [List.range_succ, List.filter_append]
  by_cases h : n = m
  · subst h; simp
  · simp [h]
theorem sumF_app (P : Pg) (l m : List Nat) : sumF P (l ++ m) = sumF P l + sumF P m := by simp [sumF]
theorem ord_mono (P : Pg) (m i : Nat) : ∀ n, i ≤ n → sumF P (ordL i m) ≤ sumF P (ordL n m)
  | 0, h => by rw [Nat.le_zero.1 h]; exact Nat.le_refl _
  | n + 1, h => by
    by_cases e : i = n + 1
    · rw [e]; exact Nat.le_refl _
    · have := ord_mono P m i n (by omega)
      rw [ord_succ]
      split
      · exact this
      · rw [sumF_app]; omega
theorem sumF_cdL (P : Pg) (en : Nat → Nat) (l : List Nat) (a : Nat) : (cdL P en l a).length = sumF P l := cdL_len P en l a
/-- The whole. -/
theorem compiled (P0 : Pg) (m : Nat) : let B := addFs P0 ⟨[], [], [], List.replicate P0.fns.length (-1)⟩ (ordL P0.fns.length m)
    fills (enP P0 m) B.calls B.code = codeP P0 m ∧ B.calls = fxL P0 (ordL P0.fns.length m) 0 ∧ B.holes = [] ∧ B.entry = (List.range P0.fns.length).map (fun i => ((enP P0 m i : Nat) : Int)) := by
  intro B
  have h1 : B.calls = fxL P0 (ordL P0.fns.length m) 0 := by show (addFs P0 _ _).calls = _; rw [addFs_calls]; simp
  have h2 : B.code = cdL P0 (fun _ => 0) (ordL P0.fns.length m) 0 := by show (addFs P0 _ _).code = _; rw [addFs_code]; simp
  refine ⟨by rw [h1, h2]; exact fills_all P0 m, h1, addFs_holes _ _ _, ?_⟩
  have hl : B.entry.length = P0.fns.length := by show (addFs P0 _ _).entry.length = _; rw [addFs_el]; simp
  refine List.ext_getElem? fun i => ?_
  by_cases hi : i < P0.fns.length
  · have := addFs_entry P0 (ordL P0.fns.length m) ⟨[], [], [], List.replicate P0.fns.length (-1)⟩ (ord_nodup _ _) i (by simpa using hi)
    rw [show B.entry[i]? = _ from this, if_pos (mem_ord hi)]
    simp [hi, enP]
  · rw [List.getElem?_eq_none (by omega), List.getElem?_eq_none (by simp; omega)]
end Go.Proofs.Qxb6500277aGreat
