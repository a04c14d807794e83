/- The whole code: order, entries, length, bytes. -/
import Derived.Test.Qxb6500277aGreatGP19
namespace Go.Proofs.Qxb6500277aGreat
open Go Go.RowKit

/-- The order of the code: main first. -/
def ordL (n m : Nat) : List Nat := m :: (List.range n).filter (fun i => decide (i ≠ m))
theorem mem_ord {n m i : Nat} (hi : i < n) : i ∈ ordL n m := by
  unfold ordL
  by_cases h : i = m
  · rw [h]; exact List.mem_cons_self ..
  · exact List.mem_cons_of_mem _ (List.mem_filter.2 ⟨List.mem_range.2 hi, by simp [h]⟩)
def sumR (g : Nat → Nat) : Nat → Nat
  | 0 => 0
  | n + 1 => sumR g n + g n
theorem sum_filter (g : Nat → Nat) (m : Nat) : ∀ n, (((List.range n).filter (fun i => decide (i ≠ m))).map g).sum + (if m < n then g m else 0) = sumR g n
  | 0 => by simp [sumR]
  | n + 1 => by
    have ih := sum_filter g m n
    rw [List.range_succ, List.filter_append, List.map_append, List.sum_append, sumR]
    by_cases h : n = m
    · subst h
      rw [if_neg (by omega)] at ih
      rw [if_pos (by omega)]
      have e : List.filter (fun i => decide (i ≠ n)) [n] = [] := by simp
      rw [e]
      simp only [List.map_nil, List.sum_nil]
      omega
    · have e : List.filter (fun i => decide (i ≠ m)) [n] = [n] := by simp [h]
      rw [e]
      simp only [List.map_cons, List.map_nil, List.sum_cons, List.sum_nil]
      by_cases hm : m < n
      · rw [if_pos hm] at ih
        rw [if_pos (by omega)]
        omega
      · rw [if_neg hm] at ih
        rw [if_neg (by omega)]
        omega
theorem cdL_len (P : Pg) (en : Nat → Nat) : ∀ (l : List Nat) (a : Nat), (cdL P en l a).length = (l.map (fun i => nF (fiA P i))).sum
  | [], _ => rfl
  | j :: l, a => by simp [cdL, cF_len, cdL_len P en l]
theorem sumR_list (fs : List Fi) : ∀ n, n ≤ fs.length → sumR (fun i => nF (fs.getD i ⟨0, 0, 0, 0, 0, 0, .nil⟩)) n = ((fs.take n).map nF).sum
  | 0, _ => by simp [sumR]
  | n + 1, h => by
    have e : fs.getD n ⟨0, 0, 0, 0, 0, 0, .nil⟩ = fs[n] := by rw [List.getD_eq_getElem?_getD, List.getElem?_eq_getElem (show n < fs.length by omega)]; rfl
    rw [sumR, sumR_list fs n (by omega), List.take_add_one, List.getElem?_eq_getElem (by omega), List.map_append, List.sum_append, e]
    simp only [Option.toList_some, List.map_cons, List.map_nil, List.sum_cons, List.sum_nil, Nat.add_zero]
theorem mkF_sum (X : Cx) (lim : List (Nat × Nat)) : ∀ (gs : List Fnc) (cur b : Nat), ((mkF X lim cur b gs).map nF).sum ≤ 15 * szFs gs
  | [], _, _ => by simp [mkF]
  | f :: r, cur, b => by
    have := mkF_sum X lim r (cur + 1) (b + szF f)
    have h2 := nF_le ⟨(fAt X.fs cur).pi, (fAt X.fs cur).pr, (lAt lim cur).1, (lAt lim cur).2, (fAt X.fs cur).ret, b + f.ps.length, f.ss⟩
    simp only [mkF, List.map_cons, List.sum_cons, szFs]
    simp only [] at h2
    have e : szF f = f.ps.length + (szSs f.ss + 1) + 1 := rfl
    omega
/-- The entries and the code of a program whose main is function m. -/
def enP (P : Pg) (m : Nat) : Nat → Nat := enO P (ordL P.fns.length m) 0
def codeP (P : Pg) (m : Nat) : List Nat := cdL P (enP P m) (ordL P.fns.length m) 0
theorem enP_main (P : Pg) (m : Nat) : enP P m m = 0 := by unfold enP ordL; simp [enO]
theorem codeP_len {P : Pg} {m : Nat} (hm : m < P.fns.length) : (codeP P m).length = (P.fns.map nF).sum := by
  unfold codeP
  rw [cdL_len]
  have h1 := sum_filter (fun i => nF (fiA P i)) m P.fns.length
  rw [if_pos hm] at h1
  have h2 := sumR_list P.fns P.fns.length (Nat.le_refl _)
  rw [List.take_length] at h2
  unfold ordL
  rw [List.map_cons, List.sum_cons]
  have h3 : sumR (fun i => nF (fiA P i)) P.fns.length = sumR (fun i => nF (P.fns.getD i ⟨0, 0, 0, 0, 0, 0, .nil⟩)) P.fns.length := rfl
  omega
theorem byL {P : Pg} {en : Nat → Nat} : ∀ (l : List Nat) (a : Nat), (∀ i ∈ l, ∀ a, By (cF P en a (fiA P i))) → By (cdL P en l a)
  | [], _, _ => .nil
  | j :: l, a, h => (h j (by simp) a).app (byL l _ fun i hi => h i (by simp [hi]))
/-- What a program that the checker takes is. -/
structure ProgOk (P : Pg) (C : List Nat) (en : Nat → Nat) (m : Nat) : Prop where
  ok : PgOk P C en
  mn : m < P.fns.length
  m0 : en m = 0
  pi : (fiA P m).pi = 0
  pr : (fiA P m).pr = 0
  rt : (fiA P m).ret < 2
  len : C.length ≤ 3000
  by' : ∀ i, byteAt C i < 256
theorem ckAll_ok {gs : List Fnc} {len : Int} {X : Cx} {s : Ck} {m : Nat} (h : ckAll gs len = .ok X s m) : ckH 0 gs ⟨[], []⟩ = .ok X ∧ (∃ x, ckFs X 0 0 gs ⟨[], 0, 0, 0, List.replicate gs.length (0, 0), List.replicate (szFs gs) (-1), List.replicate (szFs gs) (-1)⟩ = .ok x s) ∧ fndF mainB X.fs = some m ∧ (fAt X.fs m).pi + (fAt X.fs m).pr = 0 ∧ (fAt X.fs m).ret = 0 := by
  unfold ckAll at h
  split at h
  · cases h
  · rename_i X' h1
    split at h
    · cases h
    · rename_i x s' h2
      split at h
      · cases h
      · rename_i m' h3
        split at h
        · cases h
        · rename_i hc
          injection h with e1 e2 e3
          subst e1 e2 e3
          exact ⟨h1, ⟨x, h2⟩, h3, by omega, by omega⟩
theorem prog_ok {gs : List Fnc} {len : Int} {X : Cx} {s : Ck} {m : Nat} (h : ckAll gs len = .ok X s m) (ho : ∀ f ∈ gs, OkF f) (hn : ∀ f ∈ gs, NmSs f.ss) (hz : szFs gs ≤ 200)
    (hx : ∀ j, j < X.fs.length → (fAt X.fs j).pi = cI (pAt X.pt j) ∧ (fAt X.fs j).pr = cR (pAt X.pt j)) (inp : List Int) : ProgOk (mkP X s gs inp) (codeP (mkP X s gs inp) m) (enP (mkP X s gs inp) m) m := by
  obtain ⟨h1, ⟨x, h2⟩, h3, h4, h5⟩ := ckAll_ok h
  have hH := (ckH_ok gs 0 ⟨[], []⟩ X h1 rfl).1
  have hH' : HdsAt X 0 0 gs := hH
  have hlen : gs.length = X.fs.length := by have := HdsAt.pre gs 0 0 hH'; omega
  have hfl : (mkP X s gs inp).fns.length = gs.length := mkF_len X s.lim gs 0 0
  have hml : m < X.fs.length := (lst_some h3).1
  have hl12 : L12 s := l12Fs gs 0 0 _ _ _ h2 (fun j => by
    unfold lAt
    rw [List.getD_eq_getElem?_getD, List.getElem?_replicate]
    split <;> simp)
  have hfi : ∀ (P : Pg) (i : Nat) (F : Fi), P.fns[i]? = some F → fiA P i = F := fun P i F hf => by unfold fiA; rw [List.getD_eq_getElem?_getD, hf]; rfl
  -- the functions' numbers, by the heads alone
  have hnum : ∀ (l : List Fnc) (cur b i : Nat), HdsAt X b cur l → i < l.length → ∃ F, (mkF X s.lim cur b l)[i]? = some F ∧ F.pi = (fAt X.fs (cur + i)).pi ∧ F.pr = (fAt X.fs (cur + i)).pr ∧ F.ret = (fAt X.fs (cur + i)).ret ∧ F.li ≤ 12 ∧ F.lr ≤ 12 := fun l => by
    induction l with
    | nil => intro cur b i _ hi; simp at hi
    | cons f r ih =>
      intro cur b i hh hi
      cases i with
      | zero => exact ⟨_, rfl, rfl, rfl, rfl, (hl12 cur).1, (hl12 cur).2⟩
      | succ i =>
        simp only [HdsAt] at hh
        obtain ⟨F, q⟩ := ih (cur + 1) (b + szF f) i hh.2.2.2.2.2 (by simpa using hi)
        refine ⟨F, ?_⟩
        rw [show cur + (i + 1) = cur + 1 + i by omega]
        exact q
  have hX : PX (mkP X s gs inp) X := ⟨by rw [hfl, hlen], fun i hi => by
    obtain ⟨F, q1, q2, q3, q4, _⟩ := hnum gs 0 0 i hH' (by omega)
    rw [Nat.zero_add] at q2 q3 q4
    rw [hfi (mkP X s gs inp) i F q1, q2, q3, q4]
    exact ⟨(hx i hi).1, (hx i hi).2, rfl⟩⟩
  have hFG := ckFs_all hX gs 0 0 _ x s h2 ho hn (by simp) ⟨by simp, by simp⟩ (fun y _ _ => ⟨rfl, rfl⟩)
  have hfn : ∀ i, i < (mkP X s gs inp).fns.length → ∃ F, fiA (mkP X s gs inp) i = F ∧ F.pi ≤ F.li ∧ F.pr ≤ F.lr ∧ F.li ≤ 12 ∧ F.lr ≤ 12 ∧ WtSs (mkP X s gs inp) F.li F.lr F.ret F.bb F.ss := fun i hi => by
    obtain ⟨F, q1, q2, q3, q4, _⟩ := FnG.get gs 0 0 i hFG hH' hx (by omega)
    obtain ⟨F', r1, _, _, _, r5, r6⟩ := hnum gs 0 0 i hH' (by omega)
    rw [q1] at r1
    injection r1 with r1
    subst r1
    exact ⟨F, hfi _ _ _ q1, q2, q3, r5, r6, q4⟩
  have hcl : (codeP (mkP X s gs inp) m).length ≤ 3000 := by
    rw [codeP_len (by rw [hfl]; omega)]
    have := mkF_sum X s.lim gs 0 0
    have e : (mkP X s gs inp).fns = mkF X s.lim 0 0 gs := rfl
    rw [e]
    omega
  have hby : By (codeP (mkP X s gs inp) m) := byL _ _ fun i hi a => by
    have hil : i < (mkP X s gs inp).fns.length := by
      unfold ordL at hi
      rcases List.mem_cons.1 hi with rfl | hi
      · rw [hfl]; omega
      · exact List.mem_range.1 (List.mem_filter.1 hi).1
    obtain ⟨F, e, q1, q2, q3, q4, q5⟩ := hfn i hil
    rw [e]
    exact byF q1 q2 q3 q4 q5
  obtain ⟨F, m1, m2, m3, m4, _⟩ := hnum gs 0 0 m hH' (by omega)
  rw [Nat.zero_add] at m2 m3 m4
  have em := hfi (mkP X s gs inp) m F m1
  refine ⟨⟨by omega, fun i hi => ?_⟩, by rw [hfl]; omega, enP_main _ _, by rw [em, m2]; omega, by rw [em, m3]; omega, by rw [em, m4, h5]; omega, hcl, fun i => ?_⟩
  · obtain ⟨F, e, q1, q2, _, _, q5⟩ := hfn i hi
    rw [← e] at q1 q2 q5
    exact ⟨q1, q2, cdL_at _ _ _ _ 0 i (mem_ord hi) (CdA.whole _), q5⟩
  · unfold byteAt
    by_cases hi : i < (codeP (mkP X s gs inp) m).length
    · rw [List.getD_eq_getElem?_getD, List.getElem?_eq_getElem hi]
      exact hby _ (List.getElem_mem hi)
    · rw [List.getD_eq_getElem?_getD, List.getElem?_eq_none (by omega)]
      decide
end Go.Proofs.Qxb6500277aGreat
