/- The checker's plain side: what the parser's trees are like; the functions' heads. -/
import Derived.Test.Qxb6500277aGreatCK3
import Derived.Test.Qxb6500277aGreatCN1
namespace Go.Proofs.Qxb6500277aGreat
open Go Go.RowKit

mutual
theorem tyE_of : (e : Exp) → ∀ lv d, OkE lv d e → TyE e
  | .num .., _, _, _ => by simp [TyE]
  | .boo .., _, _, _ => by simp [TyE]
  | .var .., _, _, _ => by simp [TyE]
  | .rd .., _, _, _ => by simp [TyE]
  | .call _ _ gs, lv, d, h => by simp only [OkE] at h; simp only [TyE]; exact tyEs_of gs _ h.2
  | .idx _ a b, lv, d, h => by simp only [OkE] at h; simp only [TyE]; exact ⟨tyE_of a _ _ h.2.1, tyE_of b _ _ h.2.2⟩
  | .new t _ e, lv, d, h => by simp only [OkE] at h; simp only [TyE]; exact ⟨h.1, tyE_of e _ _ h.2.2⟩
  | .len _ e, lv, d, h => by simp only [OkE] at h; simp only [TyE]; exact tyE_of e _ _ h.2
  | .un _ _ e, lv, d, h => by
    simp only [OkE] at h; simp only [TyE]
    have h2 := h.2
    split at h2
    · exact tyE_of e _ _ h2.2
    · exact tyE_of e _ _ h2.2
  | .bin _ _ l r, lv, d, h => by
    simp only [OkE] at h; simp only [TyE]
    have h2 := h.2
    split at h2
    · exact ⟨tyE_of l _ _ h2.2.1, tyE_of r _ _ h2.2.2⟩
    · exact ⟨tyE_of l _ _ h2.1, tyE_of r _ _ h2.2⟩
theorem tyEs_of : (e : Exps) → ∀ d, OkEs d e → TyEs e
  | .nil, _, _ => by simp [TyEs]
  | .cons e es, d, h => by simp only [OkEs] at h; simp only [TyEs]; exact ⟨tyE_of e _ _ h.1, tyEs_of es _ h.2⟩
end
mutual
theorem tyS_of : (e : Stm) → ∀ d, OkS d e → TyS e
  | .vd _ _ t e, d, h => by simp only [OkS] at h; simp only [TyS]; exact ⟨h.1, tyE_of e _ _ h.2⟩
  | .asg _ a b, d, h => by simp only [OkS] at h; simp only [TyS]; exact ⟨tyE_of a _ _ h.2.1, tyE_of b _ _ h.2.2⟩
  | .iff _ e _ b, d, h => by simp only [OkS] at h; simp only [TyS]; exact ⟨tyE_of e _ _ h.1, tySs_of b _ h.2.2⟩
  | .whl _ e _ b, d, h => by simp only [OkS] at h; simp only [TyS]; exact ⟨tyE_of e _ _ h.1, tySs_of b _ h.2.2⟩
  | .ife _ e _ b _ c, d, h => by simp only [OkS] at h; simp only [TyS]; exact ⟨tyE_of e _ _ h.1, tySs_of b _ h.2.2.1, tySs_of c _ h.2.2.2⟩
  | .ret _ e, d, h => by simp only [OkS] at h; simp only [TyS]; exact tyE_of e _ _ h
  | .prt _ e, d, h => by simp only [OkS] at h; simp only [TyS]; exact tyE_of e _ _ h
  | .exp e, d, h => by simp only [OkS] at h; simp only [TyS]; exact tyE_of e _ _ h
theorem tySs_of : (e : Stms) → ∀ d, OkSs d e → TySs e
  | .nil, _, _ => by simp [TySs]
  | .cons e es, d, h => by simp only [OkSs] at h; simp only [TySs]; exact ⟨tyS_of e _ h.1, tySs_of es _ h.2⟩
end
/-- The functions' heads, static facts. -/
structure XOk (X : Cx) (ns : List Nd) : Prop where
  le : X.fs.length ≤ 8
  pl : X.pt.length = X.fs.length
  p4 : ∀ i, i < X.fs.length → (pAt X.pt i).length ≤ 4 ∧ (fAt X.fs i).pi = cI (pAt X.pt i) ∧ (fAt X.fs i).pr = cR (pAt X.pt i)
  rt : ∀ i, 0 ≤ (fAt X.fs i).ret ∧ (fAt X.fs i).ret < 8
  nd : ∀ i, i < X.fs.length → 0 ≤ (fAt X.fs i).node ∧ (fAt X.fs i).node < ns.length
  nm : ∀ i, i < X.fs.length → (fAt X.fs i).name.size ≤ 8
  un : ∀ i j, i < X.fs.length → j < X.fs.length → (fAt X.fs i).name = (fAt X.fs j).name → i = j
theorem fAt_app {a b : List Fh} {i : Nat} (h : i < a.length) : fAt (a ++ b) i = fAt a i := by
  unfold fAt; simp [List.getD_eq_getElem?_getD, List.getElem?_append_left h]
theorem fAt_last (a : List Fh) (v : Fh) : fAt (a ++ [v]) a.length = v := by
  unfold fAt; simp [List.getD_eq_getElem?_getD]
theorem pAt_app {a b : List (List Int)} {i : Nat} (h : i < a.length) : pAt (a ++ b) i = pAt a i := by
  unfold pAt; simp [List.getD_eq_getElem?_getD, List.getElem?_append_left h]
theorem pAt_last (a : List (List Int)) (v : List Int) : pAt (a ++ [v]) a.length = v := by
  unfold pAt; simp [List.getD_eq_getElem?_getD]
theorem XOk.nil (ns : List Nd) : XOk ⟨[], []⟩ ns :=
  ⟨by simp, rfl, (fun i h => by cases h), (fun i => by simp [fAt]), (fun i h => by cases h), (fun i h => by cases h), (fun i j h => by cases h)⟩
theorem XOk.add {X : Cx} {ns : List Nd} (h : XOk X ns) (hl : X.fs.length < 8) {h0 : Fh} {p : List Int} (hp : p.length ≤ 4) (e1 : h0.pi = cI p) (e2 : h0.pr = cR p) (hr : 0 ≤ h0.ret ∧ h0.ret < 8) (hn : 0 ≤ h0.node ∧ h0.node < ns.length) (h8 : h0.name.size ≤ 8) (hf : fndF h0.name X.fs = none) : XOk ⟨X.fs ++ [h0], X.pt ++ [p]⟩ ns := by
  have key : ∀ (P : Nat → Prop), (∀ i, i < X.fs.length → P i) → P X.fs.length → ∀ i, i < (X.fs ++ [h0]).length → P i := fun P p1 p2 i hi => by
    simp only [List.length_append, List.length_singleton] at hi
    by_cases e : i < X.fs.length
    · exact p1 i e
    · obtain rfl : i = X.fs.length := by omega
      exact p2
  have hno : ∀ j, j < X.fs.length → (fAt X.fs j).name ≠ h0.name := fun j hj => by simpa using lst_none hf j hj
  refine ⟨by simp; omega, by simp [h.pl], ?_, ?_, ?_, ?_, ?_⟩
  · refine key _ (fun i hi => ?_) ?_
    · rw [fAt_app hi, pAt_app (by rw [h.pl]; exact hi)]; exact h.p4 i hi
    · rw [fAt_last, ← h.pl, pAt_last]; exact ⟨hp, e1, e2⟩
  · intro i
    by_cases hi : i < (X.fs ++ [h0]).length
    · refine key (fun i => 0 ≤ (fAt (X.fs ++ [h0]) i).ret ∧ (fAt (X.fs ++ [h0]) i).ret < 8) (fun i hi => ?_) ?_ i hi
      · rw [fAt_app hi]; exact h.rt i
      · rw [fAt_last]; exact hr
    · unfold fAt
      simp [List.getD_eq_getElem?_getD, List.getElem?_eq_none (Nat.le_of_not_lt hi)]
  · refine key _ (fun i hi => ?_) ?_
    · rw [fAt_app hi]; exact h.nd i hi
    · rw [fAt_last]; exact hn
  · refine key _ (fun i hi => ?_) ?_
    · rw [fAt_app hi]; exact h.nm i hi
    · rw [fAt_last]; exact h8
  · intro i j hi hj
    simp only [List.length_append, List.length_singleton] at hi hj
    by_cases ei : i < X.fs.length
    · by_cases ej : j < X.fs.length
      · rw [fAt_app ei, fAt_app ej]; exact h.un i j ei ej
      · obtain rfl : j = X.fs.length := by omega
        rw [fAt_app ei, fAt_last]; exact fun e => absurd e (hno i ei)
    · obtain rfl : i = X.fs.length := by omega
      by_cases ej : j < X.fs.length
      · rw [fAt_app ej, fAt_last]; exact fun e => absurd e.symm (hno j ej)
      · exact fun _ => by omega
/-- The first function of a name is the last. -/
theorem fndF_one {X : Cx} {ns : List Nd} (h : XOk X ns) {s : ByteArray} {i : Nat} (hi : i < X.fs.length) (e : (fAt X.fs i).name = s) : fndF s X.fs = some i :=
  lst_hit hi (by simpa using e) fun j h1 h2 => by
    simp only [decide_eq_false_iff_not]
    exact fun e' => by have := h.un i j hi h2 (by rw [e, e']); omega
end Go.Proofs.Qxb6500277aGreat
