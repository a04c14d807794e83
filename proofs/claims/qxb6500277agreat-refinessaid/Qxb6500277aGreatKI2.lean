/- Objects in a slice; append. -/
import Derived.Test.Qxb6500277aGreatKM1
namespace Go.Proofs.Qxb6500277aGreat
open Go Go.RowKit

def rowO (f : Nat → Value) (n : Nat) : List Value := (List.range (n * 2)).map f
theorem rowO_len (f : Nat → Value) (n : Nat) : (rowO f n).length = n * 2 := by simp [rowO]
theorem rowO_get {f : Nat → Value} {n j : Nat} {u : Value} (e : (rowO f n)[j]? = some u) : j < n * 2 ∧ u = f j := by
  obtain ⟨h1, h2⟩ := List.getElem?_eq_some_iff.1 e
  rw [rowO_len] at h1
  exact ⟨h1, by rw [← h2]; simp [rowO]⟩
section
variable {ops : Array Oper} {Q : Exit → Act → World → Prop} {a : Act} {w : World} {rest : List Oper} {o : Oper}
set_option maxRecDepth 100000 in
theorem wpList_appendO (hgd : o.guard = none) (s x : Operand) (ho : o.op = .call { callee := .builtin .append, args := #[s, x], argTypes := #[125, 125] })
    (v : Value) (n : Nat) (f : Nat → Value) (v1 v2 : Value) (xb xc : Nat) (hs : a.eval s = v) (hx : a.eval x = .slice (some ⟨xb, 0, none⟩) 1 xc) (hv : OA w v n f) (hx1 : w.cell? ⟨xb, 0, none⟩ = some v1) (hx2 : w.cell? ⟨xb, 1, none⟩ = some v2) (h1 : ∀ j, j < n * 2 → (f j).oneCell' = true) (h2 : v1.oneCell' = true ∧ v2.oneCell' = true) (hlen : n ≤ 1000)
    (h : ∀ v' w' f', OA w' v' (n + 1) f' → (∀ j, j < n * 2 → f' j = f j) → f' (n * 2) = v1 → f' (n * 2 + 1) = v2 → (∀ b, isB v' b → w.heap.size ≤ b ∨ isB v b) → (∃ b m c, v' = .slice (some ⟨b, 0, none⟩) m c) → Fr (isB v) w w' → wpList Tryz.prog ops Q rest (a.put o.dst v') w') : wpList Tryz.prog ops Q (o :: rest) a w := by
  obtain ⟨ti, hi, hz, hsz, hby⟩ : ∃ ti, Tryz.prog.info? 195 = some ti ∧ ti.zero = some (.agg #[.slice none 0 0, .slice none 0 0]) ∧ ti.size = 2 ∧ ti.bytes = 48 := by
    have e1 : (Tryz.prog.info? 195).map (·.size) = some 2 := by kernel_rfl
    have e2 : (Tryz.prog.info? 195).map (·.bytes) = some 48 := by kernel_rfl
    have e3 : (Tryz.prog.info? 195).bind (·.zero) = some (.agg #[.slice none 0 0, .slice none 0 0]) := by kernel_rfl
    cases hq : Tryz.prog.info? 195 with
    | none => rw [hq] at e1; cases e1
    | some ti =>
      rw [hq] at e1 e2 e3
      exact ⟨ti, rfl, by simpa using e3, by simpa using e1, by simpa using e2⟩
  have hz9 : (Value.agg #[.slice none 0 0, .slice none 0 0]).cells.size = 2 := by kernel_rfl
  have hadd : ∀ (b j : Nat), (⟨b, 0, none⟩ : Addr).add j = ⟨b, j, none⟩ := fun b j => by rw [Addr.add_lit]; simp
  have hnews : ∀ j u, [v1, v2][j]? = some u → w.cell? ((⟨xb, 0, none⟩ : Addr).add j) = some u := fun j u e => by
    rw [hadd]
    match j, e with
    | 0, e => cases e; exact hx1
    | 1, e => cases e; exact hx2
  have hone : ∀ u ∈ [v1, v2], u.oneCell' = true := fun u hu => by
    simp only [List.mem_cons, List.not_mem_nil, or_false] at hu
    rcases hu with rfl | rfl
    · exact h2.1
    · exact h2.2
  have hgrow : ∀ v' w', w'.ownsRow w.heap.size 195 2 v' (n + 1) (rowO f n ++ [v1, v2]) → w.grownBy w' none → wpList Tryz.prog ops Q rest (a.put o.dst v') w' := by
    intro v' w' hw1 hw2
    obtain ⟨_, ⟨_, h0⟩ | ⟨g, cap, cur, rfl, hg, hb, hn, _, hs, ht⟩⟩ := hw1
    · omega
    · have hcur : ∀ j u, j < n * 2 + 2 → (rowO f n ++ [v1, v2])[j]? = some u → cur.getD j undef = u := fun j u hj e => by
        rw [← ht, List.getElem?_take] at e
        split at e
        · have hjs : j < cur.size := by omega
          simp [hjs] at e ⊢; exact e
        · omega
      refine h _ w' (fun o => cur.getD o undef) (.inr ⟨g, cap, rfl, hn, ⟨cur, 195, hb, by omega, fun o ho => by simp [show o < cur.size by omega]⟩⟩) (fun j hj => ?_) ?_ ?_ (fun b hb' => .inl (by rw [isB_one hb']; exact hg)) ⟨_, _, _, rfl⟩ ((Fr.grownI hw2).mono (fun _ _ h => h.elim))
      · refine hcur j (f j) (by omega) ?_
        rw [List.getElem?_append_left (by rw [rowO_len]; exact hj)]
        simp [rowO, hj]
      · refine hcur _ v1 (by omega) ?_
        rw [List.getElem?_append_right (by rw [rowO_len]; omega), rowO_len]
        simp
      · refine hcur _ v2 (by omega) ?_
        rw [List.getElem?_append_right (by rw [rowO_len]; omega), rowO_len]
        simp
  rcases hv with ⟨rfl, rfl⟩ | ⟨b, cap, rfl, hc, hb⟩
  · exact wpList_append_grows w hgd s x 125 ho 195 ti _ 2 48 Tryz.underlying125 hi hz hsz hby hz9 (by omega) none 0 0 [] hs (fun _ => ⟨rfl, rfl⟩) rfl (fun _ e => by cases e) ⟨xb, 0, none⟩ 1 xc [v1, v2] hx rfl hnews hone (by omega) (by simp [maxLen]) (by omega)
      (fun v' w' g1 g2 => hgrow v' w' g1 g2)
  · refine wpList_append_arg w hgd s x 125 ho 195 ti _ 2 48 Tryz.underlying125 hi hz hsz hby hz9 (by omega) b 0 n cap (rowO f n) hs (rowO_len f n) (fun j u e => ?_)
      ⟨xb, 0, none⟩ 1 xc [v1, v2] hx rfl hnews hone (fun hr j hj => ?_) (by simp only [maxLen]; omega) (by omega) (fun hr => ?_) (fun _ v' w' g1 g2 => hgrow v' w' g1 g2)
    · obtain ⟨hj, rfl⟩ := rowO_get e
      rw [Nat.zero_add, hb.cell (by omega)]
    · have hj2 : j < 2 := by simpa using hj
      rw [hb.cell (by omega)]
      exact ⟨rfl, hb.frozen _⟩
    · refine h _ _ (lay f (0 + n * 2) [v1, v2]) (.inr ⟨b, cap, rfl, hr, hb.setCells _ _⟩) (fun j hj => lay_out _ _ _ _ (.inl (by omega))) ?_ ?_ (fun b' e => .inr (by rw [isB_one e]; exact ⟨_, _, rfl⟩)) ⟨_, _, _, rfl⟩ ((Fr.refl _ _).setCells b (fun _ => ⟨_, _, rfl⟩) _ _)
      · rw [lay_in _ _ _ _ (by omega) (by simp)]; simp
      · rw [lay_in _ _ _ _ (by omega) (by simp)]; simp
end
end Go.Proofs.Qxb6500277aGreat
