/- The engine's buffers: appending bytes and rows. -/
import Derived.Test.Qxb6500277aGreatVA1
namespace Go.Proofs.Qxb6500277aGreat
open Go Go.RowKit

section
variable {ops : Array Oper} {Q : Exit → Act → World → Prop} {a : Act} {w : World} {rest : List Oper} {o : Oper}
set_option maxRecDepth 100000 in
/-- Bytes behind bytes. -/
theorem wpList_appB (hgd : o.guard = none) (s x : Operand) (ho : o.op = .call { callee := .builtin .append, args := #[s, x], argTypes := #[70, 70] })
    (v : Value) (p ys : List Nat) (xb m xc : Nat) (hs : a.eval s = v) (hx : a.eval x = .slice (some ⟨xb, 0, none⟩) m xc) (hm : m = ys.length) (hv : BAt w v p) (hcells : ∀ i, i < ys.length → w.cell? ⟨xb, i, none⟩ = some (.int .u8 (byteAt ys i : Nat))) (hy : 0 < ys.length) (hlen : p.length + ys.length ≤ 100000)
    (h : ∀ v' w', BAt w' v' (p ++ ys) → (∀ b, isB v' b → w.heap.size ≤ b ∨ isB v b) → Fr (isB v) w w' → wpList Tryz.prog ops Q rest (a.put o.dst v') w') : wpList Tryz.prog ops Q (o :: rest) a w := by
  subst hm
  obtain ⟨ti, hi, hz, hsz, hby⟩ := info5
  have hz9 : (bv 0).cells.size = 1 := by kernel_rfl
  have hadd : ∀ (b j : Nat), (⟨b, 0, none⟩ : Addr).add j = ⟨b, j, none⟩ := fun b j => by rw [Addr.add_lit]; simp
  have hnews : ∀ j u, (ys.map bv)[j]? = some u → w.cell? ((⟨xb, 0, none⟩ : Addr).add j) = some u := fun j u e => by
    obtain ⟨hj, rfl⟩ := rowB_get ys j u e
    rw [hadd]; exact hcells j hj
  have hgrow : ∀ v' w', w'.ownsRow w.heap.size 5 1 v' (p.length + ys.length) (p.map bv ++ ys.map bv) → w.grownBy w' none → wpList Tryz.prog ops Q rest (a.put o.dst v') w' := by
    intro v' w' h1 h2
    rw [← List.map_append, ← List.length_append] at h1
    obtain ⟨c1, c2⟩ := BAt.own (by simp; omega) h1
    exact h v' w' c1 (fun b e => .inl (c2 b e)) ((Fr.grownI h2).mono (fun _ _ h => h.elim))
  rcases hv with ⟨rfl, rfl⟩ | ⟨b, cap, f, rfl, hc, hb, hf⟩
  · exact wpList_append_grows w hgd s x 70 ho 5 ti _ 1 1 Tryz.underlying70 hi hz hsz hby hz9 (by omega) none 0 0 [] hs (fun _ => ⟨rfl, rfl⟩) rfl (fun _ e => by cases e) ⟨xb, 0, none⟩ ys.length xc (ys.map bv) hx (by simp) hnews (rowB_one _) (by omega) (by simp [maxLen]; omega) (by omega)
      (fun v' w' h1 h2 => hgrow v' w' (by simpa using h1) h2)
  · refine wpList_append_arg w hgd s x 70 ho 5 ti _ 1 1 Tryz.underlying70 hi hz hsz hby hz9 (by omega) b 0 p.length cap (p.map bv) hs (by simp) (fun j u e => ?_)
      ⟨xb, 0, none⟩ ys.length xc (ys.map bv) hx (by simp) hnews (rowB_one _) (fun hr j hj => ?_) (by simp only [maxLen]; omega) (by omega) (fun hr => ?_) (fun _ v' w' h1 h2 => hgrow v' w' h1 h2)
    · obtain ⟨hj, rfl⟩ := rowB_get p j u e
      rw [Nat.zero_add, hb.cell (by omega), hf j hj]
    · have hj9 : j < ys.length := by simpa using hj
      rw [hb.cell (by omega)]
      exact ⟨rfl, hb.frozen _⟩
    · refine h _ _ ?_ (fun b' e => .inr ?_) ((Fr.refl _ _).setCells b (fun _ => ⟨_, _, rfl⟩) _ _)
      · refine .inr ⟨b, cap, _, by rw [List.length_append], by rw [List.length_append]; omega, hb.setCells _ _, ?_⟩
        intro k hk
        rw [List.length_append] at hk
        by_cases hlt : k < p.length
        · rw [lay_out _ _ _ _ (.inl (by omega)), hf k hlt]
          unfold byteAt
          simp [List.getD_eq_getElem?_getD, List.getElem?_append_left hlt]
        · rw [lay_in _ _ _ _ (by omega) (by simp; omega)]
          unfold byteAt
          have hk2 : k - p.length < ys.length := by omega
          simp [bv, List.getD_eq_getElem?_getD, List.getElem?_append_right (show p.length ≤ k by omega), hk2]
      · rw [isB_one e]; exact ⟨_, _, rfl⟩
end
/-- Rows of the fixup table. -/
def FxAt (w : World) (v : Value) (l : List (Nat × Nat)) : Prop :=
  (v = .slice none 0 0 ∧ l = []) ∨ ∃ b cap f, v = .slice (some ⟨b, 0, none⟩) l.length cap ∧ l.length ≤ cap ∧ Blk w b (cap * 2) f ∧ ∀ i (h : i < l.length), f (i * 2) = .int .i64 (l[i].1 : Nat) ∧ f (i * 2 + 1) = .int .i64 (l[i].2 : Nat)
def rowF (l : List (Nat × Nat)) : List Value := l.flatMap fun x => [.int .i64 (x.1 : Nat), .int .i64 (x.2 : Nat)]
theorem rowF_len (l : List (Nat × Nat)) : (rowF l).length = l.length * 2 := by
  induction l with
  | nil => rfl
  | cons x l ih => unfold rowF at *; simp [List.flatMap_cons, ih]; omega
theorem rowF_at : ∀ (l : List (Nat × Nat)) (i : Nat) (h : i < l.length), (rowF l)[i * 2]? = some (.int .i64 (l[i].1 : Nat)) ∧ (rowF l)[i * 2 + 1]? = some (.int .i64 (l[i].2 : Nat))
  | x :: l, 0, _ => ⟨rfl, rfl⟩
  | x :: l, i + 1, h => by
    obtain ⟨h1, h2⟩ := rowF_at l i (by simpa using h)
    have e : rowF (x :: l) = [.int .i64 (x.1 : Nat), .int .i64 (x.2 : Nat)] ++ rowF l := by simp [rowF, List.flatMap_cons]
    rw [e]
    refine ⟨?_, ?_⟩
    · rw [List.getElem?_append_right (by simp; omega), show (i + 1) * 2 - [Value.int .i64 (x.1 : Nat), .int .i64 (x.2 : Nat)].length = i * 2 by simp; omega]; exact h1
    · rw [List.getElem?_append_right (by simp; omega), show (i + 1) * 2 + 1 - [Value.int .i64 (x.1 : Nat), .int .i64 (x.2 : Nat)].length = i * 2 + 1 by simp; omega]; exact h2
theorem rowF_one (l : List (Nat × Nat)) : ∀ u ∈ rowF l, u.oneCell' = true := fun u hu => by
  unfold rowF at hu
  obtain ⟨x, _, hx⟩ := List.mem_flatMap.1 hu
  simp at hx
  rcases hx with rfl | rfl <;> rfl
section
variable {ops : Array Oper} {Q : Exit → Act → World → Prop} {a : Act} {w : World} {rest : List Oper} {o : Oper}
set_option maxRecDepth 100000 in
theorem wpList_appF (hgd : o.guard = none) (s x : Operand) (ho : o.op = .call { callee := .builtin .append, args := #[s, x], argTypes := #[71, 71] })
    (v : Value) (p : List (Nat × Nat)) (y : Nat × Nat) (xb xc : Nat) (hs : a.eval s = v) (hx : a.eval x = .slice (some ⟨xb, 0, none⟩) 1 xc) (hv : FxAt w v p) (hx1 : w.cell? ⟨xb, 0, none⟩ = some (.int .i64 (y.1 : Nat))) (hx2 : w.cell? ⟨xb, 1, none⟩ = some (.int .i64 (y.2 : Nat))) (hlen : p.length ≤ 100000)
    (h : ∀ v' w', FxAt w' v' (p ++ [y]) → (∀ b, isB v' b → w.heap.size ≤ b ∨ isB v b) → Fr (isB v) w w' → wpList Tryz.prog ops Q rest (a.put o.dst v') w') : wpList Tryz.prog ops Q (o :: rest) a w := by
  obtain ⟨ti, hi, hz, hsz, hby⟩ : ∃ ti, Tryz.prog.info? 132 = some ti ∧ ti.zero = some (.agg #[.int .i64 0, .int .i64 0]) ∧ ti.size = 2 ∧ ti.bytes = 16 := by
    have e1 : (Tryz.prog.info? 132).map (·.size) = some 2 := by kernel_rfl
    have e2 : (Tryz.prog.info? 132).map (·.bytes) = some 16 := by kernel_rfl
    have e3 : (Tryz.prog.info? 132).bind (·.zero) = some (.agg #[.int .i64 0, .int .i64 0]) := by kernel_rfl
    cases hq : Tryz.prog.info? 132 with
    | none => rw [hq] at e1; cases e1
    | some ti =>
      rw [hq] at e1 e2 e3
      exact ⟨ti, rfl, by simpa using e3, by simpa using e1, by simpa using e2⟩
  have hz9 : (Value.agg #[.int .i64 0, .int .i64 0]).cells.size = 2 := by kernel_rfl
  have hadd : ∀ (b j : Nat), (⟨b, 0, none⟩ : Addr).add j = ⟨b, j, none⟩ := fun b j => by rw [Addr.add_lit]; simp
  have hnews : ∀ j u, (rowF [y])[j]? = some u → w.cell? ((⟨xb, 0, none⟩ : Addr).add j) = some u := fun j u e => by
    rw [hadd]
    match j, e with
    | 0, e => cases e; exact hx1
    | 1, e => cases e; exact hx2
  have erow : ∀ p : List (Nat × Nat), rowF p ++ rowF [y] = rowF (p ++ [y]) := fun p => by simp [rowF]
  have hgrow : ∀ v' w', w'.ownsRow w.heap.size 132 2 v' (p.length + 1) (rowF p ++ rowF [y]) → w.grownBy w' none → wpList Tryz.prog ops Q rest (a.put o.dst v') w' := by
    intro v' w' hw1 hw2
    rw [erow] at hw1
    obtain ⟨_, ⟨_, h0⟩ | ⟨g, cap, cur, rfl, hg, hb, hn, _, hs, ht⟩⟩ := hw1
    · omega
    · have hcur : ∀ j u, (rowF (p ++ [y]))[j]? = some u → cur.getD j undef = u := fun j u e => by
        have hj : j < (rowF (p ++ [y])).length := (List.getElem?_eq_some_iff.1 e).1
        rw [rowF_len, List.length_append] at hj
        simp only [List.length_cons, List.length_nil] at hj
        rw [← ht, List.getElem?_take] at e
        split at e
        · have hjs : j < cur.size := by omega
          simp [hjs] at e ⊢; exact e
        · omega
      refine h _ w' (.inr ⟨g, cap, fun o => cur.getD o undef, by simp, by simp; omega, ⟨cur, 132, hb, by omega, fun o ho => by simp [show o < cur.size by omega]⟩, fun i hi => ?_⟩) (fun b hb' => .inl (by rw [isB_one hb']; exact hg)) ((Fr.grownI hw2).mono (fun _ _ h => h.elim))
      obtain ⟨r1, r2⟩ := rowF_at (p ++ [y]) i hi
      exact ⟨hcur _ _ r1, hcur _ _ r2⟩
  rcases hv with ⟨rfl, rfl⟩ | ⟨b, cap, f, rfl, hc, hb, hf⟩
  · exact wpList_append_grows w hgd s x 71 ho 132 ti _ 2 16 Tryz.underlying71 hi hz hsz hby hz9 (by omega) none 0 0 [] hs (fun _ => ⟨rfl, rfl⟩) rfl (fun _ e => by cases e) ⟨xb, 0, none⟩ 1 xc (rowF [y]) hx rfl hnews (rowF_one _) (by omega) (by simp [maxLen]) (by omega)
      (fun v' w' g1 g2 => hgrow v' w' g1 g2)
  · refine wpList_append_arg w hgd s x 71 ho 132 ti _ 2 16 Tryz.underlying71 hi hz hsz hby hz9 (by omega) b 0 p.length cap (rowF p) hs (rowF_len p) (fun j u e => ?_)
      ⟨xb, 0, none⟩ 1 xc (rowF [y]) hx rfl hnews (rowF_one _) (fun hr j hj => ?_) (by simp only [maxLen]; omega) (by omega) (fun hr => ?_) (fun _ v' w' g1 g2 => hgrow v' w' g1 g2)
    · have hj : j < p.length * 2 := by have := (List.getElem?_eq_some_iff.1 e).1; rwa [rowF_len] at this
      obtain ⟨r1, r2⟩ := rowF_at p (j / 2) (by omega)
      obtain ⟨f1, f2⟩ := hf (j / 2) (by omega)
      rw [Nat.zero_add, hb.cell (by omega)]
      rcases Nat.mod_two_eq_zero_or_one j with hm | hm
      · rw [show j / 2 * 2 = j by omega] at r1 f1
        rw [r1] at e
        rw [f1]; exact e
      · rw [show j / 2 * 2 + 1 = j by omega] at r2 f2
        rw [r2] at e
        rw [f2]; exact e
    · have hj2 : j < 2 := by simpa [rowF] using hj
      rw [hb.cell (by omega)]
      exact ⟨rfl, hb.frozen _⟩
    · refine h _ _ (.inr ⟨b, cap, lay f (0 + p.length * 2) (rowF [y]), by simp, by simp; omega, hb.setCells _ _, fun i hi => ?_⟩) (fun b' e => .inr (by rw [isB_one e]; exact ⟨_, _, rfl⟩)) ((Fr.refl _ _).setCells b (fun _ => ⟨_, _, rfl⟩) _ _)
      simp only [List.length_append, List.length_cons, List.length_nil] at hi
      by_cases hlt : i < p.length
      · rw [List.getElem_append_left hlt, lay_out _ _ _ _ (.inl (by omega)), lay_out _ _ _ _ (.inl (by omega))]
        exact hf i hlt
      · obtain rfl : i = p.length := by omega
        rw [List.getElem_append_right (Nat.le_refl _), lay_in _ _ _ _ (by omega) (by simp [rowF]), lay_in _ _ _ _ (by omega) (by simp [rowF])]
        simp [rowF]
end
end Go.Proofs.Qxb6500277aGreat
