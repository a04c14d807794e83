/- Frames in a slice; append. -/
import Derived.Test.Qxb6500281aGreatVM1
import Derived.ArgAppend
namespace Go.Proofs.Qxb6500281aGreat
open Go Go.RowKit

def rowF (f : Nat → Value) (n : Nat) : List Value := (List.range (n * 5)).map f
theorem rowF_len (f : Nat → Value) (n : Nat) : (rowF f n).length = n * 5 := by simp [rowF]
theorem rowF_get {f : Nat → Value} {n j : Nat} {u : Value} (e : (rowF f n)[j]? = some u) : j < n * 5 ∧ u = f j := by
  obtain ⟨h1, h2⟩ := List.getElem?_eq_some_iff.1 e
  rw [rowF_len] at h1
  exact ⟨h1, by rw [← h2]; simp [rowF]⟩
section
variable {ops : Array Oper} {Q : Exit → Act → World → Prop} {a : Act} {w : World} {rest : List Oper} {o : Oper}
set_option maxRecDepth 100000 in
theorem wpList_appendF (hgd : o.guard = none) (s x : Operand) (ho : o.op = .call { callee := .builtin .append, args := #[s, x], argTypes := #[83, 83] })
    (v : Value) (n : Nat) (f : Nat → Value) (nv : List Value) (xb xc : Nat) (hs : a.eval s = v) (hx : a.eval x = .slice (some ⟨xb, 0, none⟩) 1 xc) (hv : FA w v n f) (hl : nv.length = 5) (hx1 : ∀ j u, nv[j]? = some u → w.cell? ⟨xb, j, none⟩ = some u) (hone : ∀ u ∈ nv, u.oneCell' = true) (hn : n ≤ 100000)
    (h : ∀ v' w' f', FA w' v' (n + 1) f' → (∀ j, j < n * 5 → f' j = f j) → (∀ j u, nv[j]? = some u → f' (n * 5 + j) = u) → (∀ b, isB v' b → w.heap.size ≤ b ∨ isB v b) → (∃ b m c, v' = .slice (some ⟨b, 0, none⟩) m c) → Fr (isB v) w w' → wpList Tryz.prog ops Q rest (a.put o.dst v') w') : wpList Tryz.prog ops Q (o :: rest) a w := by
  obtain ⟨ti, hi, hz, hsz, hby⟩ : ∃ ti, Tryz.prog.info? 101 = some ti ∧ ti.zero = some (.agg #[.int .i64 0, .slice none 0 0, .slice none 0 0, .int .i64 0, .int .i64 0]) ∧ ti.size = 5 ∧ ti.bytes = 72 := by
    have e1 : (Tryz.prog.info? 101).map (·.size) = some 5 := by kernel_rfl
    have e2 : (Tryz.prog.info? 101).map (·.bytes) = some 72 := by kernel_rfl
    have e3 : (Tryz.prog.info? 101).bind (·.zero) = some (.agg #[.int .i64 0, .slice none 0 0, .slice none 0 0, .int .i64 0, .int .i64 0]) := by kernel_rfl
    cases hq : Tryz.prog.info? 101 with
    | none => rw [hq] at e1; cases e1
    | some ti =>
      rw [hq] at e1 e2 e3
      exact ⟨ti, rfl, by simpa using e3, by simpa using e1, by simpa using e2⟩
  have hz9 : (Value.agg #[.int .i64 0, .slice none 0 0, .slice none 0 0, .int .i64 0, .int .i64 0]).cells.size = 5 := by kernel_rfl
  have hadd : ∀ (b j : Nat), (⟨b, 0, none⟩ : Addr).add j = ⟨b, j, none⟩ := fun b j => by rw [Addr.add_lit]; simp
  have hnews : ∀ j u, nv[j]? = some u → w.cell? ((⟨xb, 0, none⟩ : Addr).add j) = some u := fun j u e => by rw [hadd]; exact hx1 j u e
  have hgrow : ∀ v' w', w'.ownsRow w.heap.size 101 5 v' (n + 1) (rowF f n ++ nv) → w.grownBy w' none → wpList Tryz.prog ops Q rest (a.put o.dst v') w' := by
    intro v' w' hw1 hw2
    obtain ⟨_, ⟨_, h0⟩ | ⟨g, cap, cur, rfl, hg, hb, hn, _, hs, ht⟩⟩ := hw1
    · omega
    · have hcur : ∀ j u, j < n * 5 + 5 → (rowF f n ++ nv)[j]? = some u → cur.getD j undef = u := fun j u hj e => by
        rw [← ht, List.getElem?_take] at e
        split at e
        · have hjs : j < cur.size := by omega
          simp [hjs] at e ⊢; exact e
        · omega
      refine h _ w' (fun o => cur.getD o undef) (.inr ⟨g, cap, rfl, hn, ⟨cur, 101, hb, by omega, fun o ho => by simp [show o < cur.size by omega]⟩⟩) (fun j hj => ?_) (fun j u hj => ?_) (fun b hb' => .inl (by rw [isB_one hb']; exact hg)) ⟨_, _, _, rfl⟩ ((Fr.grownI hw2).mono (fun _ _ h => h.elim))
      · refine hcur j (f j) (by omega) ?_
        rw [List.getElem?_append_left (by rw [rowF_len]; exact hj)]
        simp [rowF, hj]
      · have hj5 := (List.getElem?_eq_some_iff.1 hj).1
        refine hcur _ u (by omega) ?_
        rw [List.getElem?_append_right (by rw [rowF_len]; omega), rowF_len, show n * 5 + j - n * 5 = j by omega]
        exact hj
  rcases hv with ⟨rfl, rfl⟩ | ⟨b, cap, rfl, hc, hb⟩
  · exact wpList_append_grows w hgd s x 83 ho 101 ti _ 5 72 Tryz.underlying83 hi hz hsz hby hz9 (by omega) none 0 0 [] hs (fun _ => ⟨rfl, rfl⟩) rfl (fun _ e => by cases e) ⟨xb, 0, none⟩ 1 xc nv hx (by omega) hnews hone (by omega) (by simp [maxLen]) (by omega)
      (fun v' w' g1 g2 => hgrow v' w' g1 g2)
  · refine wpList_append_arg w hgd s x 83 ho 101 ti _ 5 72 Tryz.underlying83 hi hz hsz hby hz9 (by omega) b 0 n cap (rowF f n) hs (rowF_len f n) (fun j u e => ?_)
      ⟨xb, 0, none⟩ 1 xc nv hx (by omega) hnews hone (fun hr j hj => ?_) (by simp only [maxLen]; omega) (by omega) (fun hr => ?_) (fun _ v' w' g1 g2 => hgrow v' w' g1 g2)
    · obtain ⟨hj, rfl⟩ := rowF_get e
      rw [Nat.zero_add, hb.cell (by omega)]
    · rw [hb.cell (by omega)]
      exact ⟨rfl, hb.frozen _⟩
    · refine h _ _ (lay f (0 + n * 5) nv) (.inr ⟨b, cap, rfl, hr, hb.setCells _ _⟩) (fun j hj => lay_out _ _ _ _ (.inl (by omega))) (fun j u hj => ?_) (fun b' e => .inr (by rw [isB_one e]; exact ⟨_, _, rfl⟩)) ⟨_, _, _, rfl⟩ ((Fr.refl _ _).setCells b (fun _ => ⟨_, _, rfl⟩) _ _)
      obtain ⟨q1, q2⟩ := List.getElem?_eq_some_iff.1 hj
      rw [lay_in _ _ _ _ (by omega) (by omega)]
      simp only [Nat.zero_add, Nat.add_sub_cancel_left]
      exact q2
end
end Go.Proofs.Qxb6500281aGreat
