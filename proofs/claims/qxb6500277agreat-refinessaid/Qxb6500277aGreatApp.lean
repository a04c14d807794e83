/- append onto a list of tokens, said of blocks. -/
import Derived.Test.Qxb6500277aGreatLexP3
import Derived.ArgAppend
namespace Go.Proofs.Qxb6500277aGreat
open Go Go.RowKit

def tokRow (p : List Tok) : List Value := p.flatMap fun t => [.int .i64 t.kind, .int .i64 t.pos, .int .i64 t.val, .string t.text]
theorem tokRow_length (p : List Tok) : (tokRow p).length = p.length * 4 := by
  induction p with
  | nil => rfl
  | cons i p ih => simp only [tokRow, List.flatMap_cons, List.length_append, List.length_cons, List.length_nil] at ih ⊢; omega
theorem tokRow_get : ∀ (p : List Tok) (i : Nat) (h : i < p.length) (j : Nat), j < 4 → (tokRow p)[i * 4 + j]? = some (tokCell p[i] j)
  | [], _, h, _, _ => absurd h (by simp)
  | q :: p, 0, _, j, hj => by
    rcases (show j = 0 ∨ j = 1 ∨ j = 2 ∨ j = 3 by omega) with rfl | rfl | rfl | rfl <;> rfl
  | q :: p, i + 1, h, j, hj => by
    have := tokRow_get p i (by simpa using h) j hj
    simp only [tokRow, List.flatMap_cons] at this ⊢
    rw [List.getElem?_append_right (by simp; omega)]
    simpa [show (i + 1) * 4 + j - 4 = i * 4 + j by omega] using this
theorem tokRow_append (p q : List Tok) : tokRow (p ++ q) = tokRow p ++ tokRow q := by simp [tokRow]
theorem tokRow_one (p : List Tok) : ∀ u ∈ tokRow p, u.oneCell' = true := by
  intro u hu
  simp only [tokRow, List.mem_flatMap] at hu
  obtain ⟨i, _, hu⟩ := hu
  simp only [List.mem_cons, List.not_mem_nil, or_false] at hu
  rcases hu with rfl | rfl | rfl | rfl <;> rfl
/-- Block b's first cells hold the tokens p. -/
def PAt (w : World) (b : Nat) (p : List Tok) : Prop := ∀ o, o < p.length * 4 → w.cell? ⟨b, o, none⟩ = some (bufF p o)
theorem PAt.row {w : World} {b : Nat} {p : List Tok} (h : PAt w b p) (j : Nat) (u : Value) (e : (tokRow p)[j]? = some u) : w.cell? ⟨b, j, none⟩ = some u := by
  have hj : j < p.length * 4 := by have := (List.getElem?_eq_some_iff.1 e).1; rwa [tokRow_length] at this
  have h1 := tokRow_get p (j / 4) (by omega) (j % 4) (by omega)
  rw [show j / 4 * 4 + j % 4 = j by omega] at h1
  rw [h1] at e
  cases e
  rw [h j hj]
  simp [bufF, show j / 4 < p.length by omega]
theorem row_buf {p : List Tok} {f : Nat → Value} (h : ∀ j u, (tokRow p)[j]? = some u → f j = u) : ∀ o, o < p.length * 4 → f o = bufF p o := by
  intro o ho
  have h1 := tokRow_get p (o / 4) (by omega) (o % 4) (by omega)
  rw [show o / 4 * 4 + o % 4 = o by omega] at h1
  rw [h o _ h1]
  simp [bufF, show o / 4 < p.length by omega]

/-- A slice that holds the tokens p, with spare room behind them perhaps. -/
def SlAt (w : World) (v : Value) (p : List Tok) : Prop :=
  (v = .slice none 0 0 ∧ p = []) ∨ ∃ b cap f, v = .slice (some ⟨b, 0, none⟩) p.length cap ∧ p.length ≤ cap ∧ Blk w b (cap * 4) f ∧ ∀ o, o < p.length * 4 → f o = bufF p o
theorem SlAt.frame {S : Nat → Prop} {w w' : World} {v : Value} {p : List Tok} (h : SlAt w v p) (k : Fr S w w') (hb : ∀ b n c, v = .slice (some ⟨b, 0, none⟩) n c → ¬ S b) : SlAt w' v p := by
  rcases h with h | ⟨b, cap, f, rfl, hc, hb', hf⟩
  · exact .inl h
  · exact .inr ⟨b, cap, f, rfl, hc, hb'.frame k (hb _ _ _ rfl), hf⟩
theorem SlAt.own {w' : World} {v' : Value} {base : Nat} {p : List Tok} (hp : 0 < p.length) (h : w'.ownsRow base 182 4 v' p.length (tokRow p)) :
    SlAt w' v' p ∧ ∀ b n c, v' = .slice (some ⟨b, 0, none⟩) n c → base ≤ b := by
  obtain ⟨_, ⟨_, h0⟩ | ⟨g, cap, cur, rfl, hg, hb, hn, _, hs, ht⟩⟩ := h
  · omega
  · refine ⟨.inr ⟨g, cap, fun o => cur.getD o undef, rfl, hn, ⟨cur, 182, hb, hs, fun o ho => ?_⟩, row_buf fun j u e => ?_⟩, fun b n c e => ?_⟩
    · simp [show o < cur.size by omega]
    · rw [← ht] at e
      have hj : j < cur.size := by have := (List.getElem?_eq_some_iff.1 e).1; simp at this; omega
      rw [List.getElem?_take] at e
      split at e
      · simp [hj] at e ⊢; exact e
      · cases e
    · cases e; exact hg
theorem Fr.grown {w w' : World} (h : w.grownBy w' none) : Fr (fun _ => False) w w' := ⟨h.os, h.tape, h.output, h.size, fun b hb _ => h.block b hb (by simp)⟩
theorem one_append (p : List Tok) (i : Tok) : (p ++ [i]).length = p.length + 1 := by simp

section
variable {ops : Array Oper} {Q : Exit → Act → World → Prop} {a : Act} {w : World} {rest : List Oper} {o : Oper}
theorem wpList_appendTok (hgd : o.guard = none) (s x : Operand) (ho : o.op = .call { callee := .builtin .append, args := #[s, x], argTypes := #[97, 97] })
    (v : Value) (p : List Tok) (i : Tok) (xb xc : Nat) (hs : a.eval s = v) (hx : a.eval x = .slice (some ⟨xb, 0, none⟩) 1 xc) (hv : SlAt w v p) (hxb : PAt w xb [i]) (hlen : p.length ≤ 4200)
    (h : ∀ v' w', SlAt w' v' (p ++ [i]) → (∀ b n c, v' = .slice (some ⟨b, 0, none⟩) n c → w.heap.size ≤ b ∨ ∃ n' c', v = .slice (some ⟨b, 0, none⟩) n' c') →
      Fr (fun b => ∃ n c, v = .slice (some ⟨b, 0, none⟩) n c) w w' → wpList Tryz.prog ops Q rest (a.put o.dst v') w') : wpList Tryz.prog ops Q (o :: rest) a w := by
  obtain ⟨ti, hi, hz, hsz, hby⟩ : ∃ ti, Tryz.prog.info? 182 = some ti ∧ ti.zero = some (tokV zeroTok) ∧ ti.size = 4 ∧ ti.bytes = 40 := by
    have e1 : (Tryz.prog.info? 182).map (·.size) = some 4 := by kernel_rfl
    have e2 : (Tryz.prog.info? 182).map (·.bytes) = some 40 := by kernel_rfl
    have e3 : (Tryz.prog.info? 182).bind (·.zero) = some (tokV zeroTok) := by kernel_rfl
    cases hq : Tryz.prog.info? 182 with
    | none => rw [hq] at e1; cases e1
    | some ti =>
      rw [hq] at e1 e2 e3
      exact ⟨ti, rfl, by simpa using e3, by simpa using e1, by simpa using e2⟩
  have hz7 : (tokV zeroTok).cells.size = 4 := by kernel_rfl
  have hadd : ∀ (b j : Nat), (⟨b, 0, none⟩ : Addr).add j = ⟨b, j, none⟩ := fun b j => by rw [Addr.add_lit]; simp
  have hnews : ∀ j u, (tokRow [i])[j]? = some u → w.cell? ((⟨xb, 0, none⟩ : Addr).add j) = some u := fun j u e => by rw [hadd]; exact hxb.row j u e
  have hpos : 0 < (p ++ [i]).length := by simp
  have hgrow : ∀ v' w', w'.ownsRow w.heap.size 182 4 v' (p.length + 1) (tokRow p ++ tokRow [i]) → w.grownBy w' none → wpList Tryz.prog ops Q rest (a.put o.dst v') w' := by
    intro v' w' h1 h2
    rw [← tokRow_append, ← one_append p i] at h1
    obtain ⟨c1, c2⟩ := SlAt.own hpos h1
    exact h v' w' c1 (fun b n c e => .inl (c2 b n c e)) ((Fr.grown h2).mono (fun _ _ h => h.elim))
  rcases hv with ⟨rfl, rfl⟩ | ⟨b, cap, f, rfl, hc, hb, hf⟩
  · exact wpList_append_grows w hgd s x 97 ho 182 ti _ 4 40 Tryz.underlying97 hi hz hsz hby hz7 (by omega) none 0 0 [] hs (fun _ => ⟨rfl, rfl⟩) rfl (fun _ e => by cases e) ⟨xb, 0, none⟩ 1 xc (tokRow [i]) hx rfl hnews (tokRow_one _) (by omega) (by simp [maxLen]) (by omega)
      (fun v' w' h1 h2 => hgrow v' w' h1 h2)
  · have hpa : PAt w b p := fun o ho => by rw [hb.cell (by omega), hf o ho]
    refine wpList_append_arg w hgd s x 97 ho 182 ti _ 4 40 Tryz.underlying97 hi hz hsz hby hz7 (by omega) b 0 p.length cap (tokRow p) hs (tokRow_length p) (fun j u e => by rw [Nat.zero_add]; exact hpa.row j u e)
      ⟨xb, 0, none⟩ 1 xc (tokRow [i]) hx rfl hnews (tokRow_one _) (fun hr j hj => ?_) (by simp only [maxLen]; omega) (by omega) (fun hr => ?_) (fun _ v' w' h1 h2 => hgrow v' w' h1 h2)
    · have hj7 : j < 4 := hj
      rw [hb.cell (by omega)]
      exact ⟨rfl, hb.frozen _⟩
    · refine h _ _ ?_ (fun b' n c e => .inr ?_) ((Fr.refl _ _).setCells b (fun _ => ⟨_, _, rfl⟩) _ _)
      · refine .inr ⟨b, cap, _, by rw [one_append], by rw [one_append]; omega, hb.setCells _ _, ?_⟩
        refine row_buf fun j u e => ?_
        rw [tokRow_append] at e
        by_cases hlt : j < p.length * 4
        · rw [lay_out _ _ _ _ (.inl (by omega)), hf j hlt]
          rw [List.getElem?_append_left (by rw [tokRow_length]; exact hlt)] at e
          have := hpa.row j u e
          rw [hpa j hlt] at this
          simpa using this
        · rw [List.getElem?_append_right (by rw [tokRow_length]; omega), tokRow_length] at e
          obtain ⟨q1, q2⟩ := List.getElem?_eq_some_iff.1 e
          rw [lay_in _ _ _ _ (by omega) (by omega), ← q2]
          simp only [Nat.zero_add]
      · cases e; exact ⟨_, _, rfl⟩
end
end Go.Proofs.Qxb6500277aGreat
