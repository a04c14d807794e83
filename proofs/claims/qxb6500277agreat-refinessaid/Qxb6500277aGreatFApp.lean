/- append onto a list of records, said of blocks. -/
import Derived.Test.Qxb6500277aGreatCB6
import Derived.Test.Qxb6500277aGreatNApp
import Derived.ArgAppend
namespace Go.Proofs.Qxb6500277aGreat
open Go Go.RowKit

def zFunc2 : Value := .agg #[.int .i64 0, .int .i64 0, .int .i64 0, .int .i64 0, .int .i64 0, .int .i64 0, .string ⟨#[]⟩]
def bufF2 (p : List FR) (o : Nat) : Value := frC (p.getD (o / 7) fr0) (o % 7)
def frRow (p : List FR) : List Value := p.flatMap fun t => [.int .i64 t.1.node, .int .i64 t.1.ret, .int .i64 t.1.pi, .int .i64 t.1.pr, .int .i64 t.2.1, .int .i64 t.2.2, .string t.1.name]
theorem frRow_length (p : List FR) : (frRow p).length = p.length * 7 := by
  induction p with
  | nil => rfl
  | cons i p ih => simp only [frRow, List.flatMap_cons, List.length_append, List.length_cons, List.length_nil] at ih ⊢; omega
theorem frRow_get : ∀ (p : List FR) (i : Nat) (h : i < p.length) (j : Nat), j < 7 → (frRow p)[i * 7 + j]? = some (frC p[i] j)
  | [], _, h, _, _ => absurd h (by simp)
  | q :: p, 0, _, j, hj => by
    rcases lt7c hj with rfl | rfl | rfl | rfl | rfl | rfl | rfl <;> rfl
  | q :: p, i + 1, h, j, hj => by
    have := frRow_get p i (by simpa using h) j hj
    simp only [frRow, List.flatMap_cons] at this ⊢
    rw [List.getElem?_append_right (by simp; omega)]
    simpa [show (i + 1) * 7 + j - 7 = i * 7 + j by omega] using this
theorem frRow_append (p q : List FR) : frRow (p ++ q) = frRow p ++ frRow q := by simp [frRow]
theorem frRow_one (p : List FR) : ∀ u ∈ frRow p, u.oneCell' = true := by
  intro u hu
  simp only [frRow, List.mem_flatMap] at hu
  obtain ⟨i, _, hu⟩ := hu
  simp only [List.mem_cons, List.not_mem_nil, or_false] at hu
  rcases hu with rfl | rfl | rfl | rfl | rfl | rfl | rfl <;> rfl
/-- Block b's first cells hold the nodes p. -/
def PAf (w : World) (b : Nat) (p : List FR) : Prop := ∀ o, o < p.length * 7 → w.cell? ⟨b, o, none⟩ = some (bufF2 p o)
theorem PAf.row {w : World} {b : Nat} {p : List FR} (h : PAf w b p) (j : Nat) (u : Value) (e : (frRow p)[j]? = some u) : w.cell? ⟨b, j, none⟩ = some u := by
  have hj : j < p.length * 7 := by have := (List.getElem?_eq_some_iff.1 e).1; rwa [frRow_length] at this
  have h1 := frRow_get p (j / 7) (by omega) (j % 7) (by omega)
  rw [show j / 7 * 7 + j % 7 = j by omega] at h1
  rw [h1] at e
  cases e
  rw [h j hj]
  simp [bufF2, show j / 7 < p.length by omega]
theorem row_bufF2 {p : List FR} {f : Nat → Value} (h : ∀ j u, (frRow p)[j]? = some u → f j = u) : ∀ o, o < p.length * 7 → f o = bufF2 p o := by
  intro o ho
  have h1 := frRow_get p (o / 7) (by omega) (o % 7) (by omega)
  rw [show o / 7 * 7 + o % 7 = o by omega] at h1
  rw [h o _ h1]
  simp [bufF2, show o / 7 < p.length by omega]

/-- A slice that holds the nodes p, with spare room behind them perhaps. -/
def SlF (w : World) (v : Value) (p : List FR) : Prop :=
  (v = .slice none 0 0 ∧ p = []) ∨ ∃ b cap f, v = .slice (some ⟨b, 0, none⟩) p.length cap ∧ p.length ≤ cap ∧ Blk w b (cap * 7) f ∧ ∀ o, o < p.length * 7 → f o = bufF2 p o
theorem SlF.frame {S : Nat → Prop} {w w' : World} {v : Value} {p : List FR} (h : SlF w v p) (k : Fr S w w') (hb : ∀ b n c, v = .slice (some ⟨b, 0, none⟩) n c → ¬ S b) : SlF w' v p := by
  rcases h with h | ⟨b, cap, f, rfl, hc, hb', hf⟩
  · exact .inl h
  · exact .inr ⟨b, cap, f, rfl, hc, hb'.frame k (hb _ _ _ rfl), hf⟩
theorem SlF.own {w' : World} {v' : Value} {base : Nat} {p : List FR} (hp : 0 < p.length) (h : w'.ownsRow base 109 7 v' p.length (frRow p)) :
    SlF w' v' p ∧ ∀ b n c, v' = .slice (some ⟨b, 0, none⟩) n c → base ≤ b := by
  obtain ⟨_, ⟨_, h0⟩ | ⟨g, cap, cur, rfl, hg, hb, hn, _, hs, ht⟩⟩ := h
  · omega
  · refine ⟨.inr ⟨g, cap, fun o => cur.getD o undef, rfl, hn, ⟨cur, 109, hb, hs, fun o ho => ?_⟩, row_bufF2 fun j u e => ?_⟩, fun b n c e => ?_⟩
    · simp [show o < cur.size by omega]
    · rw [← ht] at e
      have hj : j < cur.size := by have := (List.getElem?_eq_some_iff.1 e).1; simp at this; omega
      rw [List.getElem?_take] at e
      split at e
      · simp [hj] at e ⊢; exact e
      · cases e
    · cases e; exact hg
theorem one_appendF (p : List FR) (i : FR) : (p ++ [i]).length = p.length + 1 := by simp

section
variable {ops : Array Oper} {Q : Exit → Act → World → Prop} {a : Act} {w : World} {rest : List Oper} {o : Oper}
theorem wpList_appendFr (hgd : o.guard = none) (s x : Operand) (ho : o.op = .call { callee := .builtin .append, args := #[s, x], argTypes := #[67, 67] })
    (v : Value) (p : List FR) (i : FR) (xb xc : Nat) (hs : a.eval s = v) (hx : a.eval x = .slice (some ⟨xb, 0, none⟩) 1 xc) (hv : SlF w v p) (hxb : PAf w xb [i]) (hlen : p.length ≤ 200)
    (h : ∀ v' w', SlF w' v' (p ++ [i]) → (∀ b n c, v' = .slice (some ⟨b, 0, none⟩) n c → w.heap.size ≤ b ∨ ∃ n' c', v = .slice (some ⟨b, 0, none⟩) n' c') →
      Fr (fun b => ∃ n c, v = .slice (some ⟨b, 0, none⟩) n c) w w' → wpList Tryz.prog ops Q rest (a.put o.dst v') w') : wpList Tryz.prog ops Q (o :: rest) a w := by
  obtain ⟨ti, hi, hz, hsz, hby⟩ : ∃ ti, Tryz.prog.info? 109 = some ti ∧ ti.zero = some (zFunc2) ∧ ti.size = 7 ∧ ti.bytes = 64 := by
    have e1 : (Tryz.prog.info? 109).map (·.size) = some 7 := by kernel_rfl
    have e2 : (Tryz.prog.info? 109).map (·.bytes) = some 64 := by kernel_rfl
    have e3 : (Tryz.prog.info? 109).bind (·.zero) = some (zFunc2) := by kernel_rfl
    cases hq : Tryz.prog.info? 109 with
    | none => rw [hq] at e1; cases e1
    | some ti =>
      rw [hq] at e1 e2 e3
      exact ⟨ti, rfl, by simpa using e3, by simpa using e1, by simpa using e2⟩
  have hz7 : (zFunc2).cells.size = 7 := by kernel_rfl
  have hadd : ∀ (b j : Nat), (⟨b, 0, none⟩ : Addr).add j = ⟨b, j, none⟩ := fun b j => by rw [Addr.add_lit]; simp
  have hnews : ∀ j u, (frRow [i])[j]? = some u → w.cell? ((⟨xb, 0, none⟩ : Addr).add j) = some u := fun j u e => by rw [hadd]; exact hxb.row j u e
  have hpos : 0 < (p ++ [i]).length := by simp
  have hgrow : ∀ v' w', w'.ownsRow w.heap.size 109 7 v' (p.length + 1) (frRow p ++ frRow [i]) → w.grownBy w' none → wpList Tryz.prog ops Q rest (a.put o.dst v') w' := by
    intro v' w' h1 h2
    rw [← frRow_append, ← one_appendF p i] at h1
    obtain ⟨c1, c2⟩ := SlF.own hpos h1
    exact h v' w' c1 (fun b n c e => .inl (c2 b n c e)) ((Fr.grown h2).mono (fun _ _ h => h.elim))
  rcases hv with ⟨rfl, rfl⟩ | ⟨b, cap, f, rfl, hc, hb, hf⟩
  · exact wpList_append_grows w hgd s x 67 ho 109 ti _ 7 64 Tryz.underlying67 hi hz hsz hby hz7 (by omega) none 0 0 [] hs (fun _ => ⟨rfl, rfl⟩) rfl (fun _ e => by cases e) ⟨xb, 0, none⟩ 1 xc (frRow [i]) hx rfl hnews (frRow_one _) (by omega) (by simp [maxLen]) (by omega)
      (fun v' w' h1 h2 => hgrow v' w' h1 h2)
  · have hpa : PAf w b p := fun o ho => by rw [hb.cell (by omega), hf o ho]
    refine wpList_append_arg w hgd s x 67 ho 109 ti _ 7 64 Tryz.underlying67 hi hz hsz hby hz7 (by omega) b 0 p.length cap (frRow p) hs (frRow_length p) (fun j u e => by rw [Nat.zero_add]; exact hpa.row j u e)
      ⟨xb, 0, none⟩ 1 xc (frRow [i]) hx rfl hnews (frRow_one _) (fun hr j hj => ?_) (by simp only [maxLen]; omega) (by omega) (fun hr => ?_) (fun _ v' w' h1 h2 => hgrow v' w' h1 h2)
    · have hj7 : j < 7 := hj
      rw [hb.cell (by omega)]
      exact ⟨rfl, hb.frozen _⟩
    · refine h _ _ ?_ (fun b' n c e => .inr ?_) ((Fr.refl _ _).setCells b (fun _ => ⟨_, _, rfl⟩) _ _)
      · refine .inr ⟨b, cap, _, by rw [one_appendF], by rw [one_appendF]; omega, hb.setCells _ _, ?_⟩
        refine row_bufF2 fun j u e => ?_
        rw [frRow_append] at e
        by_cases hlt : j < p.length * 7
        · rw [lay_out _ _ _ _ (.inl (by omega)), hf j hlt]
          rw [List.getElem?_append_left (by rw [frRow_length]; exact hlt)] at e
          have := hpa.row j u e
          rw [hpa j hlt] at this
          simpa using this
        · rw [List.getElem?_append_right (by rw [frRow_length]; omega), frRow_length] at e
          obtain ⟨q1, q2⟩ := List.getElem?_eq_some_iff.1 e
          rw [lay_in _ _ _ _ (by omega) (by omega), ← q2]
          simp only [Nat.zero_add]
      · cases e; exact ⟨_, _, rfl⟩
end
end Go.Proofs.Qxb6500277aGreat
