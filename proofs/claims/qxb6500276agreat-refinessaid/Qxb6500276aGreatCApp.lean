/- append onto a list of answers, said of blocks. -/
import Derived.Test.Qxb6500276aGreatLC1
import Derived.Test.Qxb6500276aGreatNApp
import Derived.ArgAppend
namespace Go.Proofs.Qxb6500276aGreat
open Go Go.RowKit

def cr0 : Cr := (⟨none, none, none, none⟩, ⟨[], 0, [], [], [], 0, 0, 0⟩)
def zChk : Value := .agg #[.slice none 0 0, .int .i64 0, .int .i64 0, .int .i64 0, .slice none 0 0, .slice none 0 0, .slice none 0 0, .int .i64 0, .int .i64 0, .int .i64 0]
def bufC (p : List Cr) (o : Nat) : Value := crC (p.getD (o / 10) cr0) (o % 10)
def crRow (p : List Cr) : List Value := p.flatMap fun t => [vV t, .int .i64 t.2.root, .int .i64 0, .int .i64 0, tV t, rV t, fV t, .int .i64 t.2.main, .int .i64 t.2.err, .int .i64 t.2.pos]
theorem crRow_length (p : List Cr) : (crRow p).length = p.length * 10 := by
  induction p with
  | nil => rfl
  | cons i p ih => simp only [crRow, List.flatMap_cons, List.length_append, List.length_cons, List.length_nil] at ih ⊢; omega
theorem crRow_get : ∀ (p : List Cr) (i : Nat) (h : i < p.length) (j : Nat), j < 10 → (crRow p)[i * 10 + j]? = some (crC p[i] j)
  | [], _, h, _, _ => absurd h (by simp)
  | q :: p, 0, _, j, hj => by
    rcases lt10 hj with rfl | rfl | rfl | rfl | rfl | rfl | rfl | rfl | rfl | rfl <;> rfl
  | q :: p, i + 1, h, j, hj => by
    have := crRow_get p i (by simpa using h) j hj
    simp only [crRow, List.flatMap_cons] at this ⊢
    rw [List.getElem?_append_right (by simp; omega)]
    simpa [show (i + 1) * 10 + j - 10 = i * 10 + j by omega] using this
theorem crRow_append (p q : List Cr) : crRow (p ++ q) = crRow p ++ crRow q := by simp [crRow]
theorem crRow_one (p : List Cr) : ∀ u ∈ crRow p, u.oneCell' = true := by
  intro u hu
  simp only [crRow, List.mem_flatMap] at hu
  obtain ⟨i, _, hu⟩ := hu
  simp only [List.mem_cons, List.not_mem_nil, or_false] at hu
  rcases hu with rfl | rfl | rfl | rfl | rfl | rfl | rfl | rfl | rfl | rfl <;> rfl
/-- Block b's first cells hold the nodes p. -/
def PAc (w : World) (b : Nat) (p : List Cr) : Prop := ∀ o, o < p.length * 10 → w.cell? ⟨b, o, none⟩ = some (bufC p o)
theorem PAc.row {w : World} {b : Nat} {p : List Cr} (h : PAc w b p) (j : Nat) (u : Value) (e : (crRow p)[j]? = some u) : w.cell? ⟨b, j, none⟩ = some u := by
  have hj : j < p.length * 10 := by have := (List.getElem?_eq_some_iff.1 e).1; rwa [crRow_length] at this
  have h1 := crRow_get p (j / 10) (by omega) (j % 10) (by omega)
  rw [show j / 10 * 10 + j % 10 = j by omega] at h1
  rw [h1] at e
  cases e
  rw [h j hj]
  simp [bufC, show j / 10 < p.length by omega]
theorem row_bufC {p : List Cr} {f : Nat → Value} (h : ∀ j u, (crRow p)[j]? = some u → f j = u) : ∀ o, o < p.length * 10 → f o = bufC p o := by
  intro o ho
  have h1 := crRow_get p (o / 10) (by omega) (o % 10) (by omega)
  rw [show o / 10 * 10 + o % 10 = o by omega] at h1
  rw [h o _ h1]
  simp [bufC, show o / 10 < p.length by omega]

/-- A slice that holds the nodes p, with spare room behind them perhaps. -/
def SlC (w : World) (v : Value) (p : List Cr) : Prop :=
  (v = .slice none 0 0 ∧ p = []) ∨ ∃ b cap f, v = .slice (some ⟨b, 0, none⟩) p.length cap ∧ p.length ≤ cap ∧ Blk w b (cap * 10) f ∧ ∀ o, o < p.length * 10 → f o = bufC p o
theorem SlC.frame {S : Nat → Prop} {w w' : World} {v : Value} {p : List Cr} (h : SlC w v p) (k : Fr S w w') (hb : ∀ b n c, v = .slice (some ⟨b, 0, none⟩) n c → ¬ S b) : SlC w' v p := by
  rcases h with h | ⟨b, cap, f, rfl, hc, hb', hf⟩
  · exact .inl h
  · exact .inr ⟨b, cap, f, rfl, hc, hb'.frame k (hb _ _ _ rfl), hf⟩
theorem SlC.own {w' : World} {v' : Value} {base : Nat} {p : List Cr} (hp : 0 < p.length) (h : w'.ownsRow base 47 10 v' p.length (crRow p)) :
    SlC w' v' p ∧ ∀ b n c, v' = .slice (some ⟨b, 0, none⟩) n c → base ≤ b := by
  obtain ⟨_, ⟨_, h0⟩ | ⟨g, cap, cur, rfl, hg, hb, hn, _, hs, ht⟩⟩ := h
  · omega
  · refine ⟨.inr ⟨g, cap, fun o => cur.getD o undef, rfl, hn, ⟨cur, 47, hb, hs, fun o ho => ?_⟩, row_bufC fun j u e => ?_⟩, fun b n c e => ?_⟩
    · simp [show o < cur.size by omega]
    · rw [← ht] at e
      have hj : j < cur.size := by have := (List.getElem?_eq_some_iff.1 e).1; simp at this; omega
      rw [List.getElem?_take] at e
      split at e
      · simp [hj] at e ⊢; exact e
      · cases e
    · cases e; exact hg
theorem one_appendC (p : List Cr) (i : Cr) : (p ++ [i]).length = p.length + 1 := by simp

section
variable {ops : Array Oper} {Q : Exit → Act → World → Prop} {a : Act} {w : World} {rest : List Oper} {o : Oper}
theorem wpList_appendCr (hgd : o.guard = none) (s x : Operand) (ho : o.op = .call { callee := .builtin .append, args := #[s, x], argTypes := #[35, 35] })
    (v : Value) (p : List Cr) (i : Cr) (xb xc : Nat) (hs : a.eval s = v) (hx : a.eval x = .slice (some ⟨xb, 0, none⟩) 1 xc) (hv : SlC w v p) (hxb : PAc w xb [i]) (hlen : p.length ≤ 200)
    (h : ∀ v' w', SlC w' v' (p ++ [i]) → (∀ b n c, v' = .slice (some ⟨b, 0, none⟩) n c → w.heap.size ≤ b ∨ ∃ n' c', v = .slice (some ⟨b, 0, none⟩) n' c') →
      Fr (fun b => ∃ n c, v = .slice (some ⟨b, 0, none⟩) n c) w w' → wpList Tryz.prog ops Q rest (a.put o.dst v') w') : wpList Tryz.prog ops Q (o :: rest) a w := by
  obtain ⟨ti, hi, hz, hsz, hby⟩ : ∃ ti, Tryz.prog.info? 47 = some ti ∧ ti.zero = some (zChk) ∧ ti.size = 10 ∧ ti.bytes = 144 := by
    have e1 : (Tryz.prog.info? 47).map (·.size) = some 10 := by kernel_rfl
    have e2 : (Tryz.prog.info? 47).map (·.bytes) = some 144 := by kernel_rfl
    have e3 : (Tryz.prog.info? 47).bind (·.zero) = some (zChk) := by kernel_rfl
    cases hq : Tryz.prog.info? 47 with
    | none => rw [hq] at e1; cases e1
    | some ti =>
      rw [hq] at e1 e2 e3
      exact ⟨ti, rfl, by simpa using e3, by simpa using e1, by simpa using e2⟩
  have hz7 : (zChk).cells.size = 10 := by kernel_rfl
  have hadd : ∀ (b j : Nat), (⟨b, 0, none⟩ : Addr).add j = ⟨b, j, none⟩ := fun b j => by rw [Addr.add_lit]; simp
  have hnews : ∀ j u, (crRow [i])[j]? = some u → w.cell? ((⟨xb, 0, none⟩ : Addr).add j) = some u := fun j u e => by rw [hadd]; exact hxb.row j u e
  have hpos : 0 < (p ++ [i]).length := by simp
  have hgrow : ∀ v' w', w'.ownsRow w.heap.size 47 10 v' (p.length + 1) (crRow p ++ crRow [i]) → w.grownBy w' none → wpList Tryz.prog ops Q rest (a.put o.dst v') w' := by
    intro v' w' h1 h2
    rw [← crRow_append, ← one_appendC p i] at h1
    obtain ⟨c1, c2⟩ := SlC.own hpos h1
    exact h v' w' c1 (fun b n c e => .inl (c2 b n c e)) ((Fr.grown h2).mono (fun _ _ h => h.elim))
  rcases hv with ⟨rfl, rfl⟩ | ⟨b, cap, f, rfl, hc, hb, hf⟩
  · exact wpList_append_grows w hgd s x 35 ho 47 ti _ 10 144 Tryz.underlying35 hi hz hsz hby hz7 (by omega) none 0 0 [] hs (fun _ => ⟨rfl, rfl⟩) rfl (fun _ e => by cases e) ⟨xb, 0, none⟩ 1 xc (crRow [i]) hx rfl hnews (crRow_one _) (by omega) (by simp [maxLen]) (by omega)
      (fun v' w' h1 h2 => hgrow v' w' h1 h2)
  · have hpa : PAc w b p := fun o ho => by rw [hb.cell (by omega), hf o ho]
    refine wpList_append_arg w hgd s x 35 ho 47 ti _ 10 144 Tryz.underlying35 hi hz hsz hby hz7 (by omega) b 0 p.length cap (crRow p) hs (crRow_length p) (fun j u e => by rw [Nat.zero_add]; exact hpa.row j u e)
      ⟨xb, 0, none⟩ 1 xc (crRow [i]) hx rfl hnews (crRow_one _) (fun hr j hj => ?_) (by simp only [maxLen]; omega) (by omega) (fun hr => ?_) (fun _ v' w' h1 h2 => hgrow v' w' h1 h2)
    · have hj7 : j < 10 := hj
      rw [hb.cell (by omega)]
      exact ⟨rfl, hb.frozen _⟩
    · refine h _ _ ?_ (fun b' n c e => .inr ?_) ((Fr.refl _ _).setCells b (fun _ => ⟨_, _, rfl⟩) _ _)
      · refine .inr ⟨b, cap, _, by rw [one_appendC], by rw [one_appendC]; omega, hb.setCells _ _, ?_⟩
        refine row_bufC fun j u e => ?_
        rw [crRow_append] at e
        by_cases hlt : j < p.length * 10
        · rw [lay_out _ _ _ _ (.inl (by omega)), hf j hlt]
          rw [List.getElem?_append_left (by rw [crRow_length]; exact hlt)] at e
          have := hpa.row j u e
          rw [hpa j hlt] at this
          simpa using this
        · rw [List.getElem?_append_right (by rw [crRow_length]; omega), crRow_length] at e
          obtain ⟨q1, q2⟩ := List.getElem?_eq_some_iff.1 e
          rw [lay_in _ _ _ _ (by omega) (by omega), ← q2]
          simp only [Nat.zero_add]
      · cases e; exact ⟨_, _, rfl⟩
end
end Go.Proofs.Qxb6500276aGreat
