/- append onto a list of nodes, said of blocks. -/
import Derived.Test.Qxb6500277aGreatPW20
import Derived.ArgAppend
namespace Go.Proofs.Qxb6500277aGreat
open Go Go.RowKit

def bufN (p : List Nd) (o : Nat) : Value := ndCell (p.getD (o / 8) nd0) (o % 8)
def ndRow (p : List Nd) : List Value := p.flatMap fun t => [.int .i64 t.kind, .int .i64 t.a, .int .i64 t.b, .int .i64 t.c, .int .i64 t.nx, .int .i64 t.val, .int .i64 t.pos, .string t.name]
theorem ndRow_length (p : List Nd) : (ndRow p).length = p.length * 8 := by
  induction p with
  | nil => rfl
  | cons i p ih => simp only [ndRow, List.flatMap_cons, List.length_append, List.length_cons, List.length_nil] at ih ⊢; omega
theorem ndRow_get : ∀ (p : List Nd) (i : Nat) (h : i < p.length) (j : Nat), j < 8 → (ndRow p)[i * 8 + j]? = some (ndCell p[i] j)
  | [], _, h, _, _ => absurd h (by simp)
  | q :: p, 0, _, j, hj => by
    rcases lt8c hj with rfl | rfl | rfl | rfl | rfl | rfl | rfl | rfl <;> rfl
  | q :: p, i + 1, h, j, hj => by
    have := ndRow_get p i (by simpa using h) j hj
    simp only [ndRow, List.flatMap_cons] at this ⊢
    rw [List.getElem?_append_right (by simp; omega)]
    simpa [show (i + 1) * 8 + j - 8 = i * 8 + j by omega] using this
theorem ndRow_append (p q : List Nd) : ndRow (p ++ q) = ndRow p ++ ndRow q := by simp [ndRow]
theorem ndRow_one (p : List Nd) : ∀ u ∈ ndRow p, u.oneCell' = true := by
  intro u hu
  simp only [ndRow, List.mem_flatMap] at hu
  obtain ⟨i, _, hu⟩ := hu
  simp only [List.mem_cons, List.not_mem_nil, or_false] at hu
  rcases hu with rfl | rfl | rfl | rfl | rfl | rfl | rfl | rfl <;> rfl
/-- Block b's first cells hold the nodes p. -/
def PAn (w : World) (b : Nat) (p : List Nd) : Prop := ∀ o, o < p.length * 8 → w.cell? ⟨b, o, none⟩ = some (bufN p o)
theorem PAn.row {w : World} {b : Nat} {p : List Nd} (h : PAn w b p) (j : Nat) (u : Value) (e : (ndRow p)[j]? = some u) : w.cell? ⟨b, j, none⟩ = some u := by
  have hj : j < p.length * 8 := by have := (List.getElem?_eq_some_iff.1 e).1; rwa [ndRow_length] at this
  have h1 := ndRow_get p (j / 8) (by omega) (j % 8) (by omega)
  rw [show j / 8 * 8 + j % 8 = j by omega] at h1
  rw [h1] at e
  cases e
  rw [h j hj]
  simp [bufN, show j / 8 < p.length by omega]
theorem row_bufN {p : List Nd} {f : Nat → Value} (h : ∀ j u, (ndRow p)[j]? = some u → f j = u) : ∀ o, o < p.length * 8 → f o = bufN p o := by
  intro o ho
  have h1 := ndRow_get p (o / 8) (by omega) (o % 8) (by omega)
  rw [show o / 8 * 8 + o % 8 = o by omega] at h1
  rw [h o _ h1]
  simp [bufN, show o / 8 < p.length by omega]

/-- A slice that holds the nodes p, with spare room behind them perhaps. -/
def SlN (w : World) (v : Value) (p : List Nd) : Prop :=
  (v = .slice none 0 0 ∧ p = []) ∨ ∃ b cap f, v = .slice (some ⟨b, 0, none⟩) p.length cap ∧ p.length ≤ cap ∧ Blk w b (cap * 8) f ∧ ∀ o, o < p.length * 8 → f o = bufN p o
theorem SlN.frame {S : Nat → Prop} {w w' : World} {v : Value} {p : List Nd} (h : SlN w v p) (k : Fr S w w') (hb : ∀ b n c, v = .slice (some ⟨b, 0, none⟩) n c → ¬ S b) : SlN w' v p := by
  rcases h with h | ⟨b, cap, f, rfl, hc, hb', hf⟩
  · exact .inl h
  · exact .inr ⟨b, cap, f, rfl, hc, hb'.frame k (hb _ _ _ rfl), hf⟩
theorem SlN.own {w' : World} {v' : Value} {base : Nat} {p : List Nd} (hp : 0 < p.length) (h : w'.ownsRow base 145 8 v' p.length (ndRow p)) :
    SlN w' v' p ∧ ∀ b n c, v' = .slice (some ⟨b, 0, none⟩) n c → base ≤ b := by
  obtain ⟨_, ⟨_, h0⟩ | ⟨g, cap, cur, rfl, hg, hb, hn, _, hs, ht⟩⟩ := h
  · omega
  · refine ⟨.inr ⟨g, cap, fun o => cur.getD o undef, rfl, hn, ⟨cur, 145, hb, hs, fun o ho => ?_⟩, row_bufN fun j u e => ?_⟩, fun b n c e => ?_⟩
    · simp [show o < cur.size by omega]
    · rw [← ht] at e
      have hj : j < cur.size := by have := (List.getElem?_eq_some_iff.1 e).1; simp at this; omega
      rw [List.getElem?_take] at e
      split at e
      · simp [hj] at e ⊢; exact e
      · cases e
    · cases e; exact hg
theorem one_appendN (p : List Nd) (i : Nd) : (p ++ [i]).length = p.length + 1 := by simp

section
variable {ops : Array Oper} {Q : Exit → Act → World → Prop} {a : Act} {w : World} {rest : List Oper} {o : Oper}
theorem wpList_appendNd (hgd : o.guard = none) (s x : Operand) (ho : o.op = .call { callee := .builtin .append, args := #[s, x], argTypes := #[64, 64] })
    (v : Value) (p : List Nd) (i : Nd) (xb xc : Nat) (hs : a.eval s = v) (hx : a.eval x = .slice (some ⟨xb, 0, none⟩) 1 xc) (hv : SlN w v p) (hxb : PAn w xb [i]) (hlen : p.length ≤ 200)
    (h : ∀ v' w', SlN w' v' (p ++ [i]) → (∀ b n c, v' = .slice (some ⟨b, 0, none⟩) n c → w.heap.size ≤ b ∨ ∃ n' c', v = .slice (some ⟨b, 0, none⟩) n' c') →
      Fr (fun b => ∃ n c, v = .slice (some ⟨b, 0, none⟩) n c) w w' → wpList Tryz.prog ops Q rest (a.put o.dst v') w') : wpList Tryz.prog ops Q (o :: rest) a w := by
  obtain ⟨ti, hi, hz, hsz, hby⟩ : ∃ ti, Tryz.prog.info? 145 = some ti ∧ ti.zero = some (zNode) ∧ ti.size = 8 ∧ ti.bytes = 72 := by
    have e1 : (Tryz.prog.info? 145).map (·.size) = some 8 := by kernel_rfl
    have e2 : (Tryz.prog.info? 145).map (·.bytes) = some 72 := by kernel_rfl
    have e3 : (Tryz.prog.info? 145).bind (·.zero) = some (zNode) := by kernel_rfl
    cases hq : Tryz.prog.info? 145 with
    | none => rw [hq] at e1; cases e1
    | some ti =>
      rw [hq] at e1 e2 e3
      exact ⟨ti, rfl, by simpa using e3, by simpa using e1, by simpa using e2⟩
  have hz7 : (zNode).cells.size = 8 := by kernel_rfl
  have hadd : ∀ (b j : Nat), (⟨b, 0, none⟩ : Addr).add j = ⟨b, j, none⟩ := fun b j => by rw [Addr.add_lit]; simp
  have hnews : ∀ j u, (ndRow [i])[j]? = some u → w.cell? ((⟨xb, 0, none⟩ : Addr).add j) = some u := fun j u e => by rw [hadd]; exact hxb.row j u e
  have hpos : 0 < (p ++ [i]).length := by simp
  have hgrow : ∀ v' w', w'.ownsRow w.heap.size 145 8 v' (p.length + 1) (ndRow p ++ ndRow [i]) → w.grownBy w' none → wpList Tryz.prog ops Q rest (a.put o.dst v') w' := by
    intro v' w' h1 h2
    rw [← ndRow_append, ← one_appendN p i] at h1
    obtain ⟨c1, c2⟩ := SlN.own hpos h1
    exact h v' w' c1 (fun b n c e => .inl (c2 b n c e)) ((Fr.grown h2).mono (fun _ _ h => h.elim))
  rcases hv with ⟨rfl, rfl⟩ | ⟨b, cap, f, rfl, hc, hb, hf⟩
  · exact wpList_append_grows w hgd s x 64 ho 145 ti _ 8 72 Tryz.underlying64 hi hz hsz hby hz7 (by omega) none 0 0 [] hs (fun _ => ⟨rfl, rfl⟩) rfl (fun _ e => by cases e) ⟨xb, 0, none⟩ 1 xc (ndRow [i]) hx rfl hnews (ndRow_one _) (by omega) (by simp [maxLen]) (by omega)
      (fun v' w' h1 h2 => hgrow v' w' h1 h2)
  · have hpa : PAn w b p := fun o ho => by rw [hb.cell (by omega), hf o ho]
    refine wpList_append_arg w hgd s x 64 ho 145 ti _ 8 72 Tryz.underlying64 hi hz hsz hby hz7 (by omega) b 0 p.length cap (ndRow p) hs (ndRow_length p) (fun j u e => by rw [Nat.zero_add]; exact hpa.row j u e)
      ⟨xb, 0, none⟩ 1 xc (ndRow [i]) hx rfl hnews (ndRow_one _) (fun hr j hj => ?_) (by simp only [maxLen]; omega) (by omega) (fun hr => ?_) (fun _ v' w' h1 h2 => hgrow v' w' h1 h2)
    · have hj7 : j < 8 := hj
      rw [hb.cell (by omega)]
      exact ⟨rfl, hb.frozen _⟩
    · refine h _ _ ?_ (fun b' n c e => .inr ?_) ((Fr.refl _ _).setCells b (fun _ => ⟨_, _, rfl⟩) _ _)
      · refine .inr ⟨b, cap, _, by rw [one_appendN], by rw [one_appendN]; omega, hb.setCells _ _, ?_⟩
        refine row_bufN fun j u e => ?_
        rw [ndRow_append] at e
        by_cases hlt : j < p.length * 8
        · rw [lay_out _ _ _ _ (.inl (by omega)), hf j hlt]
          rw [List.getElem?_append_left (by rw [ndRow_length]; exact hlt)] at e
          have := hpa.row j u e
          rw [hpa j hlt] at this
          simpa using this
        · rw [List.getElem?_append_right (by rw [ndRow_length]; omega), ndRow_length] at e
          obtain ⟨q1, q2⟩ := List.getElem?_eq_some_iff.1 e
          rw [lay_in _ _ _ _ (by omega) (by omega), ← q2]
          simp only [Nat.zero_add]
      · cases e; exact ⟨_, _, rfl⟩
end
end Go.Proofs.Qxb6500277aGreat
