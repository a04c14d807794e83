/- Ways in a slice; append. -/
import Derived.Test.Qxb6500283aGreatC13
import Derived.Test.Qxb6500283aGreatT2
namespace Go.Proofs.Qxb6500283aGreat
open Go Go.RowKit

def wy0V : Value := .agg #[.int .i64 0, .int .i64 0, .int .i64 0, .int .i64 0, .int .i64 0, .int .i64 0, .int .i64 0, .int .i64 0, .int .i64 0]
def wyCell (w : Wy) (j : Nat) : Value := match j with | 0 => .int .i64 (w.1 : Nat) | j + 1 => .int .i64 (w.2 j)
def capV (c : Cp) : Value := .agg #[.int .i64 (c 0), .int .i64 (c 1), .int .i64 (c 2), .int .i64 (c 3), .int .i64 (c 4), .int .i64 (c 5), .int .i64 (c 6), .int .i64 (c 7)]
theorem lt9 {j : Nat} (h : j < 9) : j = 0 ∨ j = 1 ∨ j = 2 ∨ j = 3 ∨ j = 4 ∨ j = 5 ∨ j = 6 ∨ j = 7 ∨ j = 8 := by omega
/-- The nodes lie from cell 0 of block b on. -/
def WPAt (w : World) (b : Nat) (p : List Wy) : Prop := ∀ k (h : k < p.length) j, j < 9 → w.cell? ⟨b, k * 9 + j, none⟩ = some (wyCell p[k] j)
theorem WPAt.frame {S : Nat → Prop} {w w' : World} {b : Nat} {p : List Wy} (h : WPAt w b p) (k : Fr S w w') (hb : ¬ S b) : WPAt w' b p := fun i hi j hj => by
  have h1 := h i hi j hj
  have hlt : b < w.heap.size := by
    by_cases hq : b < w.heap.size
    · exact hq
    · simp [World.cell?, hq] at h1
  rw [k.cell (p := ⟨b, i * 9 + j, none⟩) hlt hb]; exact h1
def WSlAt (w : World) (v : Value) (p : List Wy) : Prop := ∃ a cap, v = .slice a p.length cap ∧ (p = [] ∨ ∃ b, a = some ⟨b, 0, none⟩ ∧ WPAt w b p)
theorem WSlAt.frame {S : Nat → Prop} {w w' : World} {v : Value} {p : List Wy} (h : WSlAt w v p) (k : Fr S w w') (hb : ∀ b n c, v = .slice (some ⟨b, 0, none⟩) n c → ¬ S b) : WSlAt w' v p := by
  obtain ⟨a, cap, rfl, h⟩ := h
  refine ⟨a, cap, rfl, ?_⟩
  rcases h with h | ⟨b, rfl, h⟩
  · exact .inl h
  · exact .inr ⟨b, rfl, h.frame k (hb b _ _ rfl)⟩


def Holds9 (f : Nat → Value) (p : List Wy) : Prop := ∀ i (h : i < p.length) j, j < 9 → f (i * 9 + j) = wyCell p[i] j
def WysAt (w : World) (v : Value) (p : List Wy) : Prop :=
  (v = .slice none 0 0 ∧ p = []) ∨ ∃ b cap f, v = .slice (some ⟨b, 0, none⟩) p.length cap ∧ p.length ≤ cap ∧ Blk w b (cap * 9) f ∧ Holds9 f p
theorem Holds9.at {w : World} {b m : Nat} {f : Nat → Value} {p : List Wy} (h : Holds9 f p) (hb : Blk w b m f) (hm : p.length * 9 ≤ m) : WPAt w b p := fun i hi j hj => by
  rw [hb.cell (by omega), h i hi j hj]
theorem WysAt.sl {w : World} {v : Value} {p : List Wy} (h : WysAt w v p) : WSlAt w v p := by
  rcases h with ⟨rfl, rfl⟩ | ⟨b, cap, f, rfl, hc, hb, hf⟩
  · exact ⟨none, 0, rfl, .inl rfl⟩
  · exact ⟨_, cap, rfl, .inr ⟨b, rfl, hf.at hb (by omega)⟩⟩
theorem WysAt.frame {S : Nat → Prop} {w w' : World} {v : Value} {p : List Wy} (h : WysAt w v p) (k : Fr S w w') (hb : ∀ b n c, v = .slice (some ⟨b, 0, none⟩) n c → ¬ S b) : WysAt w' v p := by
  rcases h with h | ⟨b, cap, f, rfl, hc, hbk, hf⟩
  · exact .inl h
  · exact .inr ⟨b, cap, f, rfl, hc, hbk.frame k (hb b _ _ rfl), hf⟩
def wyRow (p : List Wy) : List Value := p.flatMap fun n => [.int .i64 (n.1 : Nat), .int .i64 (n.2 0), .int .i64 (n.2 1), .int .i64 (n.2 2), .int .i64 (n.2 3), .int .i64 (n.2 4), .int .i64 (n.2 5), .int .i64 (n.2 6), .int .i64 (n.2 7)]
theorem wyRow_length (p : List Wy) : (wyRow p).length = p.length * 9 := by
  induction p with
  | nil => rfl
  | cons i p ih => simp only [wyRow, List.flatMap_cons, List.length_append, List.length_cons, List.length_nil] at ih ⊢; omega
theorem wyRow_get : ∀ (p : List Wy) (i : Nat) (h : i < p.length) (j : Nat), j < 9 → (wyRow p)[i * 9 + j]? = some (wyCell p[i] j)
  | [], _, h, _, _ => absurd h (by simp)
  | q :: p, 0, _, j, hj => by
    rcases lt9 hj with rfl | rfl | rfl | rfl | rfl | rfl | rfl | rfl | rfl <;> rfl
  | q :: p, i + 1, h, j, hj => by
    have := wyRow_get p i (by simpa using h) j hj
    simp only [wyRow, List.flatMap_cons] at this ⊢
    rw [List.getElem?_append_right (by simp; omega)]
    simpa [show (i + 1) * 9 + j - 9 = i * 9 + j by omega] using this
theorem wyRow_append (p q : List Wy) : wyRow (p ++ q) = wyRow p ++ wyRow q := by simp [wyRow]
theorem wyRow_one (p : List Wy) : ∀ u ∈ wyRow p, u.oneCell' = true := by
  intro u hu
  simp only [wyRow, List.mem_flatMap] at hu
  obtain ⟨i, _, hu⟩ := hu
  simp only [List.mem_cons, List.not_mem_nil, or_false] at hu
  rcases hu with rfl | rfl | rfl | rfl | rfl | rfl | rfl | rfl | rfl <;> rfl
theorem WPAt.row {w : World} {b : Nat} {p : List Wy} (h : WPAt w b p) (j : Nat) (u : Value) (e : (wyRow p)[j]? = some u) : w.cell? ⟨b, j, none⟩ = some u := by
  have hj : j < p.length * 9 := by have := (List.getElem?_eq_some_iff.1 e).1; rwa [wyRow_length] at this
  have h1 := wyRow_get p (j / 9) (by omega) (j % 9) (by omega)
  have h2 := h (j / 9) (by omega) (j % 9) (by omega)
  rw [show j / 9 * 9 + j % 9 = j by omega] at h1 h2
  rw [h1] at e
  cases e
  exact h2
theorem Holds9.row {f : Nat → Value} {p : List Wy} (h : ∀ j u, (wyRow p)[j]? = some u → f j = u) : Holds9 f p := fun i hi j hj => h _ _ (wyRow_get p i hi j hj)

theorem WysAt.own {w' : World} {v' : Value} {base : Nat} {p : List Wy} (hp : 0 < p.length) (h : w'.ownsRow base 200 9 v' p.length (wyRow p)) :
    WysAt w' v' p ∧ ∀ b n c, v' = .slice (some ⟨b, 0, none⟩) n c → base ≤ b := by
  obtain ⟨_, ⟨_, h0⟩ | ⟨g, cap, cur, rfl, hg, hb, hn, _, hs, ht⟩⟩ := h
  · omega
  · refine ⟨.inr ⟨g, cap, fun o => cur.getD o undef, rfl, hn, ⟨cur, 200, hb, hs, fun o ho => ?_⟩, Holds9.row fun j u e => ?_⟩, fun b n c e => ?_⟩
    · simp [show o < cur.size by omega]
    · rw [← ht] at e
      have hj : j < cur.size := by have := (List.getElem?_eq_some_iff.1 e).1; simp at this; omega
      rw [List.getElem?_take] at e
      split at e
      · simp [hj] at e ⊢; exact e
      · cases e
    · cases e; exact hg

theorem Fr.grownW {w w' : World} (h : w.grownBy w' none) : Fr (fun _ => False) w w' := ⟨h.os, h.tape, h.output, h.size, fun b hb _ => h.block b hb (by simp)⟩
theorem one_appendW (p : List Wy) (i : Wy) : (p ++ [i]).length = p.length + 1 := by simp

section
variable {ops : Array Oper} {Q : Exit → Act → World → Prop} {a : Act} {w : World} {rest : List Oper} {o : Oper}
set_option maxRecDepth 100000 in
theorem wpList_appendWy (hgd : o.guard = none) (s x : Operand) (ho : o.op = .call { callee := .builtin .append, args := #[s, x], argTypes := #[197, 197] })
    (v : Value) (p : List Wy) (i : Wy) (xb xc : Nat) (hs : a.eval s = v) (hx : a.eval x = .slice (some ⟨xb, 0, none⟩) 1 xc) (hv : WysAt w v p) (hxb : WPAt w xb [i]) (hlen : p.length ≤ 300)
    (h : ∀ v' w', WysAt w' v' (p ++ [i]) → (∀ b n c, v' = .slice (some ⟨b, 0, none⟩) n c → w.heap.size ≤ b ∨ ∃ n' c', v = .slice (some ⟨b, 0, none⟩) n' c') →
      Fr (fun b => ∃ n c, v = .slice (some ⟨b, 0, none⟩) n c) w w' → wpList Tryz.prog ops Q rest (a.put o.dst v') w') : wpList Tryz.prog ops Q (o :: rest) a w := by
  obtain ⟨ti, hi, hz, hsz, hby⟩ : ∃ ti, Tryz.prog.info? 200 = some ti ∧ ti.zero = some (wy0V) ∧ ti.size = 9 ∧ ti.bytes = 72 := by
    have e1 : (Tryz.prog.info? 200).map (·.size) = some 9 := by kernel_rfl
    have e2 : (Tryz.prog.info? 200).map (·.bytes) = some 72 := by kernel_rfl
    have e3 : (Tryz.prog.info? 200).bind (·.zero) = some (wy0V) := by kernel_rfl
    cases hq : Tryz.prog.info? 200 with
    | none => rw [hq] at e1; cases e1
    | some ti =>
      rw [hq] at e1 e2 e3
      exact ⟨ti, rfl, by simpa using e3, by simpa using e1, by simpa using e2⟩
  have hz9 : (wy0V).cells.size = 9 := by kernel_rfl
  have hadd : ∀ (b j : Nat), (⟨b, 0, none⟩ : Addr).add j = ⟨b, j, none⟩ := fun b j => by rw [Addr.add_lit]; simp
  have hnews : ∀ j u, (wyRow [i])[j]? = some u → w.cell? ((⟨xb, 0, none⟩ : Addr).add j) = some u := fun j u e => by rw [hadd]; exact hxb.row j u e
  have hpos : 0 < (p ++ [i]).length := by simp
  have hgrow : ∀ v' w', w'.ownsRow w.heap.size 200 9 v' (p.length + 1) (wyRow p ++ wyRow [i]) → w.grownBy w' none → wpList Tryz.prog ops Q rest (a.put o.dst v') w' := by
    intro v' w' h1 h2
    rw [← wyRow_append, ← one_appendW p i] at h1
    obtain ⟨c1, c2⟩ := WysAt.own hpos h1
    exact h v' w' c1 (fun b n c e => .inl (c2 b n c e)) ((Fr.grownW h2).mono (fun _ _ h => h.elim))
  rcases hv with ⟨rfl, rfl⟩ | ⟨b, cap, f, rfl, hc, hb, hf⟩
  · exact wpList_append_grows w hgd s x 197 ho 200 ti _ 9 72 Tryz.underlying197 hi hz hsz hby hz9 (by omega) none 0 0 [] hs (fun _ => ⟨rfl, rfl⟩) rfl (fun _ e => by cases e) ⟨xb, 0, none⟩ 1 xc (wyRow [i]) hx rfl hnews (wyRow_one _) (by omega) (by simp [maxLen]) (by omega)
      (fun v' w' h1 h2 => hgrow v' w' h1 h2)
  · refine wpList_append_arg w hgd s x 197 ho 200 ti _ 9 72 Tryz.underlying197 hi hz hsz hby hz9 (by omega) b 0 p.length cap (wyRow p) hs (wyRow_length p) (fun j u e => by rw [Nat.zero_add]; exact (hf.at hb (by omega)).row j u e)
      ⟨xb, 0, none⟩ 1 xc (wyRow [i]) hx rfl hnews (wyRow_one _) (fun hr j hj => ?_) (by simp only [maxLen]; omega) (by omega) (fun hr => ?_) (fun _ v' w' h1 h2 => hgrow v' w' h1 h2)
    · have hj9 : j < 9 := hj
      rw [hb.cell (by omega)]
      exact ⟨rfl, hb.frozen _⟩
    · refine h _ _ ?_ (fun b' n c e => .inr ?_) ((Fr.refl _ _).setCells b (fun _ => ⟨_, _, rfl⟩) _ _)
      · refine .inr ⟨b, cap, _, by rw [one_appendW], by rw [one_appendW]; omega, hb.setCells _ _, ?_⟩
        intro k hk j hj
        by_cases hlt : k < p.length
        · rw [lay_out _ _ _ _ (.inl (by omega)), List.getElem_append_left hlt]
          exact hf k hlt j hj
        · have hk2 : k = p.length := by rw [one_appendW] at hk; omega
          subst hk2
          rw [lay_in _ _ _ _ (by omega) (by show _ < _ + 9; omega)]
          have := wyRow_get [i] 0 (by simp) j hj
          simp only [List.getElem_append_right (Nat.le_refl _), Nat.sub_self, List.getElem_cons_zero] at this ⊢
          have e := List.getElem?_eq_some_iff.1 this
          obtain ⟨_, e⟩ := e
          rw [← e]
          congr 1
          omega
      · cases e; exact ⟨_, _, rfl⟩
end
end Go.Proofs.Qxb6500283aGreat
