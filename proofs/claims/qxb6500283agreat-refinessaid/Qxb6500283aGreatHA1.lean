/- Matches in a slice; append. -/
import Derived.Test.Qxb6500283aGreatHG6
namespace Go.Proofs.Qxb6500283aGreat
open Go Go.RowKit

theorem lt_Kc {j : Nat} (h : j < 8) : j = 0 ∨ j = 1 ∨ j = 2 ∨ j = 3 ∨ j = 4 ∨ j = 5 ∨ j = 6 ∨ j = 7 := by omega
def kcCell (c : Cp) (j : Nat) : Value := .int .i64 (c j)
/-- The nodes lie from cell 0 of block b on. -/
def KcP (w : World) (b : Nat) (p : List Cp) : Prop := ∀ k (h : k < p.length) j, j < 8 → w.cell? ⟨b, k * 8 + j, none⟩ = some (kcCell p[k] j)
theorem KcP.frame {S : Nat → Prop} {w w' : World} {b : Nat} {p : List Cp} (h : KcP w b p) (k : Fr S w w') (hb : ¬ S b) : KcP w' b p := fun i hi j hj => by
  have h1 := h i hi j hj
  have hlt : b < w.heap.size := by
    by_cases hq : b < w.heap.size
    · exact hq
    · simp [World.cell?, hq] at h1
  rw [k.cell (p := ⟨b, i * 8 + j, none⟩) hlt hb]; exact h1
def KcSl (w : World) (v : Value) (p : List Cp) : Prop := ∃ a cap, v = .slice a p.length cap ∧ (p = [] ∨ ∃ b, a = some ⟨b, 0, none⟩ ∧ KcP w b p)
theorem KcSl.frame {S : Nat → Prop} {w w' : World} {v : Value} {p : List Cp} (h : KcSl w v p) (k : Fr S w w') (hb : ∀ b n c, v = .slice (some ⟨b, 0, none⟩) n c → ¬ S b) : KcSl w' v p := by
  obtain ⟨a, cap, rfl, h⟩ := h
  refine ⟨a, cap, rfl, ?_⟩
  rcases h with h | ⟨b, rfl, h⟩
  · exact .inl h
  · exact .inr ⟨b, rfl, h.frame k (hb b _ _ rfl)⟩


def KcH (f : Nat → Value) (p : List Cp) : Prop := ∀ i (h : i < p.length) j, j < 8 → f (i * 8 + j) = kcCell p[i] j
def KcAt (w : World) (v : Value) (p : List Cp) : Prop :=
  (v = .slice none 0 0 ∧ p = []) ∨ ∃ b cap f, v = .slice (some ⟨b, 0, none⟩) p.length cap ∧ p.length ≤ cap ∧ Blk w b (cap * 8) f ∧ KcH f p
theorem KcH.at {w : World} {b m : Nat} {f : Nat → Value} {p : List Cp} (h : KcH f p) (hb : Blk w b m f) (hm : p.length * 8 ≤ m) : KcP w b p := fun i hi j hj => by
  rw [hb.cell (by omega), h i hi j hj]
theorem KcAt.sl {w : World} {v : Value} {p : List Cp} (h : KcAt w v p) : KcSl w v p := by
  rcases h with ⟨rfl, rfl⟩ | ⟨b, cap, f, rfl, hc, hb, hf⟩
  · exact ⟨none, 0, rfl, .inl rfl⟩
  · exact ⟨_, cap, rfl, .inr ⟨b, rfl, hf.at hb (by omega)⟩⟩
theorem KcAt.frame {S : Nat → Prop} {w w' : World} {v : Value} {p : List Cp} (h : KcAt w v p) (k : Fr S w w') (hb : ∀ b n c, v = .slice (some ⟨b, 0, none⟩) n c → ¬ S b) : KcAt w' v p := by
  rcases h with h | ⟨b, cap, f, rfl, hc, hbk, hf⟩
  · exact .inl h
  · exact .inr ⟨b, cap, f, rfl, hc, hbk.frame k (hb b _ _ rfl), hf⟩
def kcRow (p : List Cp) : List Value := p.flatMap fun n => [.int .i64 (n 0), .int .i64 (n 1), .int .i64 (n 2), .int .i64 (n 3), .int .i64 (n 4), .int .i64 (n 5), .int .i64 (n 6), .int .i64 (n 7)]
theorem kcRow_length (p : List Cp) : (kcRow p).length = p.length * 8 := by
  induction p with
  | nil => rfl
  | cons i p ih => simp only [kcRow, List.flatMap_cons, List.length_append, List.length_cons, List.length_nil] at ih ⊢; omega
theorem kcRow_get : ∀ (p : List Cp) (i : Nat) (h : i < p.length) (j : Nat), j < 8 → (kcRow p)[i * 8 + j]? = some (kcCell p[i] j)
  | [], _, h, _, _ => absurd h (by simp)
  | q :: p, 0, _, j, hj => by
    rcases lt_Kc hj with rfl | rfl | rfl | rfl | rfl | rfl | rfl | rfl <;> rfl
  | q :: p, i + 1, h, j, hj => by
    have := kcRow_get p i (by simpa using h) j hj
    simp only [kcRow, List.flatMap_cons] at this ⊢
    rw [List.getElem?_append_right (by simp; omega)]
    simpa [show (i + 1) * 8 + j - 8 = i * 8 + j by omega] using this
theorem kcRow_append (p q : List Cp) : kcRow (p ++ q) = kcRow p ++ kcRow q := by simp [kcRow]
theorem kcRow_one (p : List Cp) : ∀ u ∈ kcRow p, u.oneCell' = true := by
  intro u hu
  simp only [kcRow, List.mem_flatMap] at hu
  obtain ⟨i, _, hu⟩ := hu
  simp only [List.mem_cons, List.not_mem_nil, or_false] at hu
  rcases hu with rfl | rfl | rfl | rfl | rfl | rfl | rfl | rfl <;> rfl
theorem KcP.row {w : World} {b : Nat} {p : List Cp} (h : KcP w b p) (j : Nat) (u : Value) (e : (kcRow p)[j]? = some u) : w.cell? ⟨b, j, none⟩ = some u := by
  have hj : j < p.length * 8 := by have := (List.getElem?_eq_some_iff.1 e).1; rwa [kcRow_length] at this
  have h1 := kcRow_get p (j / 8) (by omega) (j % 8) (by omega)
  have h2 := h (j / 8) (by omega) (j % 8) (by omega)
  rw [show j / 8 * 8 + j % 8 = j by omega] at h1 h2
  rw [h1] at e
  cases e
  exact h2
theorem KcH.row {f : Nat → Value} {p : List Cp} (h : ∀ j u, (kcRow p)[j]? = some u → f j = u) : KcH f p := fun i hi j hj => h _ _ (kcRow_get p i hi j hj)

theorem KcAt.own {w' : World} {v' : Value} {base : Nat} {p : List Cp} (hp : 0 < p.length) (h : w'.ownsRow base 64 8 v' p.length (kcRow p)) :
    KcAt w' v' p ∧ ∀ b n c, v' = .slice (some ⟨b, 0, none⟩) n c → base ≤ b := by
  obtain ⟨_, ⟨_, h0⟩ | ⟨g, cap, cur, rfl, hg, hb, hn, _, hs, ht⟩⟩ := h
  · omega
  · refine ⟨.inr ⟨g, cap, fun o => cur.getD o undef, rfl, hn, ⟨cur, 64, hb, hs, fun o ho => ?_⟩, KcH.row fun j u e => ?_⟩, fun b n c e => ?_⟩
    · simp [show o < cur.size by omega]
    · rw [← ht] at e
      have hj : j < cur.size := by have := (List.getElem?_eq_some_iff.1 e).1; simp at this; omega
      rw [List.getElem?_take] at e
      split at e
      · simp [hj] at e ⊢; exact e
      · cases e
    · cases e; exact hg

theorem Fr.grownKc {w w' : World} (h : w.grownBy w' none) : Fr (fun _ => False) w w' := ⟨h.os, h.tape, h.output, h.size, fun b hb _ => h.block b hb (by simp)⟩
theorem one_appendKc (p : List Cp) (i : Cp) : (p ++ [i]).length = p.length + 1 := by simp

section
variable {ops : Array Oper} {Q : Exit → Act → World → Prop} {a : Act} {w : World} {rest : List Oper} {o : Oper}
set_option maxRecDepth 100000 in
theorem wpList_appendKc (hgd : o.guard = none) (s x : Operand) (ho : o.op = .call { callee := .builtin .append, args := #[s, x], argTypes := #[40, 40] })
    (v : Value) (p : List Cp) (i : Cp) (xb xc : Nat) (hs : a.eval s = v) (hx : a.eval x = .slice (some ⟨xb, 0, none⟩) 1 xc) (hv : KcAt w v p) (hxb : KcP w xb [i]) (hlen : p.length ≤ 300)
    (h : ∀ v' w', KcAt w' v' (p ++ [i]) → (∀ b n c, v' = .slice (some ⟨b, 0, none⟩) n c → w.heap.size ≤ b ∨ ∃ n' c', v = .slice (some ⟨b, 0, none⟩) n' c') →
      Fr (fun b => ∃ n c, v = .slice (some ⟨b, 0, none⟩) n c) w w' → wpList Tryz.prog ops Q rest (a.put o.dst v') w') : wpList Tryz.prog ops Q (o :: rest) a w := by
  obtain ⟨ti, hi, hz, hsz, hby⟩ : ∃ ti, Tryz.prog.info? 64 = some ti ∧ ti.zero = some (zC) ∧ ti.size = 8 ∧ ti.bytes = 64 := by
    have e1 : (Tryz.prog.info? 64).map (·.size) = some 8 := by kernel_rfl
    have e2 : (Tryz.prog.info? 64).map (·.bytes) = some 64 := by kernel_rfl
    have e3 : (Tryz.prog.info? 64).bind (·.zero) = some (zC) := by kernel_rfl
    cases hq : Tryz.prog.info? 64 with
    | none => rw [hq] at e1; cases e1
    | some ti =>
      rw [hq] at e1 e2 e3
      exact ⟨ti, rfl, by simpa using e3, by simpa using e1, by simpa using e2⟩
  have hz9 : (zC).cells.size = 8 := by kernel_rfl
  have hadd : ∀ (b j : Nat), (⟨b, 0, none⟩ : Addr).add j = ⟨b, j, none⟩ := fun b j => by rw [Addr.add_lit]; simp
  have hnews : ∀ j u, (kcRow [i])[j]? = some u → w.cell? ((⟨xb, 0, none⟩ : Addr).add j) = some u := fun j u e => by rw [hadd]; exact hxb.row j u e
  have hpos : 0 < (p ++ [i]).length := by simp
  have hgrow : ∀ v' w', w'.ownsRow w.heap.size 64 8 v' (p.length + 1) (kcRow p ++ kcRow [i]) → w.grownBy w' none → wpList Tryz.prog ops Q rest (a.put o.dst v') w' := by
    intro v' w' h1 h2
    rw [← kcRow_append, ← one_appendKc p i] at h1
    obtain ⟨c1, c2⟩ := KcAt.own hpos h1
    exact h v' w' c1 (fun b n c e => .inl (c2 b n c e)) ((Fr.grownKc h2).mono (fun _ _ h => h.elim))
  rcases hv with ⟨rfl, rfl⟩ | ⟨b, cap, f, rfl, hc, hb, hf⟩
  · exact wpList_append_grows w hgd s x 40 ho 64 ti _ 8 64 Tryz.underlying40 hi hz hsz hby hz9 (by omega) none 0 0 [] hs (fun _ => ⟨rfl, rfl⟩) rfl (fun _ e => by cases e) ⟨xb, 0, none⟩ 1 xc (kcRow [i]) hx rfl hnews (kcRow_one _) (by omega) (by simp [maxLen]) (by omega)
      (fun v' w' h1 h2 => hgrow v' w' h1 h2)
  · refine wpList_append_arg w hgd s x 40 ho 64 ti _ 8 64 Tryz.underlying40 hi hz hsz hby hz9 (by omega) b 0 p.length cap (kcRow p) hs (kcRow_length p) (fun j u e => by rw [Nat.zero_add]; exact (hf.at hb (by omega)).row j u e)
      ⟨xb, 0, none⟩ 1 xc (kcRow [i]) hx rfl hnews (kcRow_one _) (fun hr j hj => ?_) (by simp only [maxLen]; omega) (by omega) (fun hr => ?_) (fun _ v' w' h1 h2 => hgrow v' w' h1 h2)
    · have hj9 : j < 8 := hj
      rw [hb.cell (by omega)]
      exact ⟨rfl, hb.frozen _⟩
    · refine h _ _ ?_ (fun b' n c e => .inr ?_) ((Fr.refl _ _).setCells b (fun _ => ⟨_, _, rfl⟩) _ _)
      · refine .inr ⟨b, cap, _, by rw [one_appendKc], by rw [one_appendKc]; omega, hb.setCells _ _, ?_⟩
        intro k hk j hj
        by_cases hlt : k < p.length
        · rw [lay_out _ _ _ _ (.inl (by omega)), List.getElem_append_left hlt]
          exact hf k hlt j hj
        · have hk2 : k = p.length := by rw [one_appendKc] at hk; omega
          subst hk2
          rw [lay_in _ _ _ _ (by omega) (by show _ < _ + 8; omega)]
          have := kcRow_get [i] 0 (by simp) j hj
          simp only [List.getElem_append_right (Nat.le_refl _), Nat.sub_self, List.getElem_cons_zero] at this ⊢
          have e := List.getElem?_eq_some_iff.1 this
          obtain ⟨_, e⟩ := e
          rw [← e]
          congr 1
          omega
      · cases e; exact ⟨_, _, rfl⟩
end
theorem KcAt.at {w : World} {v : Value} {p : List Cp} (h : KcAt w v p) : CAt w v p := by
  rcases h with ⟨rfl, rfl⟩ | ⟨b, k, f, rfl, h1, h2, h3⟩
  · exact .inl ⟨rfl, _, _, rfl⟩
  · exact .inr ⟨b, k, _, f, rfl, h2, by omega, h3⟩
theorem KcP.of8 {w : World} {b : Nat} {c : Cp} (h : Blk w b 8 (fun o => .int .i64 (c o))) : KcP w b [c] := fun i hi j hj => by
  obtain rfl : i = 0 := by simpa using hi
  rw [Nat.zero_mul, Nat.zero_add, h.cell hj]; rfl
end Go.Proofs.Qxb6500283aGreat
