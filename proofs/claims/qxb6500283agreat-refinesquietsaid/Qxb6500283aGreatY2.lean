/- append onto a list of instructions, onto a stack of work. -/
import Derived.Test.Qxb6500283aGreatPkCode
import Derived.Test.Qxb6500283aGreatPL6
import Derived.Test.Qxb6500283aGreatC1
import Derived.ArgAppend
namespace Go.Proofs.Qxb6500283aGreat
open Go Go.RowKit

def inRow (p : List In) : List Value := p.flatMap fun i => [.int .i64 i.op, .int .i64 i.x, .int .i64 i.y, .int .u64 i.s0, .int .u64 i.s1, .int .u64 i.s2, .int .u64 i.s3]
theorem inRow_length (p : List In) : (inRow p).length = p.length * 7 := by
  induction p with
  | nil => rfl
  | cons i p ih => simp only [inRow, List.flatMap_cons, List.length_append, List.length_cons, List.length_nil] at ih ⊢; omega
theorem inRow_get : ∀ (p : List In) (i : Nat) (h : i < p.length) (j : Nat), j < 7 → (inRow p)[i * 7 + j]? = some (inCell p[i] j)
  | [], _, h, _, _ => absurd h (by simp)
  | q :: p, 0, _, j, hj => by
    rcases (show j = 0 ∨ j = 1 ∨ j = 2 ∨ j = 3 ∨ j = 4 ∨ j = 5 ∨ j = 6 by omega) with rfl | rfl | rfl | rfl | rfl | rfl | rfl <;> rfl
  | q :: p, i + 1, h, j, hj => by
    have := inRow_get p i (by simpa using h) j hj
    simp only [inRow, List.flatMap_cons] at this ⊢
    rw [List.getElem?_append_right (by simp; omega)]
    simpa [show (i + 1) * 7 + j - 7 = i * 7 + j by omega] using this
theorem inRow_append (p q : List In) : inRow (p ++ q) = inRow p ++ inRow q := by simp [inRow]
theorem inRow_one (p : List In) : ∀ u ∈ inRow p, u.oneCell' = true := by
  intro u hu
  simp only [inRow, List.mem_flatMap] at hu
  obtain ⟨i, _, hu⟩ := hu
  simp only [List.mem_cons, List.not_mem_nil, or_false] at hu
  rcases hu with rfl | rfl | rfl | rfl | rfl | rfl | rfl <;> rfl
theorem PAt.row {w : World} {b : Nat} {p : List In} (h : PAt w b p) (j : Nat) (u : Value) (e : (inRow p)[j]? = some u) : w.cell? ⟨b, j, none⟩ = some u := by
  have hj : j < p.length * 7 := by have := (List.getElem?_eq_some_iff.1 e).1; rwa [inRow_length] at this
  have h1 := inRow_get p (j / 7) (by omega) (j % 7) (by omega)
  have h2 := h (j / 7) (by omega) (j % 7) (by omega)
  rw [show j / 7 * 7 + j % 7 = j by omega] at h1 h2
  rw [h1] at e
  cases e
  exact h2
theorem Holds7.row {f : Nat → Value} {p : List In} (h : ∀ j u, (inRow p)[j]? = some u → f j = u) : Holds7 f p := fun i hi j hj => h _ _ (inRow_get p i hi j hj)

theorem CodeAt.own {w' : World} {v' : Value} {base : Nat} {p : List In} (hp : 0 < p.length) (h : w'.ownsRow base 185 7 v' p.length (inRow p)) :
    CodeAt w' v' p ∧ ∀ b n c, v' = .slice (some ⟨b, 0, none⟩) n c → base ≤ b := by
  obtain ⟨_, ⟨_, h0⟩ | ⟨g, cap, cur, rfl, hg, hb, hn, _, hs, ht⟩⟩ := h
  · omega
  · refine ⟨.inr ⟨g, cap, fun o => cur.getD o undef, rfl, hn, ⟨cur, 185, hb, hs, fun o ho => ?_⟩, Holds7.row fun j u e => ?_⟩, fun b n c e => ?_⟩
    · simp [show o < cur.size by omega]
    · rw [← ht] at e
      have hj : j < cur.size := by have := (List.getElem?_eq_some_iff.1 e).1; simp at this; omega
      rw [List.getElem?_take] at e
      split at e
      · simp [hj] at e ⊢; exact e
      · cases e
    · cases e; exact hg

theorem Fr.grownI {w w' : World} (h : w.grownBy w' none) : Fr (fun _ => False) w w' := ⟨h.os, h.tape, h.output, h.size, fun b hb _ => h.block b hb (by simp)⟩
theorem one_appendI (p : List In) (i : In) : (p ++ [i]).length = p.length + 1 := by simp

section
variable {ops : Array Oper} {Q : Exit → Act → World → Prop} {a : Act} {w : World} {rest : List Oper} {o : Oper}
set_option maxRecDepth 100000 in
theorem wpList_appendCode (hgd : o.guard = none) (s x : Operand) (ho : o.op = .call { callee := .builtin .append, args := #[s, x], argTypes := #[117, 117] })
    (v : Value) (p : List In) (i : In) (xb xc : Nat) (hs : a.eval s = v) (hx : a.eval x = .slice (some ⟨xb, 0, none⟩) 1 xc) (hv : CodeAt w v p) (hxb : PAt w xb [i]) (hlen : p.length ≤ 300)
    (h : ∀ v' w', CodeAt w' v' (p ++ [i]) → (∀ b n c, v' = .slice (some ⟨b, 0, none⟩) n c → w.heap.size ≤ b ∨ ∃ n' c', v = .slice (some ⟨b, 0, none⟩) n' c') →
      Fr (fun b => ∃ n c, v = .slice (some ⟨b, 0, none⟩) n c) w w' → wpList Tryz.prog ops Q rest (a.put o.dst v') w') : wpList Tryz.prog ops Q (o :: rest) a w := by
  obtain ⟨ti, hi, hz, hsz, hby⟩ : ∃ ti, Tryz.prog.info? 185 = some ti ∧ ti.zero = some (inV ⟨0, 0, 0, 0, 0, 0, 0⟩) ∧ ti.size = 7 ∧ ti.bytes = 56 := by
    have e1 : (Tryz.prog.info? 185).map (·.size) = some 7 := by kernel_rfl
    have e2 : (Tryz.prog.info? 185).map (·.bytes) = some 56 := by kernel_rfl
    have e3 : (Tryz.prog.info? 185).bind (·.zero) = some (inV ⟨0, 0, 0, 0, 0, 0, 0⟩) := by kernel_rfl
    cases hq : Tryz.prog.info? 185 with
    | none => rw [hq] at e1; cases e1
    | some ti =>
      rw [hq] at e1 e2 e3
      exact ⟨ti, rfl, by simpa using e3, by simpa using e1, by simpa using e2⟩
  have hz7 : (inV ⟨0, 0, 0, 0, 0, 0, 0⟩).cells.size = 7 := by kernel_rfl
  have hadd : ∀ (b j : Nat), (⟨b, 0, none⟩ : Addr).add j = ⟨b, j, none⟩ := fun b j => by rw [Addr.add_lit]; simp
  have hnews : ∀ j u, (inRow [i])[j]? = some u → w.cell? ((⟨xb, 0, none⟩ : Addr).add j) = some u := fun j u e => by rw [hadd]; exact hxb.row j u e
  have hpos : 0 < (p ++ [i]).length := by simp
  have hgrow : ∀ v' w', w'.ownsRow w.heap.size 185 7 v' (p.length + 1) (inRow p ++ inRow [i]) → w.grownBy w' none → wpList Tryz.prog ops Q rest (a.put o.dst v') w' := by
    intro v' w' h1 h2
    rw [← inRow_append, ← one_appendI p i] at h1
    obtain ⟨c1, c2⟩ := CodeAt.own hpos h1
    exact h v' w' c1 (fun b n c e => .inl (c2 b n c e)) ((Fr.grownI h2).mono (fun _ _ h => h.elim))
  rcases hv with ⟨rfl, rfl⟩ | ⟨b, cap, f, rfl, hc, hb, hf⟩
  · exact wpList_append_grows w hgd s x 117 ho 185 ti _ 7 56 Tryz.underlying117 hi hz hsz hby hz7 (by omega) none 0 0 [] hs (fun _ => ⟨rfl, rfl⟩) rfl (fun _ e => by cases e) ⟨xb, 0, none⟩ 1 xc (inRow [i]) hx rfl hnews (inRow_one _) (by omega) (by simp [maxLen]) (by omega)
      (fun v' w' h1 h2 => hgrow v' w' h1 h2)
  · refine wpList_append_arg w hgd s x 117 ho 185 ti _ 7 56 Tryz.underlying117 hi hz hsz hby hz7 (by omega) b 0 p.length cap (inRow p) hs (inRow_length p) (fun j u e => by rw [Nat.zero_add]; exact (hf.at hb (by omega)).row j u e)
      ⟨xb, 0, none⟩ 1 xc (inRow [i]) hx rfl hnews (inRow_one _) (fun hr j hj => ?_) (by simp only [maxLen]; omega) (by omega) (fun hr => ?_) (fun _ v' w' h1 h2 => hgrow v' w' h1 h2)
    · have hj7 : j < 7 := hj
      rw [hb.cell (by omega)]
      exact ⟨rfl, hb.frozen _⟩
    · refine h _ _ ?_ (fun b' n c e => .inr ?_) ((Fr.refl _ _).setCells b (fun _ => ⟨_, _, rfl⟩) _ _)
      · refine .inr ⟨b, cap, _, by rw [one_appendI], by rw [one_appendI]; omega, hb.setCells _ _, ?_⟩
        intro k hk j hj
        by_cases hlt : k < p.length
        · rw [lay_out _ _ _ _ (.inl (by omega)), List.getElem_append_left hlt]
          exact hf k hlt j hj
        · have hk2 : k = p.length := by rw [one_appendI] at hk; omega
          subst hk2
          rw [lay_in _ _ _ _ (by omega) (by show _ < _ + 7; omega)]
          have := inRow_get [i] 0 (by simp) j hj
          simp only [List.getElem_append_right (Nat.le_refl _), Nat.sub_self, List.getElem_cons_zero] at this ⊢
          have e := List.getElem?_eq_some_iff.1 this
          obtain ⟨_, e⟩ := e
          rw [← e]
          congr 1
          omega
      · cases e; exact ⟨_, _, rfl⟩
end
def wk0V : Value := .agg #[.int .i64 0, .int .i64 0, .int .i64 0]
def wkCell (w : Wk) (j : Nat) : Value := match j with | 0 => .int .i64 (w.what : Nat) | 1 => .int .i64 (w.a : Nat) | _ => .int .i64 (w.b : Nat)
theorem lt3 {j : Nat} (h : j < 3) : j = 0 ∨ j = 1 ∨ j = 2 := by omega
/-- The works lie from cell 0 of block b on. -/
def KPAt (w : World) (b : Nat) (p : List Wk) : Prop := ∀ k (h : k < p.length) j, j < 3 → w.cell? ⟨b, k * 3 + j, none⟩ = some (wkCell p[k] j)
theorem KPAt.frame {S : Nat → Prop} {w w' : World} {b : Nat} {p : List Wk} (h : KPAt w b p) (k : Fr S w w') (hb : ¬ S b) : KPAt w' b p := fun i hi j hj => by
  have h1 := h i hi j hj
  have hlt : b < w.heap.size := by
    by_cases hq : b < w.heap.size
    · exact hq
    · simp [World.cell?, hq] at h1
  rw [k.cell (p := ⟨b, i * 3 + j, none⟩) hlt hb]; exact h1
def KSlAt (w : World) (v : Value) (p : List Wk) : Prop := ∃ a cap, v = .slice a p.length cap ∧ (p = [] ∨ ∃ b, a = some ⟨b, 0, none⟩ ∧ KPAt w b p)
theorem KSlAt.frame {S : Nat → Prop} {w w' : World} {v : Value} {p : List Wk} (h : KSlAt w v p) (k : Fr S w w') (hb : ∀ b n c, v = .slice (some ⟨b, 0, none⟩) n c → ¬ S b) : KSlAt w' v p := by
  obtain ⟨a, cap, rfl, h⟩ := h
  refine ⟨a, cap, rfl, ?_⟩
  rcases h with h | ⟨b, rfl, h⟩
  · exact .inl h
  · exact .inr ⟨b, rfl, h.frame k (hb b _ _ rfl)⟩


def Holds3 (f : Nat → Value) (p : List Wk) : Prop := ∀ i (h : i < p.length) j, j < 3 → f (i * 3 + j) = wkCell p[i] j
def WksAt (w : World) (v : Value) (p : List Wk) : Prop :=
  (v = .slice none 0 0 ∧ p = []) ∨ ∃ b cap f, v = .slice (some ⟨b, 0, none⟩) p.length cap ∧ p.length ≤ cap ∧ Blk w b (cap * 3) f ∧ Holds3 f p
theorem Holds3.at {w : World} {b m : Nat} {f : Nat → Value} {p : List Wk} (h : Holds3 f p) (hb : Blk w b m f) (hm : p.length * 3 ≤ m) : KPAt w b p := fun i hi j hj => by
  rw [hb.cell (by omega), h i hi j hj]
theorem WksAt.sl {w : World} {v : Value} {p : List Wk} (h : WksAt w v p) : KSlAt w v p := by
  rcases h with ⟨rfl, rfl⟩ | ⟨b, cap, f, rfl, hc, hb, hf⟩
  · exact ⟨none, 0, rfl, .inl rfl⟩
  · exact ⟨_, cap, rfl, .inr ⟨b, rfl, hf.at hb (by omega)⟩⟩
theorem WksAt.frame {S : Nat → Prop} {w w' : World} {v : Value} {p : List Wk} (h : WksAt w v p) (k : Fr S w w') (hb : ∀ b n c, v = .slice (some ⟨b, 0, none⟩) n c → ¬ S b) : WksAt w' v p := by
  rcases h with h | ⟨b, cap, f, rfl, hc, hbk, hf⟩
  · exact .inl h
  · exact .inr ⟨b, cap, f, rfl, hc, hbk.frame k (hb b _ _ rfl), hf⟩
def wkRow (p : List Wk) : List Value := p.flatMap fun n => [.int .i64 (n.what : Nat), .int .i64 (n.a : Nat), .int .i64 (n.b : Nat)]
theorem wkRow_length (p : List Wk) : (wkRow p).length = p.length * 3 := by
  induction p with
  | nil => rfl
  | cons i p ih => simp only [wkRow, List.flatMap_cons, List.length_append, List.length_cons, List.length_nil] at ih ⊢; omega
theorem wkRow_get : ∀ (p : List Wk) (i : Nat) (h : i < p.length) (j : Nat), j < 3 → (wkRow p)[i * 3 + j]? = some (wkCell p[i] j)
  | [], _, h, _, _ => absurd h (by simp)
  | q :: p, 0, _, j, hj => by
    rcases lt3 hj with rfl | rfl | rfl <;> rfl
  | q :: p, i + 1, h, j, hj => by
    have := wkRow_get p i (by simpa using h) j hj
    simp only [wkRow, List.flatMap_cons] at this ⊢
    rw [List.getElem?_append_right (by simp; omega)]
    simpa [show (i + 1) * 3 + j - 3 = i * 3 + j by omega] using this
theorem wkRow_append (p q : List Wk) : wkRow (p ++ q) = wkRow p ++ wkRow q := by simp [wkRow]
theorem wkRow_one (p : List Wk) : ∀ u ∈ wkRow p, u.oneCell' = true := by
  intro u hu
  simp only [wkRow, List.mem_flatMap] at hu
  obtain ⟨i, _, hu⟩ := hu
  simp only [List.mem_cons, List.not_mem_nil, or_false] at hu
  rcases hu with rfl | rfl | rfl <;> rfl
theorem KPAt.row {w : World} {b : Nat} {p : List Wk} (h : KPAt w b p) (j : Nat) (u : Value) (e : (wkRow p)[j]? = some u) : w.cell? ⟨b, j, none⟩ = some u := by
  have hj : j < p.length * 3 := by have := (List.getElem?_eq_some_iff.1 e).1; rwa [wkRow_length] at this
  have h1 := wkRow_get p (j / 3) (by omega) (j % 3) (by omega)
  have h2 := h (j / 3) (by omega) (j % 3) (by omega)
  rw [show j / 3 * 3 + j % 3 = j by omega] at h1 h2
  rw [h1] at e
  cases e
  exact h2
theorem Holds3.row {f : Nat → Value} {p : List Wk} (h : ∀ j u, (wkRow p)[j]? = some u → f j = u) : Holds3 f p := fun i hi j hj => h _ _ (wkRow_get p i hi j hj)

theorem WksAt.own {w' : World} {v' : Value} {base : Nat} {p : List Wk} (hp : 0 < p.length) (h : w'.ownsRow base 181 3 v' p.length (wkRow p)) :
    WksAt w' v' p ∧ ∀ b n c, v' = .slice (some ⟨b, 0, none⟩) n c → base ≤ b := by
  obtain ⟨_, ⟨_, h0⟩ | ⟨g, cap, cur, rfl, hg, hb, hn, _, hs, ht⟩⟩ := h
  · omega
  · refine ⟨.inr ⟨g, cap, fun o => cur.getD o undef, rfl, hn, ⟨cur, 181, hb, hs, fun o ho => ?_⟩, Holds3.row fun j u e => ?_⟩, fun b n c e => ?_⟩
    · simp [show o < cur.size by omega]
    · rw [← ht] at e
      have hj : j < cur.size := by have := (List.getElem?_eq_some_iff.1 e).1; simp at this; omega
      rw [List.getElem?_take] at e
      split at e
      · simp [hj] at e ⊢; exact e
      · cases e
    · cases e; exact hg

theorem Fr.grownK {w w' : World} (h : w.grownBy w' none) : Fr (fun _ => False) w w' := ⟨h.os, h.tape, h.output, h.size, fun b hb _ => h.block b hb (by simp)⟩
theorem one_appendK (p : List Wk) (i : Wk) : (p ++ [i]).length = p.length + 1 := by simp

section
variable {ops : Array Oper} {Q : Exit → Act → World → Prop} {a : Act} {w : World} {rest : List Oper} {o : Oper}
set_option maxRecDepth 100000 in
theorem wpList_appendWk (hgd : o.guard = none) (s x : Operand) (ho : o.op = .call { callee := .builtin .append, args := #[s, x], argTypes := #[176, 176] })
    (v : Value) (p : List Wk) (i : Wk) (xb xc : Nat) (hs : a.eval s = v) (hx : a.eval x = .slice (some ⟨xb, 0, none⟩) 1 xc) (hv : WksAt w v p) (hxb : KPAt w xb [i]) (hlen : p.length ≤ 300)
    (h : ∀ v' w', WksAt w' v' (p ++ [i]) → (∀ b n c, v' = .slice (some ⟨b, 0, none⟩) n c → w.heap.size ≤ b ∨ ∃ n' c', v = .slice (some ⟨b, 0, none⟩) n' c') →
      Fr (fun b => ∃ n c, v = .slice (some ⟨b, 0, none⟩) n c) w w' → wpList Tryz.prog ops Q rest (a.put o.dst v') w') : wpList Tryz.prog ops Q (o :: rest) a w := by
  obtain ⟨ti, hi, hz, hsz, hby⟩ : ∃ ti, Tryz.prog.info? 181 = some ti ∧ ti.zero = some (wk0V) ∧ ti.size = 3 ∧ ti.bytes = 24 := by
    have e1 : (Tryz.prog.info? 181).map (·.size) = some 3 := by kernel_rfl
    have e2 : (Tryz.prog.info? 181).map (·.bytes) = some 24 := by kernel_rfl
    have e3 : (Tryz.prog.info? 181).bind (·.zero) = some (wk0V) := by kernel_rfl
    cases hq : Tryz.prog.info? 181 with
    | none => rw [hq] at e1; cases e1
    | some ti =>
      rw [hq] at e1 e2 e3
      exact ⟨ti, rfl, by simpa using e3, by simpa using e1, by simpa using e2⟩
  have hz3 : (wk0V).cells.size = 3 := by kernel_rfl
  have hadd : ∀ (b j : Nat), (⟨b, 0, none⟩ : Addr).add j = ⟨b, j, none⟩ := fun b j => by rw [Addr.add_lit]; simp
  have hnews : ∀ j u, (wkRow [i])[j]? = some u → w.cell? ((⟨xb, 0, none⟩ : Addr).add j) = some u := fun j u e => by rw [hadd]; exact hxb.row j u e
  have hpos : 0 < (p ++ [i]).length := by simp
  have hgrow : ∀ v' w', w'.ownsRow w.heap.size 181 3 v' (p.length + 1) (wkRow p ++ wkRow [i]) → w.grownBy w' none → wpList Tryz.prog ops Q rest (a.put o.dst v') w' := by
    intro v' w' h1 h2
    rw [← wkRow_append, ← one_appendK p i] at h1
    obtain ⟨c1, c2⟩ := WksAt.own hpos h1
    exact h v' w' c1 (fun b n c e => .inl (c2 b n c e)) ((Fr.grownK h2).mono (fun _ _ h => h.elim))
  rcases hv with ⟨rfl, rfl⟩ | ⟨b, cap, f, rfl, hc, hb, hf⟩
  · exact wpList_append_grows w hgd s x 176 ho 181 ti _ 3 24 Tryz.underlying176 hi hz hsz hby hz3 (by omega) none 0 0 [] hs (fun _ => ⟨rfl, rfl⟩) rfl (fun _ e => by cases e) ⟨xb, 0, none⟩ 1 xc (wkRow [i]) hx rfl hnews (wkRow_one _) (by omega) (by simp [maxLen]) (by omega)
      (fun v' w' h1 h2 => hgrow v' w' h1 h2)
  · refine wpList_append_arg w hgd s x 176 ho 181 ti _ 3 24 Tryz.underlying176 hi hz hsz hby hz3 (by omega) b 0 p.length cap (wkRow p) hs (wkRow_length p) (fun j u e => by rw [Nat.zero_add]; exact (hf.at hb (by omega)).row j u e)
      ⟨xb, 0, none⟩ 1 xc (wkRow [i]) hx rfl hnews (wkRow_one _) (fun hr j hj => ?_) (by simp only [maxLen]; omega) (by omega) (fun hr => ?_) (fun _ v' w' h1 h2 => hgrow v' w' h1 h2)
    · have hj3 : j < 3 := hj
      rw [hb.cell (by omega)]
      exact ⟨rfl, hb.frozen _⟩
    · refine h _ _ ?_ (fun b' n c e => .inr ?_) ((Fr.refl _ _).setCells b (fun _ => ⟨_, _, rfl⟩) _ _)
      · refine .inr ⟨b, cap, _, by rw [one_appendK], by rw [one_appendK]; omega, hb.setCells _ _, ?_⟩
        intro k hk j hj
        by_cases hlt : k < p.length
        · rw [lay_out _ _ _ _ (.inl (by omega)), List.getElem_append_left hlt]
          exact hf k hlt j hj
        · have hk2 : k = p.length := by rw [one_appendK] at hk; omega
          subst hk2
          rw [lay_in _ _ _ _ (by omega) (by show _ < _ + 3; omega)]
          have := wkRow_get [i] 0 (by simp) j hj
          simp only [List.getElem_append_right (Nat.le_refl _), Nat.sub_self, List.getElem_cons_zero] at this ⊢
          have e := List.getElem?_eq_some_iff.1 this
          obtain ⟨_, e⟩ := e
          rw [← e]
          congr 1
          omega
      · cases e; exact ⟨_, _, rfl⟩
end
end Go.Proofs.Qxb6500283aGreat
