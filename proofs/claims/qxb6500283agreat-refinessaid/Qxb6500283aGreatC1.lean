/- Nodes in a slice; append. -/
import Derived.Test.Qxb6500283aGreatB1
import Derived.ArgAppend
namespace Go.Proofs.Qxb6500283aGreat
open Go Go.RowKit

def nd0V : Value := .agg #[.int .i64 0, .int .i64 0, .int .i64 0, .int .i64 0, .int .i64 0, .int .i64 0, .bool false, .int .u64 0, .int .u64 0, .int .u64 0, .int .u64 0]
/-- The nodes lie from cell 0 of block b on. -/
def NPAt (w : World) (b : Nat) (p : List Nd) : Prop := ∀ k (h : k < p.length) j, j < 11 → w.cell? ⟨b, k * 11 + j, none⟩ = some (ndCell p[k] j)
theorem NPAt.frame {S : Nat → Prop} {w w' : World} {b : Nat} {p : List Nd} (h : NPAt w b p) (k : Fr S w w') (hb : ¬ S b) : NPAt w' b p := fun i hi j hj => by
  have h1 := h i hi j hj
  have hlt : b < w.heap.size := by
    by_cases hq : b < w.heap.size
    · exact hq
    · simp [World.cell?, hq] at h1
  rw [k.cell (p := ⟨b, i * 11 + j, none⟩) hlt hb]; exact h1
def NSlAt (w : World) (v : Value) (p : List Nd) : Prop := ∃ a cap, v = .slice a p.length cap ∧ (p = [] ∨ ∃ b, a = some ⟨b, 0, none⟩ ∧ NPAt w b p)
theorem NSlAt.frame {S : Nat → Prop} {w w' : World} {v : Value} {p : List Nd} (h : NSlAt w v p) (k : Fr S w w') (hb : ∀ b n c, v = .slice (some ⟨b, 0, none⟩) n c → ¬ S b) : NSlAt w' v p := by
  obtain ⟨a, cap, rfl, h⟩ := h
  refine ⟨a, cap, rfl, ?_⟩
  rcases h with h | ⟨b, rfl, h⟩
  · exact .inl h
  · exact .inr ⟨b, rfl, h.frame k (hb b _ _ rfl)⟩


def Holds11 (f : Nat → Value) (p : List Nd) : Prop := ∀ i (h : i < p.length) j, j < 11 → f (i * 11 + j) = ndCell p[i] j
def NdsAt (w : World) (v : Value) (p : List Nd) : Prop :=
  (v = .slice none 0 0 ∧ p = []) ∨ ∃ b cap f, v = .slice (some ⟨b, 0, none⟩) p.length cap ∧ p.length ≤ cap ∧ Blk w b (cap * 11) f ∧ Holds11 f p
theorem Holds11.at {w : World} {b m : Nat} {f : Nat → Value} {p : List Nd} (h : Holds11 f p) (hb : Blk w b m f) (hm : p.length * 11 ≤ m) : NPAt w b p := fun i hi j hj => by
  rw [hb.cell (by omega), h i hi j hj]
theorem NdsAt.sl {w : World} {v : Value} {p : List Nd} (h : NdsAt w v p) : NSlAt w v p := by
  rcases h with ⟨rfl, rfl⟩ | ⟨b, cap, f, rfl, hc, hb, hf⟩
  · exact ⟨none, 0, rfl, .inl rfl⟩
  · exact ⟨_, cap, rfl, .inr ⟨b, rfl, hf.at hb (by omega)⟩⟩
theorem NdsAt.frame {S : Nat → Prop} {w w' : World} {v : Value} {p : List Nd} (h : NdsAt w v p) (k : Fr S w w') (hb : ∀ b n c, v = .slice (some ⟨b, 0, none⟩) n c → ¬ S b) : NdsAt w' v p := by
  rcases h with h | ⟨b, cap, f, rfl, hc, hbk, hf⟩
  · exact .inl h
  · exact .inr ⟨b, cap, f, rfl, hc, hbk.frame k (hb b _ _ rfl), hf⟩
def ndRow (p : List Nd) : List Value := p.flatMap fun n => [.int .i64 n.kind, .int .i64 n.a, .int .i64 n.b, .int .i64 n.mn, .int .i64 n.mx, .int .i64 n.cap, .bool n.lz, .int .u64 (wd n.st 0 : Nat), .int .u64 (wd n.st 1 : Nat), .int .u64 (wd n.st 2 : Nat), .int .u64 (wd n.st 3 : Nat)]
theorem ndRow_length (p : List Nd) : (ndRow p).length = p.length * 11 := by
  induction p with
  | nil => rfl
  | cons i p ih => simp only [ndRow, List.flatMap_cons, List.length_append, List.length_cons, List.length_nil] at ih ⊢; omega
theorem ndRow_get : ∀ (p : List Nd) (i : Nat) (h : i < p.length) (j : Nat), j < 11 → (ndRow p)[i * 11 + j]? = some (ndCell p[i] j)
  | [], _, h, _, _ => absurd h (by simp)
  | q :: p, 0, _, j, hj => by
    rcases lt11 hj with rfl | rfl | rfl | rfl | rfl | rfl | rfl | rfl | rfl | rfl | rfl <;> rfl
  | q :: p, i + 1, h, j, hj => by
    have := ndRow_get p i (by simpa using h) j hj
    simp only [ndRow, List.flatMap_cons] at this ⊢
    rw [List.getElem?_append_right (by simp; omega)]
    simpa [show (i + 1) * 11 + j - 11 = i * 11 + j by omega] using this
theorem ndRow_append (p q : List Nd) : ndRow (p ++ q) = ndRow p ++ ndRow q := by simp [ndRow]
theorem ndRow_one (p : List Nd) : ∀ u ∈ ndRow p, u.oneCell' = true := by
  intro u hu
  simp only [ndRow, List.mem_flatMap] at hu
  obtain ⟨i, _, hu⟩ := hu
  simp only [List.mem_cons, List.not_mem_nil, or_false] at hu
  rcases hu with rfl | rfl | rfl | rfl | rfl | rfl | rfl | rfl | rfl | rfl | rfl <;> rfl
theorem NPAt.row {w : World} {b : Nat} {p : List Nd} (h : NPAt w b p) (j : Nat) (u : Value) (e : (ndRow p)[j]? = some u) : w.cell? ⟨b, j, none⟩ = some u := by
  have hj : j < p.length * 11 := by have := (List.getElem?_eq_some_iff.1 e).1; rwa [ndRow_length] at this
  have h1 := ndRow_get p (j / 11) (by omega) (j % 11) (by omega)
  have h2 := h (j / 11) (by omega) (j % 11) (by omega)
  rw [show j / 11 * 11 + j % 11 = j by omega] at h1 h2
  rw [h1] at e
  cases e
  exact h2
theorem Holds11.row {f : Nat → Value} {p : List Nd} (h : ∀ j u, (ndRow p)[j]? = some u → f j = u) : Holds11 f p := fun i hi j hj => h _ _ (ndRow_get p i hi j hj)

theorem NdsAt.own {w' : World} {v' : Value} {base : Nat} {p : List Nd} (hp : 0 < p.length) (h : w'.ownsRow base 97 11 v' p.length (ndRow p)) :
    NdsAt w' v' p ∧ ∀ b n c, v' = .slice (some ⟨b, 0, none⟩) n c → base ≤ b := by
  obtain ⟨_, ⟨_, h0⟩ | ⟨g, cap, cur, rfl, hg, hb, hn, _, hs, ht⟩⟩ := h
  · omega
  · refine ⟨.inr ⟨g, cap, fun o => cur.getD o undef, rfl, hn, ⟨cur, 97, hb, hs, fun o ho => ?_⟩, Holds11.row fun j u e => ?_⟩, fun b n c e => ?_⟩
    · simp [show o < cur.size by omega]
    · rw [← ht] at e
      have hj : j < cur.size := by have := (List.getElem?_eq_some_iff.1 e).1; simp at this; omega
      rw [List.getElem?_take] at e
      split at e
      · simp [hj] at e ⊢; exact e
      · cases e
    · cases e; exact hg

theorem Fr.grown {w w' : World} (h : w.grownBy w' none) : Fr (fun _ => False) w w' := ⟨h.os, h.tape, h.output, h.size, fun b hb _ => h.block b hb (by simp)⟩
theorem one_append (p : List Nd) (i : Nd) : (p ++ [i]).length = p.length + 1 := by simp

section
variable {ops : Array Oper} {Q : Exit → Act → World → Prop} {a : Act} {w : World} {rest : List Oper} {o : Oper}
set_option maxRecDepth 100000 in
theorem wpList_appendNd (hgd : o.guard = none) (s x : Operand) (ho : o.op = .call { callee := .builtin .append, args := #[s, x], argTypes := #[106, 106] })
    (v : Value) (p : List Nd) (i : Nd) (xb xc : Nat) (hs : a.eval s = v) (hx : a.eval x = .slice (some ⟨xb, 0, none⟩) 1 xc) (hv : NdsAt w v p) (hxb : NPAt w xb [i]) (hlen : p.length ≤ 100)
    (h : ∀ v' w', NdsAt w' v' (p ++ [i]) → (∀ b n c, v' = .slice (some ⟨b, 0, none⟩) n c → w.heap.size ≤ b ∨ ∃ n' c', v = .slice (some ⟨b, 0, none⟩) n' c') →
      Fr (fun b => ∃ n c, v = .slice (some ⟨b, 0, none⟩) n c) w w' → wpList Tryz.prog ops Q rest (a.put o.dst v') w') : wpList Tryz.prog ops Q (o :: rest) a w := by
  obtain ⟨ti, hi, hz, hsz, hby⟩ : ∃ ti, Tryz.prog.info? 97 = some ti ∧ ti.zero = some (nd0V) ∧ ti.size = 11 ∧ ti.bytes = 88 := by
    have e1 : (Tryz.prog.info? 97).map (·.size) = some 11 := by kernel_rfl
    have e2 : (Tryz.prog.info? 97).map (·.bytes) = some 88 := by kernel_rfl
    have e3 : (Tryz.prog.info? 97).bind (·.zero) = some (nd0V) := by kernel_rfl
    cases hq : Tryz.prog.info? 97 with
    | none => rw [hq] at e1; cases e1
    | some ti =>
      rw [hq] at e1 e2 e3
      exact ⟨ti, rfl, by simpa using e3, by simpa using e1, by simpa using e2⟩
  have hz11 : (nd0V).cells.size = 11 := by kernel_rfl
  have hadd : ∀ (b j : Nat), (⟨b, 0, none⟩ : Addr).add j = ⟨b, j, none⟩ := fun b j => by rw [Addr.add_lit]; simp
  have hnews : ∀ j u, (ndRow [i])[j]? = some u → w.cell? ((⟨xb, 0, none⟩ : Addr).add j) = some u := fun j u e => by rw [hadd]; exact hxb.row j u e
  have hpos : 0 < (p ++ [i]).length := by simp
  have hgrow : ∀ v' w', w'.ownsRow w.heap.size 97 11 v' (p.length + 1) (ndRow p ++ ndRow [i]) → w.grownBy w' none → wpList Tryz.prog ops Q rest (a.put o.dst v') w' := by
    intro v' w' h1 h2
    rw [← ndRow_append, ← one_append p i] at h1
    obtain ⟨c1, c2⟩ := NdsAt.own hpos h1
    exact h v' w' c1 (fun b n c e => .inl (c2 b n c e)) ((Fr.grown h2).mono (fun _ _ h => h.elim))
  rcases hv with ⟨rfl, rfl⟩ | ⟨b, cap, f, rfl, hc, hb, hf⟩
  · exact wpList_append_grows w hgd s x 106 ho 97 ti _ 11 88 Tryz.underlying106 hi hz hsz hby hz11 (by omega) none 0 0 [] hs (fun _ => ⟨rfl, rfl⟩) rfl (fun _ e => by cases e) ⟨xb, 0, none⟩ 1 xc (ndRow [i]) hx rfl hnews (ndRow_one _) (by omega) (by simp [maxLen]) (by omega)
      (fun v' w' h1 h2 => hgrow v' w' h1 h2)
  · refine wpList_append_arg w hgd s x 106 ho 97 ti _ 11 88 Tryz.underlying106 hi hz hsz hby hz11 (by omega) b 0 p.length cap (ndRow p) hs (ndRow_length p) (fun j u e => by rw [Nat.zero_add]; exact (hf.at hb (by omega)).row j u e)
      ⟨xb, 0, none⟩ 1 xc (ndRow [i]) hx rfl hnews (ndRow_one _) (fun hr j hj => ?_) (by simp only [maxLen]; omega) (by omega) (fun hr => ?_) (fun _ v' w' h1 h2 => hgrow v' w' h1 h2)
    · have hj11 : j < 11 := hj
      rw [hb.cell (by omega)]
      exact ⟨rfl, hb.frozen _⟩
    · refine h _ _ ?_ (fun b' n c e => .inr ?_) ((Fr.refl _ _).setCells b (fun _ => ⟨_, _, rfl⟩) _ _)
      · refine .inr ⟨b, cap, _, by rw [one_append], by rw [one_append]; omega, hb.setCells _ _, ?_⟩
        intro k hk j hj
        by_cases hlt : k < p.length
        · rw [lay_out _ _ _ _ (.inl (by omega)), List.getElem_append_left hlt]
          exact hf k hlt j hj
        · have hk2 : k = p.length := by rw [one_append] at hk; omega
          subst hk2
          rw [lay_in _ _ _ _ (by omega) (by show _ < _ + 11; omega)]
          have := ndRow_get [i] 0 (by simp) j hj
          simp only [List.getElem_append_right (Nat.le_refl _), Nat.sub_self, List.getElem_cons_zero] at this ⊢
          have e := List.getElem?_eq_some_iff.1 this
          obtain ⟨_, e⟩ := e
          rw [← e]
          congr 1
          omega
      · cases e; exact ⟨_, _, rfl⟩
end
end Go.Proofs.Qxb6500283aGreat
