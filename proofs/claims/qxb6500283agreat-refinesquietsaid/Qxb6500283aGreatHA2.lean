/- Strings in a slice; append. -/
import Derived.Test.Qxb6500283aGreatHA1
namespace Go.Proofs.Qxb6500283aGreat
open Go Go.RowKit

theorem lt_Kx {j : Nat} (h : j < 1) : j = 0 := by omega
def kxCell (c : ByteArray) (_ : Nat) : Value := .string c
/-- The nodes lie from cell 0 of block b on. -/
def KxP (w : World) (b : Nat) (p : List ByteArray) : Prop := ∀ k (h : k < p.length) j, j < 1 → w.cell? ⟨b, k * 1 + j, none⟩ = some (kxCell p[k] j)
theorem KxP.frame {S : Nat → Prop} {w w' : World} {b : Nat} {p : List ByteArray} (h : KxP w b p) (k : Fr S w w') (hb : ¬ S b) : KxP w' b p := fun i hi j hj => by
  have h1 := h i hi j hj
  have hlt : b < w.heap.size := by
    by_cases hq : b < w.heap.size
    · exact hq
    · simp [World.cell?, hq] at h1
  rw [k.cell (p := ⟨b, i * 1 + j, none⟩) hlt hb]; exact h1
def KxSl (w : World) (v : Value) (p : List ByteArray) : Prop := ∃ a cap, v = .slice a p.length cap ∧ (p = [] ∨ ∃ b, a = some ⟨b, 0, none⟩ ∧ KxP w b p)
theorem KxSl.frame {S : Nat → Prop} {w w' : World} {v : Value} {p : List ByteArray} (h : KxSl w v p) (k : Fr S w w') (hb : ∀ b n c, v = .slice (some ⟨b, 0, none⟩) n c → ¬ S b) : KxSl w' v p := by
  obtain ⟨a, cap, rfl, h⟩ := h
  refine ⟨a, cap, rfl, ?_⟩
  rcases h with h | ⟨b, rfl, h⟩
  · exact .inl h
  · exact .inr ⟨b, rfl, h.frame k (hb b _ _ rfl)⟩


def KxH (f : Nat → Value) (p : List ByteArray) : Prop := ∀ i (h : i < p.length) j, j < 1 → f (i * 1 + j) = kxCell p[i] j
def KxAt (w : World) (v : Value) (p : List ByteArray) : Prop :=
  (v = .slice none 0 0 ∧ p = []) ∨ ∃ b cap f, v = .slice (some ⟨b, 0, none⟩) p.length cap ∧ p.length ≤ cap ∧ Blk w b (cap * 1) f ∧ KxH f p
theorem KxH.at {w : World} {b m : Nat} {f : Nat → Value} {p : List ByteArray} (h : KxH f p) (hb : Blk w b m f) (hm : p.length * 1 ≤ m) : KxP w b p := fun i hi j hj => by
  rw [hb.cell (by omega), h i hi j hj]
theorem KxAt.sl {w : World} {v : Value} {p : List ByteArray} (h : KxAt w v p) : KxSl w v p := by
  rcases h with ⟨rfl, rfl⟩ | ⟨b, cap, f, rfl, hc, hb, hf⟩
  · exact ⟨none, 0, rfl, .inl rfl⟩
  · exact ⟨_, cap, rfl, .inr ⟨b, rfl, hf.at hb (by omega)⟩⟩
theorem KxAt.frame {S : Nat → Prop} {w w' : World} {v : Value} {p : List ByteArray} (h : KxAt w v p) (k : Fr S w w') (hb : ∀ b n c, v = .slice (some ⟨b, 0, none⟩) n c → ¬ S b) : KxAt w' v p := by
  rcases h with h | ⟨b, cap, f, rfl, hc, hbk, hf⟩
  · exact .inl h
  · exact .inr ⟨b, cap, f, rfl, hc, hbk.frame k (hb b _ _ rfl), hf⟩
def kxRow (p : List ByteArray) : List Value := p.flatMap fun n => [.string n]
theorem kxRow_length (p : List ByteArray) : (kxRow p).length = p.length * 1 := by
  induction p with
  | nil => rfl
  | cons i p ih => simp only [kxRow, List.flatMap_cons, List.length_append, List.length_cons, List.length_nil] at ih ⊢; omega
theorem kxRow_get : ∀ (p : List ByteArray) (i : Nat) (h : i < p.length) (j : Nat), j < 1 → (kxRow p)[i * 1 + j]? = some (kxCell p[i] j)
  | [], _, h, _, _ => absurd h (by simp)
  | q :: p, 0, _, j, hj => by
    rcases lt_Kx hj with rfl <;> rfl
  | q :: p, i + 1, h, j, hj => by
    have := kxRow_get p i (by simpa using h) j hj
    simp only [kxRow, List.flatMap_cons] at this ⊢
    rw [List.getElem?_append_right (by simp; omega)]
    simpa [show (i + 1) * 1 + j - 1 = i * 1 + j by omega] using this
theorem kxRow_append (p q : List ByteArray) : kxRow (p ++ q) = kxRow p ++ kxRow q := by simp [kxRow]
theorem kxRow_one (p : List ByteArray) : ∀ u ∈ kxRow p, u.oneCell' = true := by
  intro u hu
  simp only [kxRow, List.mem_flatMap] at hu
  obtain ⟨i, _, hu⟩ := hu
  simp only [List.mem_cons, List.not_mem_nil, or_false] at hu
  rcases hu with rfl <;> rfl
theorem KxP.row {w : World} {b : Nat} {p : List ByteArray} (h : KxP w b p) (j : Nat) (u : Value) (e : (kxRow p)[j]? = some u) : w.cell? ⟨b, j, none⟩ = some u := by
  have hj : j < p.length * 1 := by have := (List.getElem?_eq_some_iff.1 e).1; rwa [kxRow_length] at this
  have h1 := kxRow_get p (j / 1) (by omega) (j % 1) (by omega)
  have h2 := h (j / 1) (by omega) (j % 1) (by omega)
  rw [show j / 1 * 1 + j % 1 = j by omega] at h1 h2
  rw [h1] at e
  cases e
  exact h2
theorem KxH.row {f : Nat → Value} {p : List ByteArray} (h : ∀ j u, (kxRow p)[j]? = some u → f j = u) : KxH f p := fun i hi j hj => h _ _ (kxRow_get p i hi j hj)

theorem KxAt.own {w' : World} {v' : Value} {base : Nat} {p : List ByteArray} (hp : 0 < p.length) (h : w'.ownsRow base 9 1 v' p.length (kxRow p)) :
    KxAt w' v' p ∧ ∀ b n c, v' = .slice (some ⟨b, 0, none⟩) n c → base ≤ b := by
  obtain ⟨_, ⟨_, h0⟩ | ⟨g, cap, cur, rfl, hg, hb, hn, _, hs, ht⟩⟩ := h
  · omega
  · refine ⟨.inr ⟨g, cap, fun o => cur.getD o undef, rfl, hn, ⟨cur, 9, hb, hs, fun o ho => ?_⟩, KxH.row fun j u e => ?_⟩, fun b n c e => ?_⟩
    · simp [show o < cur.size by omega]
    · rw [← ht] at e
      have hj : j < cur.size := by have := (List.getElem?_eq_some_iff.1 e).1; simp at this; omega
      rw [List.getElem?_take] at e
      split at e
      · simp [hj] at e ⊢; exact e
      · cases e
    · cases e; exact hg

theorem Fr.grownKx {w w' : World} (h : w.grownBy w' none) : Fr (fun _ => False) w w' := ⟨h.os, h.tape, h.output, h.size, fun b hb _ => h.block b hb (by simp)⟩
theorem one_appendKx (p : List ByteArray) (i : ByteArray) : (p ++ [i]).length = p.length + 1 := by simp

section
variable {ops : Array Oper} {Q : Exit → Act → World → Prop} {a : Act} {w : World} {rest : List Oper} {o : Oper}
set_option maxRecDepth 100000 in
theorem wpList_appendKx (hgd : o.guard = none) (s x : Operand) (ho : o.op = .call { callee := .builtin .append, args := #[s, x], argTypes := #[41, 41] })
    (v : Value) (p : List ByteArray) (i : ByteArray) (xb xc : Nat) (hs : a.eval s = v) (hx : a.eval x = .slice (some ⟨xb, 0, none⟩) 1 xc) (hv : KxAt w v p) (hxb : KxP w xb [i]) (hlen : p.length ≤ 300)
    (h : ∀ v' w', KxAt w' v' (p ++ [i]) → (∀ b n c, v' = .slice (some ⟨b, 0, none⟩) n c → w.heap.size ≤ b ∨ ∃ n' c', v = .slice (some ⟨b, 0, none⟩) n' c') →
      Fr (fun b => ∃ n c, v = .slice (some ⟨b, 0, none⟩) n c) w w' → wpList Tryz.prog ops Q rest (a.put o.dst v') w') : wpList Tryz.prog ops Q (o :: rest) a w := by
  obtain ⟨ti, hi, hz, hsz, hby⟩ : ∃ ti, Tryz.prog.info? 9 = some ti ∧ ti.zero = some ((.string ⟨#[]⟩ : Value)) ∧ ti.size = 1 ∧ ti.bytes = 16 := by
    have e1 : (Tryz.prog.info? 9).map (·.size) = some 1 := by kernel_rfl
    have e2 : (Tryz.prog.info? 9).map (·.bytes) = some 16 := by kernel_rfl
    have e3 : (Tryz.prog.info? 9).bind (·.zero) = some ((.string ⟨#[]⟩ : Value)) := by kernel_rfl
    cases hq : Tryz.prog.info? 9 with
    | none => rw [hq] at e1; cases e1
    | some ti =>
      rw [hq] at e1 e2 e3
      exact ⟨ti, rfl, by simpa using e3, by simpa using e1, by simpa using e2⟩
  have hz9 : ((.string ⟨#[]⟩ : Value)).cells.size = 1 := by kernel_rfl
  have hadd : ∀ (b j : Nat), (⟨b, 0, none⟩ : Addr).add j = ⟨b, j, none⟩ := fun b j => by rw [Addr.add_lit]; simp
  have hnews : ∀ j u, (kxRow [i])[j]? = some u → w.cell? ((⟨xb, 0, none⟩ : Addr).add j) = some u := fun j u e => by rw [hadd]; exact hxb.row j u e
  have hpos : 0 < (p ++ [i]).length := by simp
  have hgrow : ∀ v' w', w'.ownsRow w.heap.size 9 1 v' (p.length + 1) (kxRow p ++ kxRow [i]) → w.grownBy w' none → wpList Tryz.prog ops Q rest (a.put o.dst v') w' := by
    intro v' w' h1 h2
    rw [← kxRow_append, ← one_appendKx p i] at h1
    obtain ⟨c1, c2⟩ := KxAt.own hpos h1
    exact h v' w' c1 (fun b n c e => .inl (c2 b n c e)) ((Fr.grownKx h2).mono (fun _ _ h => h.elim))
  rcases hv with ⟨rfl, rfl⟩ | ⟨b, cap, f, rfl, hc, hb, hf⟩
  · exact wpList_append_grows w hgd s x 41 ho 9 ti _ 1 16 Tryz.underlying41 hi hz hsz hby hz9 (by omega) none 0 0 [] hs (fun _ => ⟨rfl, rfl⟩) rfl (fun _ e => by cases e) ⟨xb, 0, none⟩ 1 xc (kxRow [i]) hx rfl hnews (kxRow_one _) (by omega) (by simp [maxLen]) (by omega)
      (fun v' w' h1 h2 => hgrow v' w' h1 h2)
  · refine wpList_append_arg w hgd s x 41 ho 9 ti _ 1 16 Tryz.underlying41 hi hz hsz hby hz9 (by omega) b 0 p.length cap (kxRow p) hs (kxRow_length p) (fun j u e => by rw [Nat.zero_add]; exact (hf.at hb (by omega)).row j u e)
      ⟨xb, 0, none⟩ 1 xc (kxRow [i]) hx rfl hnews (kxRow_one _) (fun hr j hj => ?_) (by simp only [maxLen]; omega) (by omega) (fun hr => ?_) (fun _ v' w' h1 h2 => hgrow v' w' h1 h2)
    · have hj9 : j < 1 := hj
      rw [hb.cell (by omega)]
      exact ⟨rfl, hb.frozen _⟩
    · refine h _ _ ?_ (fun b' n c e => .inr ?_) ((Fr.refl _ _).setCells b (fun _ => ⟨_, _, rfl⟩) _ _)
      · refine .inr ⟨b, cap, _, by rw [one_appendKx], by rw [one_appendKx]; omega, hb.setCells _ _, ?_⟩
        intro k hk j hj
        by_cases hlt : k < p.length
        · rw [lay_out _ _ _ _ (.inl (by omega)), List.getElem_append_left hlt]
          exact hf k hlt j hj
        · have hk2 : k = p.length := by rw [one_appendKx] at hk; omega
          subst hk2
          rw [lay_in _ _ _ _ (by omega) (by show _ < _ + 1; omega)]
          have := kxRow_get [i] 0 (by simp) j hj
          simp only [List.getElem_append_right (Nat.le_refl _), Nat.sub_self, List.getElem_cons_zero] at this ⊢
          have e := List.getElem?_eq_some_iff.1 this
          obtain ⟨_, e⟩ := e
          rw [← e]
          congr 1
          omega
      · cases e; exact ⟨_, _, rfl⟩
end
theorem KxAt.at {w : World} {v : Value} {p : List ByteArray} (h : KxAt w v p) : XAt w v p := by
  rcases h with ⟨rfl, rfl⟩ | ⟨b, k, f, rfl, h1, h2, h3⟩
  · exact .inl ⟨rfl, _, _, rfl⟩
  · exact .inr ⟨b, k, _, f, rfl, h2, by omega, fun i hi => by simpa [kxCell] using h3 i hi 0 (by omega)⟩
theorem KxP.of1 {w : World} {b : Nat} {c : ByteArray} (h : w.cell? ⟨b, 0, none⟩ = some (.string c)) : KxP w b [c] := fun i hi j hj => by
  obtain rfl : i = 0 := by simpa using hi
  obtain rfl : j = 0 := by omega
  exact h
end Go.Proofs.Qxb6500283aGreat
