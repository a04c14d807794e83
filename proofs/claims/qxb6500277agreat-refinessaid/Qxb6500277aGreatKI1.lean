/- Numbers in a slice; append. -/
import Derived.Test.Qxb6500277aGreatKW7
import Derived.Test.Qxb6500277aGreatCopy
import Derived.ArgAppend
namespace Go.Proofs.Qxb6500277aGreat
open Go Go.RowKit

def isB (v : Value) (b : Nat) : Prop := ∃ n c, v = .slice (some ⟨b, 0, none⟩) n c
def iv (x : Int) : Value := .int .i64 x
/-- The numbers lie from cell 0 of block b on. -/
def KiP (w : World) (b : Nat) (p : List Int) : Prop := ∀ k (h : k < p.length), w.cell? ⟨b, k, none⟩ = some (.int .i64 p[k])
def KiAt (w : World) (v : Value) (p : List Int) : Prop :=
  (v = .slice none 0 0 ∧ p = []) ∨ ∃ b cap f, v = .slice (some ⟨b, 0, none⟩) p.length cap ∧ p.length ≤ cap ∧ Blk w b cap f ∧ ∀ i (h : i < p.length), f i = .int .i64 p[i]
section
variable {S : Nat → Prop} {w w' : World} {v : Value} {p : List Int} {b : Nat}
theorem nil_noB (b : Nat) : ¬ isB (.slice none 0 0) b := fun hb => by obtain ⟨_, _, e⟩ := hb; cases e
theorem isB_one {x n k : Nat} (h : isB (.slice (some ⟨b, 0, none⟩) n k) x) : x = b := by obtain ⟨_, _, e⟩ := h; cases e; rfl
theorem KiAt.frame (h : KiAt w v p) (k : Fr S w w') (hb : ∀ b, isB v b → ¬ S b) : KiAt w' v p := by
  rcases h with h | ⟨b, cap, f, rfl, hc, hbk, hf⟩
  · exact .inl h
  · exact .inr ⟨b, cap, f, rfl, hc, hbk.frame k (hb b ⟨_, _, rfl⟩), hf⟩
theorem KiAt.sl (h : KiAt w v p) : ∃ a c, v = .slice a p.length c ∧ p.length ≤ c := by
  rcases h with ⟨rfl, rfl⟩ | ⟨b, cap, f, rfl, hc, hbk, hf⟩
  · exact ⟨none, 0, rfl, by simp⟩
  · exact ⟨_, _, rfl, hc⟩
theorem KiAt.bk (h : KiAt w v p) (hb : isB v b) : b < w.heap.size := by
  rcases h with ⟨rfl, rfl⟩ | ⟨b', cap, f, rfl, hc, hbk, hf⟩
  · exact absurd hb (nil_noB b)
  · rw [isB_one hb]; exact hbk.lt
theorem KiAt.get (h : KiAt w v p) {i : Nat} (hi : i < p.length) : ∃ b c, v = .slice (some ⟨b, 0, none⟩) p.length c ∧ b < w.heap.size ∧ w.cell? ⟨b, i, none⟩ = some (.int .i64 p[i]) ∧ w.frozen? ⟨b, i, none⟩ = false := by
  rcases h with ⟨rfl, rfl⟩ | ⟨b, cap, f, rfl, hc, hbk, hf⟩
  · cases hi
  · exact ⟨b, cap, rfl, hbk.lt, by rw [hbk.cell (by omega), hf i hi], hbk.frozen _⟩
theorem KiP.frame (h : KiP w b p) (k : Fr S w w') (hb : ¬ S b) : KiP w' b p := fun i hi => by
  have h1 := h i hi
  have hlt : b < w.heap.size := by
    by_cases hq : b < w.heap.size
    · exact hq
    · simp [World.cell?, hq] at h1
  rw [k.cell (p := ⟨b, i, none⟩) hlt hb]; exact h1
theorem KiP.one {x : Int} (h : w.cell? ⟨b, 0, none⟩ = some (.int .i64 x)) : KiP w b [x] := fun i hi => by
  obtain rfl : i = 0 := by simpa using hi
  exact h
theorem KiP.two {x y : Int} (h : w.cell? ⟨b, 0, none⟩ = some (.int .i64 x)) (h2 : w.cell? ⟨b, 1, none⟩ = some (.int .i64 y)) : KiP w b [x, y] := fun i hi => by
  have hi : i < 2 := by simpa using hi
  obtain rfl | rfl : i = 0 ∨ i = 1 := by omega
  · exact h
  · exact h2
theorem KiAt.cells {n c : Nat} {q : List Int} (h : KiAt w (.slice (some ⟨b, 0, none⟩) n c) q) : KiP w b q := by
  rcases h with ⟨h1, rfl⟩ | ⟨b', cap, f, e, hc, hbk, hf⟩
  · cases h1
  · cases e
    intro i hi
    rw [hbk.cell (by omega), hf i hi]
end
theorem rowI_get (p : List Int) (j : Nat) (u : Value) (e : (p.map iv)[j]? = some u) : ∃ h : j < p.length, u = .int .i64 p[j] := by
  obtain ⟨h1, h2⟩ := List.getElem?_eq_some_iff.1 e
  have h1' : j < p.length := by simpa using h1
  exact ⟨h1', by rw [← h2]; simp [iv]⟩
theorem rowI_one (p : List Int) : ∀ u ∈ p.map iv, u.oneCell' = true := fun u hu => by
  obtain ⟨x, _, rfl⟩ := List.mem_map.1 hu
  rfl
theorem KiAt.own {w' : World} {v' : Value} {base : Nat} {p : List Int} (hp : 0 < p.length) (h : w'.ownsRow base 3 1 v' p.length (p.map iv)) :
    KiAt w' v' p ∧ ∀ b, isB v' b → base ≤ b := by
  obtain ⟨_, ⟨_, h0⟩ | ⟨g, cap, cur, rfl, hg, hb, hn, _, hs, ht⟩⟩ := h
  · omega
  · refine ⟨.inr ⟨g, cap, fun o => cur.getD o undef, rfl, hn, ⟨cur, 3, hb, by omega, fun o ho => ?_⟩, fun i hi => ?_⟩, fun b hb' => by rw [isB_one hb']; exact hg⟩
    · simp [show o < cur.size by omega]
    · have e : (p.map iv)[i]? = some (.int .i64 p[i]) := by simp [iv, hi]
      rw [← ht] at e
      rw [List.getElem?_take] at e
      split at e
      · have hj : i < cur.size := by omega
        simp [hj] at e ⊢; exact e
      · cases e
theorem Fr.grownI {w w' : World} (h : w.grownBy w' none) : Fr (fun _ => False) w w' := ⟨h.os, h.tape, h.output, h.size, fun b hb _ => h.block b hb (by simp)⟩
section
variable {ops : Array Oper} {Q : Exit → Act → World → Prop} {a : Act} {w : World} {rest : List Oper} {o : Oper}
set_option maxRecDepth 100000 in
theorem wpList_appendI (hgd : o.guard = none) (s x : Operand) (ho : o.op = .call { callee := .builtin .append, args := #[s, x], argTypes := #[36, 36] })
    (v : Value) (p ys : List Int) (xb m xc : Nat) (hs : a.eval s = v) (hx : a.eval x = .slice (some ⟨xb, 0, none⟩) m xc) (hm : m = ys.length) (hv : KiAt w v p) (hxb : KiP w xb ys) (hne : 0 < p.length ∨ 0 < ys.length) (hlen : p.length + ys.length ≤ 100000)
    (h : ∀ v' w', KiAt w' v' (p ++ ys) → (∀ b, isB v' b → w.heap.size ≤ b ∨ isB v b) → Fr (isB v) w w' → wpList Tryz.prog ops Q rest (a.put o.dst v') w') : wpList Tryz.prog ops Q (o :: rest) a w := by
  subst hm
  obtain ⟨ti, hi, hz, hsz, hby⟩ : ∃ ti, Tryz.prog.info? 3 = some ti ∧ ti.zero = some (iv 0) ∧ ti.size = 1 ∧ ti.bytes = 8 := by
    have e1 : (Tryz.prog.info? 3).map (·.size) = some 1 := by kernel_rfl
    have e2 : (Tryz.prog.info? 3).map (·.bytes) = some 8 := by kernel_rfl
    have e3 : (Tryz.prog.info? 3).bind (·.zero) = some (iv 0) := by kernel_rfl
    cases hq : Tryz.prog.info? 3 with
    | none => rw [hq] at e1; cases e1
    | some ti =>
      rw [hq] at e1 e2 e3
      exact ⟨ti, rfl, by simpa using e3, by simpa using e1, by simpa using e2⟩
  have hz9 : (iv 0).cells.size = 1 := by kernel_rfl
  have hadd : ∀ (b j : Nat), (⟨b, 0, none⟩ : Addr).add j = ⟨b, j, none⟩ := fun b j => by rw [Addr.add_lit]; simp
  have hnews : ∀ j u, (ys.map iv)[j]? = some u → w.cell? ((⟨xb, 0, none⟩ : Addr).add j) = some u := fun j u e => by
    obtain ⟨hj, rfl⟩ := rowI_get ys j u e
    rw [hadd]; exact hxb j hj
  have hgrow : 0 < (p ++ ys).length → ∀ v' w', w'.ownsRow w.heap.size 3 1 v' (p.length + ys.length) (p.map iv ++ ys.map iv) → w.grownBy w' none → wpList Tryz.prog ops Q rest (a.put o.dst v') w' := by
    intro hpos v' w' h1 h2
    rw [← List.map_append, ← List.length_append] at h1
    obtain ⟨c1, c2⟩ := KiAt.own hpos h1
    exact h v' w' c1 (fun b e => .inl (c2 b e)) ((Fr.grownI h2).mono (fun _ _ h => h.elim))
  rcases hv with ⟨rfl, rfl⟩ | ⟨b, cap, f, rfl, hc, hb, hf⟩
  · have hy : 0 < ys.length := by simpa using hne
    exact wpList_append_grows w hgd s x 36 ho 3 ti _ 1 8 Tryz.underlying36 hi hz hsz hby hz9 (by omega) none 0 0 [] hs (fun _ => ⟨rfl, rfl⟩) rfl (fun _ e => by cases e) ⟨xb, 0, none⟩ ys.length xc (ys.map iv) hx (by simp) hnews (rowI_one _) (by omega) (by simp [maxLen]; omega) (by omega)
      (fun v' w' h1 h2 => hgrow (by simpa using hy) v' w' (by simpa using h1) h2)
  · refine wpList_append_arg w hgd s x 36 ho 3 ti _ 1 8 Tryz.underlying36 hi hz hsz hby hz9 (by omega) b 0 p.length cap (p.map iv) hs (by simp) (fun j u e => ?_)
      ⟨xb, 0, none⟩ ys.length xc (ys.map iv) hx (by simp) hnews (rowI_one _) (fun hr j hj => ?_) (by simp only [maxLen]; omega) (by omega) (fun hr => ?_) (fun _ v' w' h1 h2 => hgrow (by simp; omega) v' w' h1 h2)
    · obtain ⟨hj, rfl⟩ := rowI_get p j u e
      rw [Nat.zero_add, hb.cell (by omega), hf j hj]
    · have hj9 : j < ys.length := by simpa using hj
      rw [hb.cell (by omega)]
      exact ⟨rfl, hb.frozen _⟩
    · refine h _ _ ?_ (fun b' e => .inr ?_) ((Fr.refl _ _).setCells b (fun _ => ⟨_, _, rfl⟩) _ _)
      · refine .inr ⟨b, cap, _, by rw [List.length_append], by rw [List.length_append]; omega, hb.setCells _ _, ?_⟩
        intro k hk
        by_cases hlt : k < p.length
        · rw [lay_out _ _ _ _ (.inl (by omega)), List.getElem_append_left hlt]
          exact hf k hlt
        · rw [List.length_append] at hk
          rw [lay_in _ _ _ _ (by omega) (by simp; omega), List.getElem_append_right (by omega)]
          simp [iv]
      · rw [isB_one e]; exact ⟨_, _, rfl⟩
end
end Go.Proofs.Qxb6500277aGreat
