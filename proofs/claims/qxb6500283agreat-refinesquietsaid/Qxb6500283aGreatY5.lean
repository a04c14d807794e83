/- The builder's instructions, to read and to write. -/
import Derived.Test.Qxb6500283aGreatY4
namespace Go.Proofs.Qxb6500283aGreat
open Go Go.RowKit

theorem BMem.frame {D S : Nat → Prop} {w w' : World} {r : Nat} {nv : Value} {code : List In} {todo : List Wk} (h : BMem D w r nv code todo) (k : Fr S w w') (hS : ∀ b, D b → ¬ S b) : BMem D w' r nv code todo := by
  obtain ⟨dr, cv, tv, hb, hC, hT, hcr, htr, hct⟩ := h
  exact ⟨dr, cv, tv, hb.frame k (hS r dr), hC.frame k (fun b n c e => hS b (hcr b n c e).1), hT.frame k (fun b n c e => hS b (htr b n c e).1), hcr, htr, hct⟩
/-- The owned blocks, said otherwise. -/
theorem BMem.dom {D D' : Nat → Prop} {w : World} {r : Nat} {nv : Value} {code : List In} {todo : List Wk} (h : BMem D w r nv code todo) (hd : ∀ b, b < w.heap.size → D b → D' b) : BMem D' w r nv code todo := by
  obtain ⟨dr, cv, tv, hb, hC, hT, hcr, htr, hct⟩ := h
  exact ⟨hd r hb.lt dr, cv, tv, hb, hC, hT, fun b n c e => ⟨hd b (hC.lt b n c e) (hcr b n c e).1, (hcr b n c e).2⟩, fun b n c e => ⟨hd b (hT.lt b n c e) (htr b n c e).1, (htr b n c e).2⟩, hct⟩
theorem BMem.c0 {D : Nat → Prop} {w : World} {r : Nat} {nv : Value} {code : List In} {todo : List Wk} (h : BMem D w r nv code todo) : w.cell? ⟨r, 0, none⟩ = some nv ∧ r < w.heap.size ∧ D r := by
  obtain ⟨dr, cv, tv, hb, _⟩ := h
  exact ⟨hb.cell (o := 0) (by omega), hb.lt, dr⟩
theorem inCell_x (x : In) (v : Int) (j : Nat) (hj : j < 7) : inCell (setX x v) j = if j = 1 then .int .i64 v else inCell x j := by
  obtain rfl | rfl | rfl | rfl | rfl | rfl | rfl : j = 0 ∨ j = 1 ∨ j = 2 ∨ j = 3 ∨ j = 4 ∨ j = 5 ∨ j = 6 := by omega
  all_goals rfl
theorem inCell_y (x : In) (v : Int) (j : Nat) (hj : j < 7) : inCell (setY x v) j = if j = 2 then .int .i64 v else inCell x j := by
  obtain rfl | rfl | rfl | rfl | rfl | rfl | rfl : j = 0 ∨ j = 1 ∨ j = 2 ∨ j = 3 ∨ j = 4 ∨ j = 5 ∨ j = 6 := by omega
  all_goals rfl
theorem modL_in (l : List In) (i : Nat) (f : In → In) (hi : i < l.length) : modL l i f = l.set i (f l[i]) := by
  unfold modL
  rw [List.getElem?_eq_getElem hi]
theorem modL_len (l : List In) (i : Nat) (f : In → In) : (modL l i f).length = l.length := by
  unfold modL
  split
  · rfl
  · simp
theorem Holds7.mod {f : Nat → Value} {p : List In} (h : Holds7 f p) (i : Nat) (hi : i < p.length) (c : Nat) (hc : c < 7) (u : Value) (g : In → In) (hg : ∀ j, j < 7 → inCell (g p[i]) j = if j = c then u else inCell p[i] j) : Holds7 (upd f (i * 7 + c) u) (modL p i g) := by
  intro k hk j hj
  rw [modL_len] at hk
  simp only [modL_in p i g hi, List.getElem_set]
  by_cases hki : i = k
  · subst hki
    rw [if_pos rfl, hg j hj]
    by_cases hjc : j = c
    · subst hjc; rw [if_pos rfl, upd_same]
    · rw [if_neg hjc, upd_other _ _ _ _ (by omega)]; exact h i hi j hj
  · rw [if_neg hki, upd_other _ _ _ _ (by omega)]
    exact h k hk j hj
/-- An instruction of the builder's, to read and to write. -/
theorem BMem.at {D : Nat → Prop} {w : World} {r : Nat} {nv : Value} {code : List In} {todo : List Wk} (hM : BMem D w r nv code todo) (i : Nat) (hi : i < code.length) :
    ∃ b cap, w.cell? ⟨r, 1, none⟩ = some (.slice (some ⟨b, 0, none⟩) code.length cap) ∧ D b ∧ r < b ∧ b < w.heap.size ∧ (∀ o, w.frozen? ⟨b, o, none⟩ = false) ∧ (∀ j, j < 7 → w.cell? ⟨b, i * 7 + j, none⟩ = some (inCell code[i] j)) ∧ code.length ≤ cap ∧
      (∀ v, BMem D (w.setCell ⟨b, i * 7 + 1, none⟩ (.int .i64 v)) r nv (modL code i (fun x => setX x v)) todo) ∧ (∀ v, BMem D (w.setCell ⟨b, i * 7 + 2, none⟩ (.int .i64 v)) r nv (modL code i (fun x => setY x v)) todo) := by
  obtain ⟨dr, cv, tv, hb, hC, hT, hcr, htr, hct⟩ := hM
  rcases hC with ⟨_, rfl⟩ | ⟨b, cap, f, rfl, hcap, hbk, hf⟩
  · simp at hi
  · have hrb := (hcr b _ _ rfl).2
    have main : ∀ c, c < 7 → ∀ (u : Value) (g : In → In), (∀ j, j < 7 → inCell (g code[i]) j = if j = c then u else inCell code[i] j) → BMem D (w.setCell ⟨b, i * 7 + c, none⟩ u) r nv (modL code i g) todo := by
      intro c hc u g hg
      have k := (Fr.refl (fun x => x = b) w).setC b (i * 7 + c) u (fun _ => rfl)
      refine ⟨dr, .slice (some ⟨b, 0, none⟩) code.length cap, tv, hb.frame k (by omega), .inr ⟨b, cap, _, by rw [modL_len], by rw [modL_len]; exact hcap, hbk.set _ _, hf.mod i hi c hc u g hg⟩, hT.frame k (fun b' n c e h => ?_), hcr, htr, hct⟩
      subst h
      exact hct _ _ _ _ _ rfl e
    have hcell : ∀ j, j < 7 → w.cell? ⟨b, i * 7 + j, none⟩ = some (inCell code[i] j) := fun j hj => by
      have h2 : i * 7 + j < cap * 7 := by omega
      rw [hbk.cell h2, hf i hi j hj]
    exact ⟨b, cap, hb.cell (o := 1) (by omega), (hcr b _ _ rfl).1, hrb, hbk.lt, hbk.frozen, hcell, hcap, fun v => main 1 (by omega) _ _ (fun j hj => inCell_x _ _ j hj), fun v => main 2 (by omega) _ _ (fun j hj => inCell_y _ _ j hj)⟩
end Go.Proofs.Qxb6500283aGreat
