/- The finder over the engine. -/
import Derived.Test.Qxb6500283aGreatHP1
import Derived.Test.Qxb6500283aGreatE2
import Derived.Test.Qxb6500283aGreatE3
namespace Go.Proofs.Qxb6500283aGreat
open Go Go.RowKit

/-- Where the finder and its engine lie. -/
structure Fa where
  e : Nat
  sm : Nat
  x : Nat
  pk : Nat
  df : Nat
  fb : Nat
  sb : Nat
  pb : Nat
def Fa.eo (A : Fa) (c : Nat) : Prop := EO A.e A.sm A.x A.pk A.df c
def Fa.fo (A : Fa) (c : Nat) : Prop := c = A.fb ∨ c = A.sb ∨ c = A.pb
structure Fnd (X : Nat → Prop) (w : World) (A : Fa) (cs : List Cp) (ps : List Pc) (G : Nat) : Prop where
  eng : ∃ a b, Eng (fun c => X c ∨ A.fo c) w A.e A.sm A.x A.pk A.df a b G
  pm : PMem w A.fb A.e A.sb cs.length A.pb ps
  sm : SMem w A.sb cs
  asc : AscS 256 cs 0
  ok : PsOk 32 ps
  ne : A.fb ≠ A.sb ∧ A.pb ≠ A.sb ∧ A.fb ≠ A.pb
  xf : ∀ c, X c → ¬ A.fo c
section
variable {X : Nat → Prop} {w w' : World} {A : Fa} {cs : List Cp} {ps : List Pc} {G : Nat}
theorem Fnd.lt (h : Fnd X w A cs ps G) {c : Nat} (hc : A.eo c ∨ A.fo c ∨ X c) : c < w.heap.size := by
  obtain ⟨a, b, hE⟩ := h.eng
  rcases hc with hc | hc | hc
  · exact hE.lt hc
  · exact hE.xlt (.inr hc)
  · exact hE.xlt (.inl hc)
theorem Fnd.ef (h : Fnd X w A cs ps G) {c : Nat} (hc : A.fo c ∨ X c) : ¬ A.eo c := by
  obtain ⟨a, b, hE⟩ := h.eng
  exact hE.xf c (hc.elim .inr .inl)
theorem Fnd.step {S X' : Nat → Prop} (h : Fnd X w A cs ps G) (k : Fr S w w') (hS : ∀ c, S c → X c ∨ w.heap.size ≤ c) (hX : ∀ c, X' c → X c ∨ (w.heap.size ≤ c ∧ c < w'.heap.size)) : Fnd X' w' A cs ps G := by
  obtain ⟨a, b, hE⟩ := h.eng
  have hn : ∀ c, A.fo c → ¬ S c := fun c hc hs => (hS c hs).elim (fun hx => h.xf c hx hc) (fun hl => by have := h.lt (.inr (.inl hc)); omega)
  refine ⟨⟨a, b, hE.step k (fun c hc => (hS c hc).imp .inl id) (fun c hc => ?_)⟩, h.pm.frame k (hn _ (.inl rfl)) (hn _ (.inr (.inr rfl))), h.sm.frame k (hn _ (.inr (.inl rfl))), h.asc, h.ok, h.ne, fun c hc hf => ?_⟩
  · rcases hc with hc | hc
    · exact (hX c hc).imp .inl id
    · exact .inl (.inr hc)
  · rcases hX c hc with h1 | h1
    · exact h.xf c h1 hf
    · have := h.lt (.inr (.inl hf)); omega
theorem Fnd.same (h : Fnd X w A cs ps G) (k : Fr (fun _ => False) w w') : Fnd X w' A cs ps G := h.step k (fun _ h => h.elim) (fun _ h => .inl h)
theorem Fnd.ofE {a b : Ent} {G' : Nat} (h : Fnd X w A cs ps G) (k : Fr A.eo w w') (hE : Eng (fun c => X c ∨ A.fo c) w' A.e A.sm A.x A.pk A.df a b G') : Fnd X w' A cs ps G' :=
  ⟨⟨a, b, hE⟩, h.pm.frame k (h.ef (.inl (.inl rfl))) (h.ef (.inl (.inr (.inr rfl)))), h.sm.frame k (h.ef (.inl (.inr (.inl rfl)))), h.asc, h.ok, h.ne, h.xf⟩
theorem Fnd.le {G' : Nat} (h : Fnd X w A cs ps G) (hg : G ≤ G') : Fnd X w A cs ps G' := by
  obtain ⟨a, b, hE⟩ := h.eng
  exact ⟨⟨a, b, hE.le hg⟩, h.pm, h.sm, h.asc, h.ok, h.ne, h.xf⟩
/-- The finder's own blocks are written. -/
theorem Fnd.own {cs' : List Cp} {ps' : List Pc} (h : Fnd X w A cs ps G) (k : Fr A.fo w w') (h1 : PMem w' A.fb A.e A.sb cs'.length A.pb ps') (h2 : SMem w' A.sb cs') (h3 : AscS 256 cs' 0) (h4 : PsOk 32 ps') : Fnd X w' A cs' ps' G := by
  obtain ⟨a, b, hE⟩ := h.eng
  exact ⟨⟨a, b, hE.step k (fun c hc => .inl (.inr hc)) (fun c hc => .inl hc)⟩, h1, h2, h3, h4, h.ne, h.xf⟩
end
theorem HoldsC.push {f : Nat → Value} {cs : List Cp} (h : HoldsC f cs) (c : Cp) : HoldsC (upd (upd (upd (upd (upd (upd (upd (upd f (cs.length * 8) (.int .i64 (c 0))) (cs.length * 8 + 1) (.int .i64 (c 1))) (cs.length * 8 + 2) (.int .i64 (c 2))) (cs.length * 8 + 3) (.int .i64 (c 3))) (cs.length * 8 + 4) (.int .i64 (c 4))) (cs.length * 8 + 5) (.int .i64 (c 5))) (cs.length * 8 + 6) (.int .i64 (c 6))) (cs.length * 8 + 7) (.int .i64 (c 7))) (cs ++ [c]) := by
  intro i hi j hj
  by_cases he : i < cs.length
  · rw [List.getElem_append_left he]
    simp only [upd]
    rw [if_neg (by omega), if_neg (by omega), if_neg (by omega), if_neg (by omega), if_neg (by omega), if_neg (by omega), if_neg (by omega), if_neg (by omega)]
    exact h i he j hj
  · have : i = cs.length := by simp at hi; omega
    subst this
    rw [List.getElem_append_right (Nat.le_refl _)]
    obtain rfl | rfl | rfl | rfl | rfl | rfl | rfl | rfl : j = 0 ∨ j = 1 ∨ j = 2 ∨ j = 3 ∨ j = 4 ∨ j = 5 ∨ j = 6 ∨ j = 7 := by omega
    all_goals simp [upd]
theorem Sol.q0 {p s : ByteArray} {fr : Nat} {q : Int} {o : Option Cp} (h : Sol p s fr 0 q o) (hf : fr ≤ s.size) : q = 0 := (h.zero h hf).2
end Go.Proofs.Qxb6500283aGreat
