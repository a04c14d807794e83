/- The finder's memory; literal. -/
import Derived.Test.Qxb6500283aGreatProg
import Derived.Test.Qxb6500283aGreatText
import Derived.Test.Qxb6500283aGreatMake
import Derived.Test.Qxb6500283aGreatPast
import Derived.KernelRfl
import Derived.Deep.LoopGhost
namespace Go.Proofs.Qxb6500283aGreat
open Go Go.RowKit

/-- A piece of a template: a run (g < 0) or a group. -/
structure Pc where
  lo : Nat
  hi : Nat
  g : Int
def pcCell (p : Pc) (j : Nat) : Value := match j with | 0 => .int .i64 (p.lo : Nat) | 1 => .int .i64 (p.hi : Nat) | _ => .int .i64 p.g
def HoldsP (f : Nat → Value) (ps : List Pc) : Prop := ∀ i (h : i < ps.length) j, j < 3 → f (i * 3 + j) = pcCell ps[i] j
def fdCell (e sb n pb np : Nat) (o : Nat) : Value := match o with | 0 => .pointer (some ⟨e, 0, none⟩) | 1 => .slice (some ⟨sb, 0, none⟩) 257 257 | 2 => .int .i64 (n : Nat) | 3 => .slice (some ⟨pb, 0, none⟩) 32 32 | _ => .int .i64 (np : Nat)
theorem lt3F {j : Nat} (h : j < 3) : j = 0 ∨ j = 1 ∨ j = 2 := by omega
theorem lt5F {j : Nat} (h : j < 5) : j = 0 ∨ j = 1 ∨ j = 2 ∨ j = 3 ∨ j = 4 := by omega
theorem fdCell_np (e sb n pb np k : Nat) : ∀ o, o < 5 → upd (fdCell e sb n pb np) 4 (.int .i64 (k : Nat)) o = fdCell e sb n pb k o := by
  intro o ho
  rcases lt5F ho with rfl | rfl | rfl | rfl | rfl <;> simp [upd, fdCell]
theorem fdCell_n (e sb n pb np k : Nat) : ∀ o, o < 5 → upd (fdCell e sb n pb np) 2 (.int .i64 (k : Nat)) o = fdCell e sb k pb np o := by
  intro o ho
  rcases lt5F ho with rfl | rfl | rfl | rfl | rfl <;> simp [upd, fdCell]
/-- The pieces lie in memory. -/
structure PMem (w : World) (fb e sb n pb : Nat) (ps : List Pc) : Prop where
  fd : Blk w fb 5 (fdCell e sb n pb ps.length)
  pc : ∃ f, Blk w pb 96 f ∧ HoldsP f ps
  ne : fb ≠ pb
  le : ps.length ≤ 32
/-- What literal does to the pieces. -/
inductive Lit (lo hi : Nat) : List Pc → List Pc → Prop
  | new {ps : List Pc} : (∀ qs p, ps = qs ++ [p] → ¬ (p.g < 0 ∧ p.hi = lo)) → Lit lo hi ps (ps ++ [⟨lo, hi, -1⟩])
  | ext {qs : List Pc} {p : Pc} : p.g < 0 → p.hi = lo → Lit lo hi (qs ++ [p]) (qs ++ [⟨p.lo, hi, p.g⟩])
theorem HoldsP.push {f : Nat → Value} {ps : List Pc} (h : HoldsP f ps) (p : Pc) (v0 v1 v2 : Value) (h0 : v0 = pcCell p 0) (h1 : v1 = pcCell p 1) (h2 : v2 = pcCell p 2) : HoldsP (upd (upd (upd f (ps.length * 3) v0) (ps.length * 3 + 1) v1) (ps.length * 3 + 2) v2) (ps ++ [p]) := by
  intro i hi j hj
  by_cases he : i < ps.length
  · rw [List.getElem_append_left he]
    simp only [upd]
    rw [if_neg (by omega), if_neg (by omega), if_neg (by omega)]
    exact h i he j hj
  · have : i = ps.length := by simp at hi; omega
    subst this
    rw [List.getElem_append_right (Nat.le_refl _)]
    subst h0 h1 h2
    rcases lt3F hj with rfl | rfl | rfl <;> simp [upd]
theorem HoldsP.ext {f : Nat → Value} {qs : List Pc} {p : Pc} (h : HoldsP f (qs ++ [p])) (hi : Nat) : HoldsP (upd f (qs.length * 3 + 1) (.int .i64 (hi : Nat))) (qs ++ [⟨p.lo, hi, p.g⟩]) := by
  intro i hl j hj
  have hl' : i < (qs ++ [p]).length := by simpa using hl
  have hh := h i hl' j hj
  by_cases he : i < qs.length
  · rw [List.getElem_append_left he] at hh ⊢
    simp only [upd]
    rw [if_neg (by omega)]
    exact hh
  · have : i = qs.length := by simp at hl; omega
    subst this
    rw [List.getElem_append_right (Nat.le_refl _)] at hh ⊢
    rcases lt3F hj with rfl | rfl | rfl
    · simp [upd]; simpa [pcCell] using hh
    · simp [upd, pcCell]
    · simp [upd]; simpa [pcCell] using hh
def LitPost (w : World) (fb e sb n pb lo hi : Nat) (ps : List Pc) (v : Ending) (w' : World) : Prop :=
  v = .returned (.tuple #[]) ∧ ∃ ps', Lit lo hi ps ps' ∧ PMem w' fb e sb n pb ps' ∧ Fr (fun c => c = fb ∨ c = pb) w w'
set_option maxRecDepth 100000 in
set_option maxHeartbeats 8000000 in
theorem literal_nil {w : World} {fb e sb n pb : Nat} (h : PMem w fb e sb n pb []) (lo hi : Nat) :
    Calls Tryz.prog 75 #[.pointer (some ⟨fb, 0, none⟩), .int .i64 (lo : Nat), .int .i64 (hi : Nat)] w (LitPost w fb e sb n pb lo hi []) := by
  obtain ⟨hfd, ⟨f, hb, hf⟩, hne, hle⟩ := h
  have c3 := hfd.cell (o := 3) (by omega)
  have c4 := hfd.cell (o := 4) (by omega)
  simp only [fdCell, List.length_nil] at c3 c4
  have zf := hfd.frozen
  have zp := hb.frozen
  have lf := hfd.lt
  have lp := hb.lt
  have p0 := hb.cell (o := 0) (by omega)
  have p1 := hb.cell (o := 1) (by omega)
  have p2 := hb.cell (o := 2) (by omega)
  have key := (((hb.set 0 (.int .i64 (lo : Nat))).set 1 (.int .i64 (hi : Nat))).set 2 (.int .i64 (-1)))
  have hP := hf.push ⟨lo, hi, -1⟩ (.int .i64 (lo : Nat)) (.int .i64 (hi : Nat)) (.int .i64 (-1)) rfl rfl rfl
  have FR := ((((Fr.refl (fun c => c = fb ∨ c = pb) w).setC pb 0 (.int .i64 (lo : Nat)) (fun _ => .inr rfl)).setC pb 1 (.int .i64 (hi : Nat)) (fun _ => .inr rfl)).setC pb 2 (.int .i64 (-1)) (fun _ => .inr rfl)).setC fb 4 (.int .i64 1) (fun _ => .inl rfl)
  have hfd2 := ((((hfd.setOther ⟨pb, 0, none⟩ (.int .i64 (lo : Nat)) hne).setOther ⟨pb, 1, none⟩ (.int .i64 (hi : Nat)) hne).setOther ⟨pb, 2, none⟩ (.int .i64 (-1)) hne).set 4 (.int .i64 1)).congr (fdCell_np e sb n pb 0 1)
  have hpb2 := key.setOther ⟨fb, 4, none⟩ (.int .i64 1) (fun e => hne e.symm)
  go_enter Tryz.func75, Tryz.ntmps75
  go_wp2_with fail
  refine wp_region_text (by kernel_rfl) (by kernel_rfl) ?_
  go_wp2_with fail
  refine ⟨by kernel_rfl, ?_⟩
  go_wp2_with fail
  refine wp_region_text (by kernel_rfl) (by kernel_rfl) ?_
  go_wp2_with fail
  refine ⟨by kernel_rfl, ?_⟩
  go_wp2_with fail
  go_end0
  refine ⟨rfl, [⟨lo, hi, -1⟩], .new (fun qs p e => by simp at e), ⟨hfd2.drew, ⟨_, hpb2.drew, hP⟩, hne, by simp⟩, FR.drew.drew⟩
end Go.Proofs.Qxb6500283aGreat
