/- The real machine (pike.Pike) in memory: seven blocks from x on. -/
import Derived.Test.Qxb6500283aGreatProg
import Derived.Test.Qxb6500283aGreatBase
import Derived.Test.Qxb6500283aGreatText
import Derived.KernelRfl
namespace Go.Proofs.Qxb6500283aGreat
open Go Go.RowKit

def pcell (x : Nat) (f : Nat → Int) (o : Nat) : Value :=
  if o = 129 then .slice (some ⟨x + 1, 0, none⟩) 512 512
  else if o = 259 then .slice (some ⟨x + 2, 0, none⟩) 512 512
  else if o = 260 then .slice (some ⟨x + 3, 0, none⟩) 65 65
  else if o = 262 then .slice (some ⟨x + 4, 0, none⟩) 8 8
  else if o = 263 then .slice (some ⟨x + 5, 0, none⟩) 8 8
  else if o = 264 then .slice (some ⟨x + 6, 0, none⟩) 8 8
  else .int .i64 (f o)
def intCell (o : Nat) : Prop := o ≠ 129 ∧ o ≠ 259 ∧ o ≠ 260 ∧ o ≠ 262 ∧ o ≠ 263 ∧ o ≠ 264
theorem pcell_int (x : Nat) (f : Nat → Int) (o : Nat) (h : intCell o) : pcell x f o = .int .i64 (f o) := by
  obtain ⟨h1, h2, h3, h4, h5, h6⟩ := h
  simp [pcell, h1, h2, h3, h4, h5, h6]

/-- f: the struct's own integers · g W: list W's table of captures · k: the stack (three numbers a frame) · r: the register · b: the best. -/
structure PS where
  f : Nat → Int
  g : Nat → Nat → Int
  k : Nat → Int
  r : Nat → Int
  b : Nat → Int

structure PRep (w : World) (x : Nat) (s : PS) : Prop where
  main : Blk w x 266 (pcell x s.f)
  c0 : Blk w (x + 1) 512 (ints (s.g 0))
  c1 : Blk w (x + 2) 512 (ints (s.g 1))
  st : Blk w (x + 3) 195 (ints s.k)
  rg : Blk w (x + 4) 8 (ints s.r)
  bs : Blk w (x + 5) 8 (ints s.b)
  no : Blk w (x + 6) 8 (ints fun _ => -1)

def pOwn (x : Nat) (b : Nat) : Prop := x ≤ b ∧ b < x + 7

theorem PRep.int {w : World} {x : Nat} {s : PS} (h : PRep w x s) {o : Nat} (ho : o < 266) (hi : intCell o) : w.cell? ⟨x, o, none⟩ = some (.int .i64 (s.f o)) := by
  rw [h.main.cell ho, pcell_int x s.f o hi]
theorem PRep.drew {w : World} {x : Nat} {s : PS} (h : PRep w x s) : PRep w.drew x s := ⟨h.main, h.c0, h.c1, h.st, h.rg, h.bs, h.no⟩
theorem PRep.alloc {w : World} {x : Nat} {s : PS} (h : PRep w x s) (o : Obj) : PRep (w.alloc o) x s :=
  ⟨h.main.alloc o, h.c0.alloc o, h.c1.alloc o, h.st.alloc o, h.rg.alloc o, h.bs.alloc o, h.no.alloc o⟩
theorem PRep.frame {S : Nat → Prop} {w w' : World} {x : Nat} {s : PS} (h : PRep w x s) (k : Fr S w w') (hS : ∀ b, pOwn x b → ¬ S b) : PRep w' x s :=
  ⟨h.main.frame k (hS _ (by unfold pOwn; omega)), h.c0.frame k (hS _ (by unfold pOwn; omega)), h.c1.frame k (hS _ (by unfold pOwn; omega)), h.st.frame k (hS _ (by unfold pOwn; omega)),
   h.rg.frame k (hS _ (by unfold pOwn; omega)), h.bs.frame k (hS _ (by unfold pOwn; omega)), h.no.frame k (hS _ (by unfold pOwn; omega))⟩
theorem PRep.setF {w : World} {x : Nat} {s : PS} (h : PRep w x s) (o : Nat) (v : Int) (hi : intCell o) : PRep (w.setCell ⟨x, o, none⟩ (.int .i64 v)) x { s with f := upd s.f o v } := by
  refine ⟨(h.main.set o _).congr fun k _ => ?_, h.c0.setOther _ _ (by simp), h.c1.setOther _ _ (by simp), h.st.setOther _ _ (by simp), h.rg.setOther _ _ (by simp), h.bs.setOther _ _ (by simp), h.no.setOther _ _ (by simp)⟩
  obtain ⟨h1, h2, h3, h4, h5, h6⟩ := hi
  by_cases e : k = o
  · subst e; simp [upd, pcell, h1, h2, h3, h4, h5, h6]
  · simp [upd, pcell, e]
theorem PRep.setK {w : World} {x : Nat} {s : PS} (h : PRep w x s) (o : Nat) (v : Int) : PRep (w.setCell ⟨x + 3, o, none⟩ (.int .i64 v)) x { s with k := upd s.k o v } :=
  ⟨h.main.setOther _ _ (by simp), h.c0.setOther _ _ (by simp), h.c1.setOther _ _ (by simp), by have := h.st.set o (.int .i64 v); rwa [ints_upd] at this, h.rg.setOther _ _ (by simp), h.bs.setOther _ _ (by simp), h.no.setOther _ _ (by simp)⟩
theorem PRep.setR {w : World} {x : Nat} {s : PS} (h : PRep w x s) (o : Nat) (v : Int) : PRep (w.setCell ⟨x + 4, o, none⟩ (.int .i64 v)) x { s with r := upd s.r o v } :=
  ⟨h.main.setOther _ _ (by simp), h.c0.setOther _ _ (by simp), h.c1.setOther _ _ (by simp), h.st.setOther _ _ (by simp), by have := h.rg.set o (.int .i64 v); rwa [ints_upd] at this, h.bs.setOther _ _ (by simp), h.no.setOther _ _ (by simp)⟩
theorem PRep.setB {w : World} {x : Nat} {s : PS} (h : PRep w x s) (o : Nat) (v : Int) : PRep (w.setCell ⟨x + 5, o, none⟩ (.int .i64 v)) x { s with b := upd s.b o v } :=
  ⟨h.main.setOther _ _ (by simp), h.c0.setOther _ _ (by simp), h.c1.setOther _ _ (by simp), h.st.setOther _ _ (by simp), h.rg.setOther _ _ (by simp), by have := h.bs.set o (.int .i64 v); rwa [ints_upd] at this, h.no.setOther _ _ (by simp)⟩

theorem Fr.psetM {x : Nat} {a w : World} (h : Fr (pOwn x) a w) (i o : Nat) (u : Value) (hi : i < 7) : Fr (pOwn x) a (w.setCell ⟨x + i, o, none⟩ u) := h.setC _ _ _ fun _ => by unfold pOwn; omega
theorem Fr.pset0 {x : Nat} {a w : World} (h : Fr (pOwn x) a w) (o : Nat) (u : Value) : Fr (pOwn x) a (w.setCell ⟨x, o, none⟩ u) := h.setC _ _ _ fun _ => by unfold pOwn; omega
theorem intCell_list {W k : Nat} (hW : W < 2) (hk : k < 129) : W * 130 + k < 266 ∧ intCell (W * 130 + k) := by unfold intCell; omega

def hasF (f : Nat → Int) (W pc : Nat) : Bool := decide (f (W * 130 + 64 + pc) < f (W * 130 + 128)) && (f (W * 130 + (f (W * 130 + 64 + pc)).toNat) == (pc : Int))
def putF (f : Nat → Int) (W pc : Nat) : Nat → Int :=
  upd (upd (upd f (W * 130 + (f (W * 130 + 128)).toNat) pc) (W * 130 + 64 + pc) (f (W * 130 + 128))) (W * 130 + 128) (f (W * 130 + 128) + 1)
end Go.Proofs.Qxb6500283aGreat
