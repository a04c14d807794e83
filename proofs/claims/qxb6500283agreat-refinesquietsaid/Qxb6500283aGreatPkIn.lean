import Derived.Test.Qxb6500283aGreatProg
import Derived.Test.Qxb6500283aGreatBase
import Derived.Test.Qxb6500283aGreatText
import Derived.Test.Qxb6500283aGreatMake
import Derived.KernelRfl
import Derived.Deep.LoopGhost
namespace Go.Proofs.Qxb6500283aGreat
open Go Go.RowKit

/-- An instruction: Op, X, Y and the four words of its set. -/
structure In where
  op : Int
  x : Int
  y : Int
  s0 : Int
  s1 : Int
  s2 : Int
  s3 : Int
def inCell (i : In) (j : Nat) : Value :=
  match j with
  | 0 => .int .i64 i.op
  | 1 => .int .i64 i.x
  | 2 => .int .i64 i.y
  | 3 => .int .u64 i.s0
  | 4 => .int .u64 i.s1
  | 5 => .int .u64 i.s2
  | _ => .int .u64 i.s3
/-- The instructions p lie in block b from its head on. -/
def PAt (w : World) (b : Nat) (p : List In) : Prop := ∀ i (h : i < p.length) j, j < 7 → w.cell? ⟨b, i * 7 + j, none⟩ = some (inCell p[i] j)
theorem PAt.frame {S : Nat → Prop} {w w' : World} {b : Nat} {p : List In} (h : PAt w b p) (k : Fr S w w') (hb : ¬ S b) : PAt w' b p := by
  intro i hi j hj
  have h1 := h i hi j hj
  rw [← h1]
  exact k.cell (p := ⟨b, i * 7 + j, none⟩) (World.block_lt_of_cell? w _ h1) hb
theorem PAt.lt {w : World} {b : Nat} {p : List In} (h : PAt w b p) (hp : 0 < p.length) : b < w.heap.size :=
  World.block_lt_of_cell? w ⟨b, 0 * 7 + 0, none⟩ (h 0 hp 0 (by omega))

def okIn (m pc : Nat) (i : In) : Prop :=
  ((i.op = 0 ∨ i.op = 4 ∨ i.op = 5) ∧ pc + 1 < m) ∨ (i.op = 3 ∧ pc + 1 < m ∧ 2 ≤ i.x ∧ i.x < 8) ∨
  (i.op = 1 ∧ 0 ≤ i.x ∧ i.x < m ∧ 0 ≤ i.y ∧ i.y < m) ∨ (i.op = 2 ∧ 0 ≤ i.x ∧ i.x < m) ∨ i.op = 6
structure OkProg (p : List In) : Prop where
  pos : 0 < p.length
  max : p.length ≤ 64
  all : ∀ pc (h : pc < p.length), okIn p.length pc p[pc]

theorem pigeonK : ∀ (m : Nat) (l : List Nat), l.Nodup → (∀ a ∈ l, a < m) → l.length ≤ m
  | 0, l, _, h => by
    cases l with
    | nil => simp
    | cons a l => exact absurd (h a (by simp)) (by omega)
  | m + 1, l, hn, h => by
    have h1 := pigeonK m (l.filter (· != m)) (hn.filter _) (fun a ha => by
      simp only [List.mem_filter, bne_iff_ne, ne_eq] at ha
      have := h a ha.1; omega)
    have h2 : l.length ≤ (l.filter (· != m)).length + 1 := by
      clear h h1
      induction l with
      | nil => simp
      | cons a l ih =>
        rw [List.nodup_cons] at hn
        by_cases e : a = m
        · subst e
          have h3 : l.filter (· != a) = l := by
            rw [List.filter_eq_self]
            intro b hb
            simp only [bne_iff_ne, ne_eq]
            intro e; subst e; exact hn.1 hb
          simp [h3]
        · have := ih hn.2
          simp [e]; omega
    omega
end Go.Proofs.Qxb6500283aGreat
