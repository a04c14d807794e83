/- Lists of instructions as values. -/
import Derived.Test.Qxb6500285aGreatPkCode
import Derived.Test.Qxb6500285aGreatX2
namespace Go.Proofs.Qxb6500285aGreat
open Go Go.RowKit

/-- A list value that holds the instructions p and has no spare room. -/
def LVi (w : World) (v : Value) (p : List In) : Prop := (v = .slice none 0 0 ∧ p = []) ∨ ∃ b f, v = .slice (some ⟨b, 0, none⟩) p.length p.length ∧ Blk w b (p.length * 7) f ∧ Holds7 f p ∧ 0 < p.length
def isBlk (v : Value) (b : Nat) : Prop := ∃ n c, v = .slice (some ⟨b, 0, none⟩) n c
theorem noBlk (b : Nat) : ¬ isBlk (.slice none 0 0) b := by rintro ⟨n, c, e⟩; cases e
theorem isBlk_one {b c n k : Nat} (h : isBlk (.slice (some ⟨b, 0, none⟩) n k) c) : c = b := by
  obtain ⟨_, _, e⟩ := h
  injection e with e
  injection e with e
  injection e with e
  exact e.symm
theorem LVi.frame {S : Nat → Prop} {w w' : World} {v : Value} {p : List In} (h : LVi w v p) (k : Fr S w w') (hb : ∀ b, isBlk v b → ¬ S b) : LVi w' v p := by
  rcases h with h | ⟨b, f, rfl, ht, hf, hp⟩
  · exact .inl h
  · exact .inr ⟨b, f, rfl, ht.frame k (hb b ⟨_, _, rfl⟩), hf, hp⟩
theorem LVi.lt {w : World} {v : Value} {p : List In} (h : LVi w v p) {b : Nat} (hb : isBlk v b) : b < w.heap.size := by
  obtain ⟨n, c, e⟩ := hb
  rcases h with ⟨rfl, _⟩ | ⟨b', f, rfl, ht, hf, hp⟩
  · cases e
  · cases e; exact ht.lt
end Go.Proofs.Qxb6500285aGreat
