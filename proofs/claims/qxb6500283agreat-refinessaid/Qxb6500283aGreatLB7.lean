/- The law: the script. -/
import Derived.Test.Qxb6500283aGreatLB5
import Derived.Test.Qxb6500283aGreatLB6
namespace Go.Proofs.Qxb6500283aGreat
open Go Go.RowKit

/-- The script lies in memory. -/
def ScrAt (w : World) (a : Option Addr) (n : Nat) : Prop := n = 0 ∨ ∃ b off, a = some ⟨b, off, none⟩ ∧ b < w.heap.size ∧ ∀ i, i < n → ∃ kind A B C S T,
  w.cell? ⟨b, off + i * 6, none⟩ = some (.int .i64 kind) ∧ w.cell? ⟨b, off + i * 6 + 1, none⟩ = some (.int .i64 A) ∧ w.cell? ⟨b, off + i * 6 + 2, none⟩ = some (.int .i64 B) ∧
  w.cell? ⟨b, off + i * 6 + 3, none⟩ = some (.int .i64 C) ∧ w.cell? ⟨b, off + i * 6 + 4, none⟩ = some (.string S) ∧ w.cell? ⟨b, off + i * 6 + 5, none⟩ = some (.string T) ∧ S.size ≤ 9223372036854775807 ∧ T.size ≤ 9223372036854775807
theorem PMem.lt2 {w : World} {fb e sb n pb : Nat} {ps : List Pc} (h : PMem w fb e sb n pb ps) : pb < w.heap.size := by
  obtain ⟨f, hb, _⟩ := h.pc
  exact hb.lt
end Go.Proofs.Qxb6500283aGreat
