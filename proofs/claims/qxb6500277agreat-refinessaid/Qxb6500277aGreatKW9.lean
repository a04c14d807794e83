/- The real heap: trace, Live. -/
import Derived.Test.Qxb6500277aGreatKW8
namespace Go.Proofs.Qxb6500277aGreat
open Go Go.RowKit

/-- A part of the order: each once, all in the row. -/
structure Part (os l : List Int) : Prop where
  nd : l.Nodup
  sub : ∀ x ∈ l, x ∈ os
theorem Part.note {os l : List Int} (h : Part os l) {x : Int} (hx : x = -1 ∨ x ∈ os) : Part os (noteL l x) := ⟨noteL_nodup h.nd x, fun y hy => by
  rcases noteL_mem.1 hy with hy | ⟨rfl, h0⟩
  · exact h.sub y hy
  · rcases hx with hx | hx
    · omega
    · exact hx⟩
theorem HInv.os48 {S : HS} {os : List Int} (hI : HInv S os) : os.length ≤ 48 := by
  have h1 := hI.row.sum
  have h2 := wdL_ge S.mem os
  have h3 := hI.le
  omega
theorem Part.len {S : HS} {os l : List Int} (hI : HInv S os) (h : Part os l) : l.length ≤ 48 := Nat.le_trans (nodup_len h.nd h.sub) hI.os48
end Go.Proofs.Qxb6500277aGreat
