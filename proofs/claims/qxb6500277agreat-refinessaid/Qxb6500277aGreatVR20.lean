/- The real machine: its gauges. -/
import Derived.Test.Qxb6500277aGreatVR19
namespace Go.Proofs.Qxb6500277aGreat
open Go Go.RowKit

section
variable {w w' : World} {A : Va} {C : List Nat} {I : List Int} {V : Vs} {S S' : HS} {M : MS} {st st' : Nat → Int} {G : Gx} {nf : Nat} {cv iv ov : Value}
end
end Go.Proofs.Qxb6500277aGreat
