/- What an answer of the parser is. -/
import Derived.Test.Qxb6500277aGreatCN1
import Derived.Test.Qxb6500277aGreatPW19
namespace Go.Proofs.Qxb6500277aGreat
open Go Go.RowKit

theorem ans_names {src : ByteArray} {ns : List Nd} {root err pos : Int} (h : Ans src ns root err pos) : Nm8 ns ∧ (err = 0 → ∃ fs, (∀ f ∈ fs, OkF f) ∧ ns = flFs 0 fs ∧ root = hdF 0 fs) := by
  rcases h with ⟨h0, rfl, rfl, rfl, rfl⟩ | ⟨h0, ⟨a, b, rfl, rfl⟩ | ⟨j, a, rfl, rfl⟩⟩
  · exact ⟨(fun _ h => by cases h), fun e => absurd e h0⟩
  · exact ⟨(fun _ h => by cases h), fun e => absurd e b⟩
  · exact ⟨names8 (fun i => (ansTs_sound h0 i).1) a, fun _ => prog_tree (fun i hi => (ansTs_sound h0 i).2 hi) a⟩
end Go.Proofs.Qxb6500277aGreat
