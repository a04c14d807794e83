/- The real machine: steps (written by genVR26.py). -/
import Derived.Test.Qxb6500277aGreatVR25
namespace Go.Proofs.Qxb6500277aGreat
open Go Go.RowKit

section
variable {w w' w0 : World} {A : Va} {C : List Nat} {I : List Int} {V V' : Vs} {S S' : HS} {M M' : MS} {st st' : Nat → Int} {G : Gx} {nf : Nat} {cv iv ov : Value} {f : Fm} {r : List Fm} {e : Ending}
theorem RX.byte (H : RX w A C I V S st G nf cv iv ov) {b c : Nat} (e : cv = .slice (some ⟨b, 0, none⟩) C.length c) {i : Nat} (hi : i < C.length) : w.cell? ⟨b, i, none⟩ = some (.int .u8 (byteAt C i)) := by
  obtain ⟨b', c', e', _, h⟩ := H.code.all (by omega)
  rw [e] at e'
  cases e'
  exact h i hi
theorem RX.blt (H : RX w A C I V S st G nf cv iv ov) {b c : Nat} (e : cv = .slice (some ⟨b, 0, none⟩) C.length c) : b < w.heap.size := H.code.bk ⟨_, _, e⟩
theorem drop_fu (V : Vs) (n : Nat) : (dropO V n).fuel = V.fuel := by
  obtain ⟨fs, pc, fuel, ip, out, en, rt, steps, most⟩ := V
  cases fs <;> rfl
end
end Go.Proofs.Qxb6500277aGreat
