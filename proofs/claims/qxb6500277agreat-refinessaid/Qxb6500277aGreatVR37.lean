/- The real machine: Check, New. -/
import Derived.Test.Qxb6500277aGreatVR36
import Derived.Deep.LoopGhost
import Derived.Deep.Cut
namespace Go.Proofs.Qxb6500277aGreat
open Go Go.RowKit

section
variable {w w' w0 : World} {A : Va} {C C' : List Nat} {I I' : List Int} {V V' : Vs} {S S' : HS} {M M' : MS} {st st' : Nat → Int} {G : Gx} {nf : Nat} {cv iv ov cv1 iv1 : Value} {X : Vs × MS} {j : Nat} {e : Ending}
/-- A machine is born. -/
theorem newF8 {h : Nat} (w : World) : Calls Tryz.prog 24 #[.pointer (some ⟨h, 0, none⟩)] w fun e w' => e = .returned (.pointer (some ⟨w.heap.size, 0, none⟩)) ∧ Fr (fun _ => False) w w' ∧ w'.heap.size = w.heap.size + 1 ∧ Blk w' w.heap.size 65 (vC ⟨w.heap.size, h⟩ (fun _ => 0) ⟨0, 0, 0, 0, 0⟩ 0 (V0 0) nilS nilS nilS) := by
  go_enter Tryz.func24, Tryz.ntmps24
  go_wp2_with fail
  go_ret
  refine ⟨rfl, (Fr.refl _ w).alloc _, by simp [World.size_alloc], Blk.new w _ _ _ fun o ho => ?_⟩
  have ho : o < 65 := ho
  have hh : o = 0 ∨ o = 1 ∨ o = 2 ∨ o = 3 ∨ o = 4 ∨ o = 5 ∨ o = 6 ∨ o = 7 ∨ o = 8 ∨ o = 9 ∨ o = 10 ∨ o = 11 ∨ o = 12 ∨ o = 13 ∨ o = 14 ∨ o = 15 ∨ o = 16 ∨ o = 17 ∨ o = 18 ∨ o = 19 ∨ o = 20 ∨ o = 21 ∨ o = 22 ∨ o = 23 ∨ o = 24 ∨ o = 25 ∨ o = 26 ∨ o = 27 ∨ o = 28 ∨ o = 29 ∨ o = 30 ∨ o = 31 ∨ o = 32 ∨ o = 33 ∨ o = 34 ∨ o = 35 ∨ o = 36 ∨ o = 37 ∨ o = 38 ∨ o = 39 ∨ o = 40 ∨ o = 41 ∨ o = 42 ∨ o = 43 ∨ o = 44 ∨ o = 45 ∨ o = 46 ∨ o = 47 ∨ o = 48 ∨ o = 49 ∨ o = 50 ∨ o = 51 ∨ o = 52 ∨ o = 53 ∨ o = 54 ∨ o = 55 ∨ o = 56 ∨ o = 57 ∨ o = 58 ∨ o = 59 ∨ o = 60 ∨ o = 61 ∨ o = 62 ∨ o = 63 ∨ o = 64 := by omega
  rcases hh with rfl | rfl | rfl | rfl | rfl | rfl | rfl | rfl | rfl | rfl | rfl | rfl | rfl | rfl | rfl | rfl | rfl | rfl | rfl | rfl | rfl | rfl | rfl | rfl | rfl | rfl | rfl | rfl | rfl | rfl | rfl | rfl | rfl | rfl | rfl | rfl | rfl | rfl | rfl | rfl | rfl | rfl | rfl | rfl | rfl | rfl | rfl | rfl | rfl | rfl | rfl | rfl | rfl | rfl | rfl | rfl | rfl | rfl | rfl | rfl | rfl | rfl | rfl | rfl | rfl <;> rfl
end
end Go.Proofs.Qxb6500277aGreat
