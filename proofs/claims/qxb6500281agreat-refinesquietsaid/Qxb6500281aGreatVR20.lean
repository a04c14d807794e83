/- The real machine: its gauges. -/
import Derived.Test.Qxb6500281aGreatVR19
namespace Go.Proofs.Qxb6500281aGreat
open Go Go.RowKit

section
variable {w w' : World} {A : Va} {C : List Nat} {I : List Int} {V : Vs} {S S' : HS} {M : MS} {st st' : Nat → Int} {G : Gx} {nf : Nat} {cv iv ov : Value}
theorem stepsF (H : RX w A C I V S st G nf cv iv ov) : Calls Tryz.prog 35 #[.pointer (some ⟨A.m, 0, none⟩)] w fun e w' => e = .returned (.int .i64 V.steps) ∧ w' = w := by
  have c1 := H.r_steps
  have hlt := H.lt
  clear H
  go_enter Tryz.func35, Tryz.ntmps35
  go_wp2_with fail
  exact bodyPost_ret (v := .int .i64 V.steps) (by simp [results, Tryz.results35, go_sem]) rfl ⟨rfl, rfl⟩
theorem mostF (H : RX w A C I V S st G nf cv iv ov) : Calls Tryz.prog 36 #[.pointer (some ⟨A.m, 0, none⟩)] w fun e w' => e = .returned (.int .i64 (V.most : Nat)) ∧ w' = w := by
  have c1 := H.r_most
  have hlt := H.lt
  clear H
  go_enter Tryz.func36, Tryz.ntmps36
  go_wp2_with fail
  exact bodyPost_ret (v := .int .i64 (V.most : Nat)) (by simp [results, Tryz.results36, go_sem]) rfl ⟨rfl, rfl⟩
end
end Go.Proofs.Qxb6500281aGreat
