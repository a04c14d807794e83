import Derived.Test.Qxb6500282aWRun
import Derived.Test.Qxb6500282aEqArr
namespace Go.Proofs.Qxb6500282a
open Go Go.RowKit

def inV (i : In) : Value := .agg #[.int .i64 i.op, .int .i64 i.x, .int .i64 i.y, .int .u64 i.s0, .int .u64 i.s1, .int .u64 i.s2, .int .u64 i.s3]
theorem eqSet (a b c d : Int) (w : World) : (Op.equalIn 10000 45 (.agg #[.int .u64 a, .int .u64 b, .int .u64 c, .int .u64 d]) (.agg #[.int .u64 a, .int .u64 b, .int .u64 c, .int .u64 d])).run Try.prog w = .ok true w :=
  run_equalArr 9998 45 43 4 .u64 Try.underlying45 (by kernel_rfl) Try.underlying43 _ (fun i hi => ⟨word a b c d i, by simpa using word_get a b c d i hi⟩) w
theorem eqg45 : Try.prog.eqGuardType Try.prog.depth 45 = false := by kernel_rfl
set_option maxHeartbeats 400000 in
theorem sameInst_any (i : In) (w : World) : Calls Try.prog 36 #[inV i, inV i] w fun e w' => e = .returned (.bool true) ∧ Fr (fun _ => False) w w' := by
  have e1 := eqSet i.s0 i.s1 i.s2 i.s3
  have e2 := eqg45
  unfold inV
  go_enter Try.func36, Try.ntmps36
  go_wp2
  go_ret
  exact ⟨rfl, ((Fr.refl _ _).alloc _).alloc _⟩

end Go.Proofs.Qxb6500282a
