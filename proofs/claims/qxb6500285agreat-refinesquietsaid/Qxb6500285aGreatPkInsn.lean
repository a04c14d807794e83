import Derived.Test.Qxb6500285aGreatPkWRun
import Derived.Test.Qxb6500285aGreatEqArr
namespace Go.Proofs.Qxb6500285aGreat
open Go Go.RowKit

def inV (i : In) : Value := .agg #[.int .i64 i.op, .int .i64 i.x, .int .i64 i.y, .int .u64 i.s0, .int .u64 i.s1, .int .u64 i.s2, .int .u64 i.s3]
theorem eqSet (a b c d : Int) (w : World) : (Op.equalIn 10000 85 (.agg #[.int .u64 a, .int .u64 b, .int .u64 c, .int .u64 d]) (.agg #[.int .u64 a, .int .u64 b, .int .u64 c, .int .u64 d])).run Tryz.prog w = .ok true w :=
  run_equalArr 9998 85 83 4 .u64 Tryz.underlying85 (by kernel_rfl) Tryz.underlying83 _ (fun i hi => ⟨word a b c d i, by simpa using word_get a b c d i hi⟩) w
theorem eqg45 : Tryz.prog.eqGuardType Tryz.prog.depth 85 = false := by kernel_rfl
end Go.Proofs.Qxb6500285aGreat
