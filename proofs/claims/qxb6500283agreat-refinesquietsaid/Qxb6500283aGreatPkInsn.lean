import Derived.Test.Qxb6500283aGreatPkWRun
import Derived.Test.Qxb6500283aGreatEqArr
namespace Go.Proofs.Qxb6500283aGreat
open Go Go.RowKit

def inV (i : In) : Value := .agg #[.int .i64 i.op, .int .i64 i.x, .int .i64 i.y, .int .u64 i.s0, .int .u64 i.s1, .int .u64 i.s2, .int .u64 i.s3]
theorem eqSet (a b c d : Int) (w : World) : (Op.equalIn 10000 95 (.agg #[.int .u64 a, .int .u64 b, .int .u64 c, .int .u64 d]) (.agg #[.int .u64 a, .int .u64 b, .int .u64 c, .int .u64 d])).run Tryz.prog w = .ok true w :=
  run_equalArr 9998 95 93 4 .u64 Tryz.underlying95 (by kernel_rfl) Tryz.underlying93 _ (fun i hi => ⟨word a b c d i, by simpa using word_get a b c d i hi⟩) w
theorem eqg45 : Tryz.prog.eqGuardType Tryz.prog.depth 95 = false := by kernel_rfl
end Go.Proofs.Qxb6500283aGreat
