import Derived.Test.Qxb6500284aWRun
import Derived.Test.Qxb6500284aEqArr
namespace Go.Proofs.Qxb6500284a
open Go Go.RowKit

def inV (i : In) : Value := .agg #[.int .i64 i.op, .int .i64 i.x, .int .i64 i.y, .int .u64 i.s0, .int .u64 i.s1, .int .u64 i.s2, .int .u64 i.s3]
def stampIn : In := ⟨-7, -7, -7, 0, 0, 0, 0⟩
set_option maxHeartbeats 400000 in
theorem stamp_any (w : World) : Calls Try.prog 34 #[] w fun e w' => e = .returned (inV stampIn) ∧ Fr (fun _ => False) w w' := by
  go_enter Try.func34, Try.ntmps34
  go_wp2
  exact bodyPost_ret (v := inV stampIn) (by simp [results, Try.results34, go_sem, inV, stampIn]) rfl ⟨rfl, (Fr.refl _ _).alloc _⟩

theorem eqSet (a b c d : Int) (w : World) : (Op.equalIn 10000 61 (.agg #[.int .u64 a, .int .u64 b, .int .u64 c, .int .u64 d]) (.agg #[.int .u64 a, .int .u64 b, .int .u64 c, .int .u64 d])).run Try.prog w = .ok true w :=
  run_equalArr 9998 61 59 4 .u64 Try.underlying61 (by kernel_rfl) Try.underlying59 _ (fun i hi => ⟨word a b c d i, by simpa using word_get a b c d i hi⟩) w
theorem eqg61 : Try.prog.eqGuardType Try.prog.depth 61 = false := by kernel_rfl
theorem eqg53 : Try.prog.eqGuardType Try.prog.depth 53 = false := by kernel_rfl
set_option maxHeartbeats 400000 in
theorem sameInst_any (i : In) (w : World) : Calls Try.prog 41 #[inV i, inV i] w fun e w' => e = .returned (.bool true) ∧ Fr (fun _ => False) w w' := by
  have e1 := eqSet i.s0 i.s1 i.s2 i.s3
  have e2 := eqg61
  unfold inV
  go_enter Try.func41, Try.ntmps41
  go_wp2
  go_ret
  exact ⟨rfl, ((Fr.refl _ _).alloc _).alloc _⟩

theorem eqCaps (c : Nat → Int) (w : World) : (Op.equalIn 10000 53 (capsV c) (capsV c)).run Try.prog w = .ok true w :=
  run_equalArr 9998 53 3 8 .i64 Try.underlying53 (by kernel_rfl) Try.underlying3 _ (fun i hi => ⟨c i, by
    rcases (show i = 0 ∨ i = 1 ∨ i = 2 ∨ i = 3 ∨ i = 4 ∨ i = 5 ∨ i = 6 ∨ i = 7 by omega) with rfl | rfl | rfl | rfl | rfl | rfl | rfl | rfl <;> rfl⟩) w
set_option maxHeartbeats 400000 in
theorem sameFound_any (err pos : Int) (ok : Bool) (c : Nat → Int) (w : World) : Calls Try.prog 24 #[foundV err pos ok c, foundV err pos ok c] w fun e w' => e = .returned (.bool true) ∧ Fr (fun _ => False) w w' := by
  have e1 := eqCaps c
  have e2 := eqg53
  unfold capsV at e1
  unfold foundV
  go_enter Try.func24, Try.ntmps24
  go_wp2
  go_ret
  exact ⟨rfl, ((Fr.refl _ _).alloc _).alloc _⟩

set_option maxHeartbeats 400000 in
theorem ground_any (w : World) : Calls Try.prog 7 #[] w fun e w' => e = .returned (.agg #[]) ∧ Fr (fun _ => False) w w' := by
  go_enter Try.func7, Try.ntmps7
  go_wp2
  exact bodyPost_ret (v := .agg #[]) (by simp [results, Try.results7, go_sem]) rfl ⟨rfl, (Fr.refl _ _).alloc _⟩

set_option maxHeartbeats 400000 in
theorem mnew_any (w : World) : Calls Try.prog 9 #[] w fun e w' => e = .returned (.pointer (some ⟨w.heap.size, 0, none⟩)) ∧ Fr (fun _ => False) w w' ∧ w'.heap.size = w.heap.size + 1 ∧ ∃ f, Blk w' w.heap.size 12 f ∧ f 0 = .int .i64 0 := by
  go_enter Try.func9, Try.ntmps9
  go_wp2
  go_ret
  refine ⟨rfl, (Fr.refl _ _).alloc _, by simp, _, Blk.new w _ _ (fun o => (#[.int .i64 0, .int .i64 0, .int .i64 0, .bool false, .int .i64 0, .int .i64 0, .int .i64 0, .int .i64 0, .int .i64 0, .int .i64 0, .int .i64 0, .int .i64 0] : Array Value).getD o undef) (fun o ho => ?_), rfl⟩
  simp at ho
  simp [ho]
end Go.Proofs.Qxb6500284a
