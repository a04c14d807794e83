/- The model's New; Ground. -/
import Derived.Test.Qxb6500287aC5
namespace Go.Proofs.Qxb6500287a
open Go Go.RowKit

set_option maxHeartbeats 400000 in
theorem newM_any (w : World) : Calls Try.prog 11 #[] w fun e w' => e = .returned (.pointer (some ⟨w.heap.size, 0, none⟩)) ∧ Blk w' w.heap.size 1 (fun _ => .int .i64 0) ∧ Fr (fun _ => False) w w' := by
  have hb := Blk.new w #[.int .i64 0] 59 (fun _ => .int .i64 0) (fun o ho => by
    obtain rfl : o = 0 := by simp at ho; omega
    rfl)
  go_enter Try.func11, Try.ntmps11
  go_wp2_with fail
  go_ret
  exact ⟨rfl, hb, (Fr.refl _ _).alloc _⟩
set_option maxHeartbeats 400000 in
theorem ground_any (w : World) : Calls Try.prog 9 #[] w fun e w' => e = .returned (.agg #[]) ∧ Fr (fun _ => False) w w' := by
  go_enter Try.func9, Try.ntmps9
  go_wp2
  exact bodyPost_ret (v := .agg #[]) (by simp [results, Try.results9, go_sem]) rfl ⟨rfl, (Fr.refl _ _).alloc _⟩
end Go.Proofs.Qxb6500287a
