/- The model's New; Ground. -/
import Derived.Test.Qxb6500283aGreatC5
namespace Go.Proofs.Qxb6500283aGreat
open Go Go.RowKit

set_option maxHeartbeats 400000 in
theorem newM_any (w : World) : Calls Tryz.prog 37 #[] w fun e w' => e = .returned (.pointer (some ⟨w.heap.size, 0, none⟩)) ∧ Blk w' w.heap.size 1 (fun _ => .int .i64 0) ∧ Fr (fun _ => False) w w' := by
  have hb := Blk.new w #[.int .i64 0] 136 (fun _ => .int .i64 0) (fun o ho => by
    obtain rfl : o = 0 := by simp at ho; omega
    rfl)
  go_enter Tryz.func37, Tryz.ntmps37
  go_wp2_with fail
  go_ret
  exact ⟨rfl, hb, (Fr.refl _ _).alloc _⟩
end Go.Proofs.Qxb6500283aGreat
