/- The law: the quiet top. -/
import Derived.Test.Qxb6500277aGreatGL8
namespace Go.Proofs.Qxb6500277aGreat
open Go Go.RowKit

set_option maxHeartbeats 400000 in
theorem quiet_any {w : World} {a : Option Addr} {n cap : Nat} (hs : ScrAt w a n) :
    Calls Tryz.prog 4 #[.slice a n cap] w fun e w' => e = .returned (.bool true) ∧ Fr (fun _ => False) w w' := by
  go_enter Tryz.func4, Tryz.ntmps4
  go_wp2_with fail
  refine (walk_quiet hs).mono ?_
  rintro e w1 ⟨⟨k, rfl⟩, f1⟩
  go_wp2
  go_ret
  exact ⟨rfl, f1⟩
end Go.Proofs.Qxb6500277aGreat
