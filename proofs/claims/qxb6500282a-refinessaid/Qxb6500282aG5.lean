import Derived.Test.Qxb6500282aG4
namespace Go.Proofs.Qxb6500282a
open Go Go.RowKit

set_option maxHeartbeats 400000 in
theorem loudUpTo_any {w : World} {a : Option Addr} {n cap : Nat} (hs : ScrAt w a n) :
    Calls Try.prog 5 #[.slice a n cap] w fun e w' => e = .returned (.int .i64 (-1)) ∧ Fr (fun _ => False) w w' := by
  go_enter Try.func5, Try.ntmps5
  go_wp2_with fail
  refine (walk_loud hs).mono ?_
  rintro e w1 ⟨⟨k, rfl⟩, f1⟩
  go_wp2
  go_ret
  exact ⟨rfl, f1⟩
set_option maxHeartbeats 400000 in
theorem loud_any {w : World} {a : Option Addr} {n cap : Nat} (hs : ScrAt w a n) :
    Calls Try.prog 3 #[.slice a n cap] w fun e w' => e = .returned (.bool true) ∧ Fr (fun _ => False) w w' := by
  go_enter Try.func3, Try.ntmps3
  go_wp2_with fail
  refine (loudUpTo_any hs).mono ?_
  rintro e w1 ⟨rfl, f1⟩
  go_wp2
  go_ret
  exact ⟨rfl, f1⟩
end Go.Proofs.Qxb6500282a
