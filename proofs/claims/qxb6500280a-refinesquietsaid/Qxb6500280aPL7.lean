/- The law: the tops. -/
import Derived.Test.Qxb6500280aPL5
import Derived.Test.Qxb6500280aPL6
namespace Go.Proofs.Qxb6500280a
open Go Go.RowKit

set_option maxHeartbeats 400000 in
theorem upTo_any {w : World} {a : Option Addr} {n cap : Nat} (hs : ScrAt w a n) :
    Calls Try.prog 6 #[.slice a n cap] w fun e w' => e = .returned (.int .i64 (-1)) ∧ Fr (fun _ => False) w w' := by
  go_enter Try.func6, Try.ntmps6
  go_wp2_with fail
  refine (walk_loud hs).mono ?_
  rintro e w1 ⟨⟨k, rfl⟩, f1⟩
  go_wp2
  go_ret
  exact ⟨rfl, f1⟩
set_option maxHeartbeats 400000 in
theorem refines_any {w : World} {a : Option Addr} {n cap : Nat} (hs : ScrAt w a n) :
    Calls Try.prog 3 #[.slice a n cap] w fun e w' => e = .returned (.bool true) ∧ Fr (fun _ => False) w w' := by
  go_enter Try.func3, Try.ntmps3
  go_wp2_with fail
  refine (upTo_any hs).mono ?_
  rintro e w1 ⟨rfl, f1⟩
  go_wp2
  go_ret
  exact ⟨rfl, f1⟩
set_option maxHeartbeats 400000 in
theorem quietUpTo_any {w : World} {a : Option Addr} {n cap : Nat} (hs : ScrAt w a n) :
    Calls Try.prog 7 #[.slice a n cap] w fun e w' => e = .returned (.int .i64 (-1)) ∧ Fr (fun _ => False) w w' := by
  go_enter Try.func7, Try.ntmps7
  go_wp2_with fail
  refine (walk_quiet hs).mono ?_
  rintro e w1 ⟨⟨k, rfl⟩, f1⟩
  go_wp2
  go_ret
  exact ⟨rfl, f1⟩
set_option maxHeartbeats 400000 in
theorem quiet_any {w : World} {a : Option Addr} {n cap : Nat} (hs : ScrAt w a n) :
    Calls Try.prog 4 #[.slice a n cap] w fun e w' => e = .returned (.bool true) ∧ Fr (fun _ => False) w w' := by
  go_enter Try.func4, Try.ntmps4
  go_wp2_with fail
  refine (quietUpTo_any hs).mono ?_
  rintro e w1 ⟨rfl, f1⟩
  go_wp2
  go_ret
  exact ⟨rfl, f1⟩
end Go.Proofs.Qxb6500280a
