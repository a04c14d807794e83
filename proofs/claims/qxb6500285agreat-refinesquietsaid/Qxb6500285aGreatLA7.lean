/- The law's small functions: Mark, Said, Calls, RightMachine, Memo, HandedOn, Asks, Remember. -/
import Derived.Test.Qxb6500285aGreatLA2
namespace Go.Proofs.Qxb6500285aGreat
open Go Go.RowKit

section
variable (p0 p1 p2 : Option Addr) (w : World)
set_option maxHeartbeats 1000000 in
theorem mark_any : Calls Tryz.prog 14 #[.agg #[.pointer p0, .pointer p1, .pointer p2]] w fun v w' => v = .returned (.tuple #[]) ∧ Fr (fun _ => False) w w' := by
  go_enter Tryz.func14, Tryz.ntmps14
  go_wp2_with fail
  go_end0
  exact ⟨rfl, (Fr.refl _ _).alloc _⟩
set_option maxHeartbeats 1000000 in
theorem calls_any : Calls Tryz.prog 18 #[.agg #[.pointer p0, .pointer p1, .pointer p2]] w fun v w' => v = .returned (.tuple #[.int .i64 (-1), .int .i64 (-1), .int .i64 (-1)]) ∧ Fr (fun _ => False) w w' := by
  go_enter Tryz.func18, Tryz.ntmps18
  go_wp2_with fail
  exact bodyPost_ret (v := .tuple #[.int .i64 (-1), .int .i64 (-1), .int .i64 (-1)]) (by simp [results, Tryz.results18, go_sem]) rfl ⟨rfl, (Fr.refl _ _).alloc _⟩
set_option maxHeartbeats 1000000 in
theorem said_any : Calls Tryz.prog 32 #[.agg #[.pointer p0, .pointer p1, .pointer p2]] w fun v w' => v = .returned (.tuple #[.agg #[.int .i64 0, .int .i64 0, .bool false, .int .i64 0, .int .i64 0, .int .i64 0, .int .i64 0, .int .i64 0, .int .i64 0, .int .i64 0, .int .i64 0], .bool false, .int .i64 0, .bool false]) ∧ Fr (fun _ => False) w w' := by
  go_enter Tryz.func32, Tryz.ntmps32
  go_wp2_with fail
  exact bodyPost_ret (v := .tuple #[.agg #[.int .i64 0, .int .i64 0, .bool false, .int .i64 0, .int .i64 0, .int .i64 0, .int .i64 0, .int .i64 0, .int .i64 0, .int .i64 0, .int .i64 0], .bool false, .int .i64 0, .bool false]) (by simp [results, Tryz.results32, go_sem]) rfl ⟨rfl, ((Fr.refl _ _).alloc _).alloc _⟩
set_option maxHeartbeats 1000000 in
theorem right_any (kind er : Int) : Calls Tryz.prog 11 #[.agg #[.pointer p0, .pointer p1, .pointer p2], .int .i64 kind, .int .i64 er] w fun v w' => v = .returned (.bool true) ∧ Fr (fun _ => False) w w' := by
  have f0 := (Fr.refl (fun _ => False) w).alloc (.cells #[.pointer p0, .pointer p1, .pointer p2] 31)
  go_enter Tryz.func11, Tryz.ntmps11
  go_wp2_with fail
  refine (calls_any p0 p1 p2 _).mono ?_
  rintro v w1 ⟨rfl, f1⟩
  go_wp2_with fail
  go_ret
  exact ⟨rfl, f0.trans f1 (fun _ _ h => h)⟩
set_option maxHeartbeats 1000000 in
theorem memo_any (d : Option Addr) (kind er : Int) : Calls Tryz.prog 12 #[.agg #[.pointer p0, .pointer p1, .pointer p2], .pointer d, .int .i64 kind, .int .i64 er] w fun v w' => v = .returned (.bool true) ∧ Fr (fun _ => False) w w' := by
  have f0 := (Fr.refl (fun _ => False) w).alloc (.cells #[.pointer p0, .pointer p1, .pointer p2] 31)
  go_enter Tryz.func12, Tryz.ntmps12
  go_wp2_with fail
  refine (calls_any p0 p1 p2 _).mono ?_
  rintro v w1 ⟨rfl, f1⟩
  go_wp2_with fail
  go_ret
  exact ⟨rfl, f0.trans f1 (fun _ _ h => h)⟩
set_option maxHeartbeats 1000000 in
theorem handed_any (d : Option Addr) (kind er : Int) : Calls Tryz.prog 16 #[.agg #[.pointer p0, .pointer p1, .pointer p2], .pointer d, .int .i64 kind, .int .i64 er] w fun v w' => v = .returned (.bool true) ∧ Fr (fun _ => False) w w' := by
  have f0 := (Fr.refl (fun _ => False) w).alloc (.cells #[.pointer p0, .pointer p1, .pointer p2] 31)
  go_enter Tryz.func16, Tryz.ntmps16
  go_wp2_with fail
  refine (said_any p0 p1 p2 _).mono ?_
  rintro v w1 ⟨rfl, f1⟩
  go_wp2_with fail
  go_ret
  exact ⟨rfl, (f0.trans f1 (fun _ _ h => h)).alloc _⟩
end
def asks (kind : Int) : Bool := decide (kind = 3) || decide (kind = 5) || decide (kind = 6)
set_option maxHeartbeats 1000000 in
theorem asks_any (kind : Int) (w : World) : Calls Tryz.prog 25 #[.int .i64 kind] w fun v w' => v = .returned (.bool (asks kind)) ∧ w' = w := by
  unfold asks
  by_cases h3 : kind = 3
  · subst h3
    go_enter Tryz.func25, Tryz.ntmps25
    go_wp2_with fail
    go_ret
    exact ⟨rfl, rfl⟩
  · have t3 : (kind == 3) = false := by simpa using h3
    by_cases h5 : kind = 5
    · subst h5
      go_enter Tryz.func25, Tryz.ntmps25
      go_wp2_with fail
      go_ret
      exact ⟨rfl, rfl⟩
    · have t5 : (kind == 5) = false := by simpa using h5
      by_cases h6 : kind = 6
      · subst h6
        go_enter Tryz.func25, Tryz.ntmps25
        go_wp2_with fail
        go_ret
        exact ⟨rfl, rfl⟩
      · have t6 : (kind == 6) = false := by simpa using h6
        go_enter Tryz.func25, Tryz.ntmps25
        go_wp2_with fail
        go_ret
        exact ⟨by simp [h3, h5, h6], rfl⟩
end Go.Proofs.Qxb6500285aGreat
