/- The machine's small functions: counts, endings. -/
import Derived.Test.Qxb6500277aGreatVR3
namespace Go.Proofs.Qxb6500277aGreat
open Go Go.RowKit

theorem lt37 {op : Nat} (h : op < 37) : op = 0 ∨ op = 1 ∨ op = 2 ∨ op = 3 ∨ op = 4 ∨ op = 5 ∨ op = 6 ∨ op = 7 ∨ op = 8 ∨ op = 9 ∨ op = 10 ∨ op = 11 ∨ op = 12 ∨ op = 13 ∨ op = 14 ∨ op = 15 ∨ op = 16 ∨ op = 17 ∨ op = 18 ∨ op = 19 ∨ op = 20 ∨ op = 21 ∨ op = 22 ∨ op = 23 ∨ op = 24 ∨ op = 25 ∨ op = 26 ∨ op = 27 ∨ op = 28 ∨ op = 29 ∨ op = 30 ∨ op = 31 ∨ op = 32 ∨ op = 33 ∨ op = 34 ∨ op = 35 ∨ op = 36 := by omega
set_option maxRecDepth 100000 in
set_option maxHeartbeats 8000000 in
theorem wantIF (op : Nat) (h : op < 37) (w : World) : Calls Tryz.prog 106 #[.int .i64 (op : Nat)] w fun e w' => e = .returned (.int .i64 (wantI op : Nat)) ∧ w' = w := by
  rcases lt37 h with rfl | rfl | rfl | rfl | rfl | rfl | rfl | rfl | rfl | rfl | rfl | rfl | rfl | rfl | rfl | rfl | rfl | rfl | rfl | rfl | rfl | rfl | rfl | rfl | rfl | rfl | rfl | rfl | rfl | rfl | rfl | rfl | rfl | rfl | rfl | rfl | rfl
  all_goals
    go_enter Tryz.func106, Tryz.ntmps106
    go_wp2_with fail
    go_ret
    exact ⟨rfl, rfl⟩
set_option maxRecDepth 100000 in
set_option maxHeartbeats 8000000 in
theorem wantRF (op : Nat) (h : op < 37) (w : World) : Calls Tryz.prog 107 #[.int .i64 (op : Nat)] w fun e w' => e = .returned (.int .i64 (wantR op : Nat)) ∧ w' = w := by
  rcases lt37 h with rfl | rfl | rfl | rfl | rfl | rfl | rfl | rfl | rfl | rfl | rfl | rfl | rfl | rfl | rfl | rfl | rfl | rfl | rfl | rfl | rfl | rfl | rfl | rfl | rfl | rfl | rfl | rfl | rfl | rfl | rfl | rfl | rfl | rfl | rfl | rfl | rfl
  all_goals
    go_enter Tryz.func107, Tryz.ntmps107
    go_wp2_with fail
    go_ret
    exact ⟨rfl, rfl⟩
set_option maxRecDepth 100000 in
set_option maxHeartbeats 8000000 in
theorem opArgsF (op : Nat) (h : op < 256) (w : World) : Calls Tryz.prog 42 #[.int .i64 (op : Nat)] w fun e w' => e = .returned (.int .i64 (opArgs op)) ∧ w' = w := by
  by_cases h37 : op < 37
  · rcases lt37 h37 with rfl | rfl | rfl | rfl | rfl | rfl | rfl | rfl | rfl | rfl | rfl | rfl | rfl | rfl | rfl | rfl | rfl | rfl | rfl | rfl | rfl | rfl | rfl | rfl | rfl | rfl | rfl | rfl | rfl | rfl | rfl | rfl | rfl | rfl | rfl | rfl | rfl
    all_goals
      go_enter Tryz.func42, Tryz.ntmps42
      go_wp2_with fail
      go_ret
      exact ⟨rfl, rfl⟩
  · have e : opArgs op = -1 := by
      unfold opArgs
      rw [if_neg (by omega), if_neg (by omega), if_neg (by omega), if_neg (by omega), if_neg (by omega)]
    have z1 : decide ((op : Int) < 0) = false := decide_eq_false (by omega)
    have z2 : decide ((op : Int) ≥ 37) = true := decide_eq_true (by omega)
    have z3 : decide (37 ≤ op) = true := decide_eq_true (by omega)
    have z4 : decide ((37 : Int) ≤ op) = true := decide_eq_true (by omega)
    go_enter Tryz.func42, Tryz.ntmps42
    go_wp2_with fail
    go_ret
    exact ⟨by rw [e]; rfl, rfl⟩
set_option maxRecDepth 100000 in
set_option maxHeartbeats 2000000 in
theorem flagF (b : Bool) (w : World) : Calls Tryz.prog 115 #[.bool b] w fun e w' => e = .returned (.int .i64 (flagI b)) ∧ w' = w := by
  cases b
  all_goals
    go_enter Tryz.func115, Tryz.ntmps115
    go_wp2_with fail
    go_ret
    exact ⟨rfl, rfl⟩
set_option maxRecDepth 100000 in
set_option maxHeartbeats 4000000 in
theorem endOfF (e : Int) (w : World) : Calls Tryz.prog 156 #[.int .i64 e] w fun x w' => x = .returned (.int .i64 (endOf e)) ∧ w' = w := by
  unfold endOf
  by_cases e4 : e = 4
  · subst e4
    go_enter Tryz.func156, Tryz.ntmps156
    go_wp2_with fail
    go_ret
    exact ⟨rfl, rfl⟩
  by_cases e5 : e = 5
  · subst e5
    go_enter Tryz.func156, Tryz.ntmps156
    go_wp2_with fail
    go_ret
    exact ⟨rfl, rfl⟩
  by_cases e1 : e = 1
  · subst e1
    go_enter Tryz.func156, Tryz.ntmps156
    go_wp2_with fail
    go_ret
    exact ⟨rfl, rfl⟩
  by_cases e3 : e = 3
  · subst e3
    go_enter Tryz.func156, Tryz.ntmps156
    go_wp2_with fail
    go_ret
    exact ⟨rfl, rfl⟩
  by_cases e6 : e = 6
  · subst e6
    go_enter Tryz.func156, Tryz.ntmps156
    go_wp2_with fail
    go_ret
    exact ⟨rfl, rfl⟩
  rw [if_neg e4, if_neg e5, if_neg e1, if_neg e3, if_neg e6]
  have z4 : (e == 4) = false := by simpa using e4
  have z5 : (e == 5) = false := by simpa using e5
  have z1 : (e == 1) = false := by simpa using e1
  have z3 : (e == 3) = false := by simpa using e3
  have z6 : (e == 6) = false := by simpa using e6
  clear e4 e5 e1 e3 e6
  go_enter Tryz.func156, Tryz.ntmps156
  go_wp2_with fail
  go_ret
  exact ⟨rfl, rfl⟩
end Go.Proofs.Qxb6500277aGreat
