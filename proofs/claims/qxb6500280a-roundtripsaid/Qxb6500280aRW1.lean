/- The round trip's small functions: wrapped, Power, Rem, Quo. -/
import Derived.Test.Qxb6500280aRT8
namespace Go.Proofs.Qxb6500280a
open Go Go.RowKit

set_option maxRecDepth 100000 in
set_option maxHeartbeats 4000000 in
theorem wrappedF (s : ByteArray) (c : Bool) (w : World) (hs : s.size ≤ 20000) : Calls Try.prog 82 #[.string s, .bool c] w fun e w' => (∃ t : ByteArray, e = .returned (.string t) ∧ t.data.toList = wrL c s.data.toList) ∧ w' = w := by
  cases c
  · go_enter Try.func82, Try.ntmps82
    go_wp2
    go_ret
    exact ⟨⟨_, rfl, by simp [wrL]⟩, rfl⟩
  · go_enter Try.func82, Try.ntmps82
    go_wp2
    go_ret
    exact ⟨⟨_, rfl, by simp [wrL]⟩, rfl⟩
set_option maxRecDepth 100000 in
set_option maxHeartbeats 4000000 in
theorem powerP (k : Int) (w : World) : Calls Try.prog 83 #[.int .i64 k] w fun e w' => e = .returned (.int .i64 (pow k)) ∧ w' = w := by
  by_cases h1 : k = 38
  · subst h1
    go_enter Try.func83, Try.ntmps83
    go_wp2
    go_ret
    exact ⟨rfl, rfl⟩
  by_cases h2 : k = 37
  · subst h2
    go_enter Try.func83, Try.ntmps83
    go_wp2
    go_ret
    exact ⟨rfl, rfl⟩
  have z1 : (k == 38) = false := by simpa using h1
  have z2 : (k == 37) = false := by simpa using h2
  by_cases h3 : 26 ≤ k ∧ k ≤ 31
  · have hp : pow k = 3 := by unfold pow; rw [if_neg h1, if_neg h2, if_pos (by omega)]
    have z3 : decide ((26 : Int) ≤ k) = true := decide_eq_true h3.1
    have z4 : decide (k ≤ (31 : Int)) = true := decide_eq_true h3.2
    have Hp : Hid _ := hp
    clear h1 h2 h3 hp
    go_enter Try.func83, Try.ntmps83
    go_wp2
    go_ret
    exact ⟨by rw [Hp.out]; rfl, rfl⟩
  by_cases h4 : k = 32 ∨ k = 33
  · rcases h4 with rfl | rfl
    all_goals
      go_enter Try.func83, Try.ntmps83
      go_wp2
      go_ret
      exact ⟨rfl, rfl⟩
  by_cases h5 : k = 34 ∨ k = 35 ∨ k = 36
  · rcases h5 with rfl | rfl | rfl
    all_goals
      go_enter Try.func83, Try.ntmps83
      go_wp2
      go_ret
      exact ⟨rfl, rfl⟩
  have hp : pow k = 0 := by unfold pow; rw [if_neg h1, if_neg h2, if_neg (by omega), if_neg h4, if_neg h5]
  have y1 : (k == 32) = false := by simp; omega
  have y2 : (k == 33) = false := by simp; omega
  have y3 : (k == 34) = false := by simp; omega
  have y4 : (k == 35) = false := by simp; omega
  have y5 : (k == 36) = false := by simp; omega
  have Hp : Hid _ := hp
  by_cases h6 : 26 ≤ k
  · have z3 : decide ((26 : Int) ≤ k) = true := decide_eq_true h6
    have z4 : decide (k ≤ (31 : Int)) = false := decide_eq_false (by omega)
    clear h1 h2 h3 h4 h5 h6 hp
    go_enter Try.func83, Try.ntmps83
    go_wp2
    go_ret
    exact ⟨by rw [Hp.out]; rfl, rfl⟩
  · have z3 : decide ((26 : Int) ≤ k) = false := decide_eq_false h6
    clear h1 h2 h3 h4 h5 h6 hp
    go_enter Try.func83, Try.ntmps83
    go_wp2
    go_ret
    exact ⟨by rw [Hp.out]; rfl, rfl⟩
set_option maxRecDepth 100000 in
set_option maxHeartbeats 4000000 in
theorem rem10 (a : Nat) (ha : a ≤ 9223372036854775807) (w : World) : Calls Try.prog 90 #[.int .i64 a, .int .i64 10] w fun e w' => e = .returned (.int .i64 ((a % 10 : Nat) : Int)) ∧ w' = w := by
  go_enter Try.func90, Try.ntmps90
  go_wp2
  go_ret
  refine ⟨?_, rfl⟩
  simp
set_option maxRecDepth 100000 in
set_option maxHeartbeats 4000000 in
theorem quo10 (a : Nat) (ha : a ≤ 9223372036854775807) (w : World) : Calls Try.prog 91 #[.int .i64 a, .int .i64 10] w fun e w' => e = .returned (.int .i64 ((a / 10 : Nat) : Int)) ∧ w' = w := by
  go_enter Try.func91, Try.ntmps91
  go_wp2
  go_ret
  refine ⟨?_, rfl⟩
  simp
end Go.Proofs.Qxb6500280a
