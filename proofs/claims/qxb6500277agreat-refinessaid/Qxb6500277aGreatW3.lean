import Derived.Test.Qxb6500277aGreatW1
namespace Go.Proofs.Qxb6500277aGreat
open Go Go.RowKit

set_option maxRecDepth 100000 in
set_option maxHeartbeats 4000000 in
theorem guess_any (n c : Nat) (w : World) : Calls Tryz.prog 217 #[.int .i64 n, .int .u8 c] w fun e w' => e = .returned (.int .i64 (guessN n c)) ∧ w' = w := by
  rcases (show n = 2 ∨ n = 3 ∨ n = 4 ∨ n = 5 ∨ n = 6 ∨ (n ≠ 2 ∧ n ≠ 3 ∧ n ≠ 4 ∧ n ≠ 5 ∧ n ≠ 6) by omega) with rfl | rfl | rfl | rfl | rfl | h
  · rcases (show c = 105 ∨ (c ≠ 105) by omega) with rfl | h
    · skip
      go_enter Tryz.func217, Tryz.ntmps217
      go_wp2
      go_ret
      exact ⟨rfl, rfl⟩
    · rw [show guessN 2 c = 1 by unfold guessN; simp [h]]
      have nc105 : (((c : Nat) : Int) == 105) = false := by simp; omega
      clear h
      go_enter Tryz.func217, Tryz.ntmps217
      go_wp2
      go_ret
      exact ⟨rfl, rfl⟩
  · rcases (show c = 118 ∨ c = 110 ∨ c = 108 ∨ c = 105 ∨ (c ≠ 118 ∧ c ≠ 110 ∧ c ≠ 108 ∧ c ≠ 105) by omega) with rfl | rfl | rfl | rfl | h
    · skip
      go_enter Tryz.func217, Tryz.ntmps217
      go_wp2
      go_ret
      exact ⟨rfl, rfl⟩
    · skip
      go_enter Tryz.func217, Tryz.ntmps217
      go_wp2
      go_ret
      exact ⟨rfl, rfl⟩
    · skip
      go_enter Tryz.func217, Tryz.ntmps217
      go_wp2
      go_ret
      exact ⟨rfl, rfl⟩
    · skip
      go_enter Tryz.func217, Tryz.ntmps217
      go_wp2
      go_ret
      exact ⟨rfl, rfl⟩
    · rw [show guessN 3 c = 1 by unfold guessN; simp [h]]
      have nc118 : (((c : Nat) : Int) == 118) = false := by simp; omega
      have nc110 : (((c : Nat) : Int) == 110) = false := by simp; omega
      have nc108 : (((c : Nat) : Int) == 108) = false := by simp; omega
      have nc105 : (((c : Nat) : Int) == 105) = false := by simp; omega
      clear h
      go_enter Tryz.func217, Tryz.ntmps217
      go_wp2
      go_ret
      exact ⟨rfl, rfl⟩
  · rcases (show c = 102 ∨ c = 101 ∨ c = 116 ∨ c = 114 ∨ c = 98 ∨ (c ≠ 102 ∧ c ≠ 101 ∧ c ≠ 116 ∧ c ≠ 114 ∧ c ≠ 98) by omega) with rfl | rfl | rfl | rfl | rfl | h
    · skip
      go_enter Tryz.func217, Tryz.ntmps217
      go_wp2
      go_ret
      exact ⟨rfl, rfl⟩
    · skip
      go_enter Tryz.func217, Tryz.ntmps217
      go_wp2
      go_ret
      exact ⟨rfl, rfl⟩
    · skip
      go_enter Tryz.func217, Tryz.ntmps217
      go_wp2
      go_ret
      exact ⟨rfl, rfl⟩
    · skip
      go_enter Tryz.func217, Tryz.ntmps217
      go_wp2
      go_ret
      exact ⟨rfl, rfl⟩
    · skip
      go_enter Tryz.func217, Tryz.ntmps217
      go_wp2
      go_ret
      exact ⟨rfl, rfl⟩
    · rw [show guessN 4 c = 1 by unfold guessN; simp [h]]
      have nc102 : (((c : Nat) : Int) == 102) = false := by simp; omega
      have nc101 : (((c : Nat) : Int) == 101) = false := by simp; omega
      have nc116 : (((c : Nat) : Int) == 116) = false := by simp; omega
      have nc114 : (((c : Nat) : Int) == 114) = false := by simp; omega
      have nc98 : (((c : Nat) : Int) == 98) = false := by simp; omega
      clear h
      go_enter Tryz.func217, Tryz.ntmps217
      go_wp2
      go_ret
      exact ⟨rfl, rfl⟩
  · rcases (show c = 119 ∨ c = 112 ∨ c = 102 ∨ (c ≠ 119 ∧ c ≠ 112 ∧ c ≠ 102) by omega) with rfl | rfl | rfl | h
    · skip
      go_enter Tryz.func217, Tryz.ntmps217
      go_wp2
      go_ret
      exact ⟨rfl, rfl⟩
    · skip
      go_enter Tryz.func217, Tryz.ntmps217
      go_wp2
      go_ret
      exact ⟨rfl, rfl⟩
    · skip
      go_enter Tryz.func217, Tryz.ntmps217
      go_wp2
      go_ret
      exact ⟨rfl, rfl⟩
    · rw [show guessN 5 c = 1 by unfold guessN; simp [h]]
      have nc119 : (((c : Nat) : Int) == 119) = false := by simp; omega
      have nc112 : (((c : Nat) : Int) == 112) = false := by simp; omega
      have nc102 : (((c : Nat) : Int) == 102) = false := by simp; omega
      clear h
      go_enter Tryz.func217, Tryz.ntmps217
      go_wp2
      go_ret
      exact ⟨rfl, rfl⟩
  · rcases (show c = 114 ∨ (c ≠ 114) by omega) with rfl | h
    · skip
      go_enter Tryz.func217, Tryz.ntmps217
      go_wp2
      go_ret
      exact ⟨rfl, rfl⟩
    · rw [show guessN 6 c = 1 by unfold guessN; simp [h]]
      have nc114 : (((c : Nat) : Int) == 114) = false := by simp; omega
      clear h
      go_enter Tryz.func217, Tryz.ntmps217
      go_wp2
      go_ret
      exact ⟨rfl, rfl⟩
  · rw [show guessN n c = 1 by unfold guessN; simp [h]]
    have nn2 : (((n : Nat) : Int) == 2) = false := by simp; omega
    have nn3 : (((n : Nat) : Int) == 3) = false := by simp; omega
    have nn4 : (((n : Nat) : Int) == 4) = false := by simp; omega
    have nn5 : (((n : Nat) : Int) == 5) = false := by simp; omega
    have nn6 : (((n : Nat) : Int) == 6) = false := by simp; omega
    clear h
    go_enter Tryz.func217, Tryz.ntmps217
    go_wp2
    go_ret
    exact ⟨rfl, rfl⟩
end Go.Proofs.Qxb6500277aGreat
