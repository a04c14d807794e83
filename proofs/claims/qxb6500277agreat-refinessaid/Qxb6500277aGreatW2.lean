import Derived.Test.Qxb6500277aGreatW1
namespace Go.Proofs.Qxb6500277aGreat
open Go Go.RowKit

set_option maxRecDepth 100000 in
set_option maxHeartbeats 4000000 in
theorem single_any (c : Nat) (w : World) : Calls Tryz.prog 182 #[.int .u8 c] w fun e w' => e = .returned (.int .i64 (singleN c)) ∧ w' = w := by
  have hcase : c = 40 ∨ c = 41 ∨ c = 123 ∨ c = 125 ∨ c = 91 ∨ c = 93 ∨ c = 44 ∨ c = 59 ∨ c = 61 ∨ c = 60 ∨ c = 62 ∨ c = 43 ∨ c = 45 ∨ c = 42 ∨ c = 47 ∨ c = 37 ∨ c = 33 ∨ (c ≠ 40 ∧ c ≠ 41 ∧ c ≠ 123 ∧ c ≠ 125 ∧ c ≠ 91 ∧ c ≠ 93 ∧ c ≠ 44 ∧ c ≠ 59 ∧ c ≠ 61 ∧ c ≠ 60 ∧ c ≠ 62 ∧ c ≠ 43 ∧ c ≠ 45 ∧ c ≠ 42 ∧ c ≠ 47 ∧ c ≠ 37 ∧ c ≠ 33) := by omega
  rcases hcase with rfl | rfl | rfl | rfl | rfl | rfl | rfl | rfl | rfl | rfl | rfl | rfl | rfl | rfl | rfl | rfl | rfl | h
  · skip
    go_enter Tryz.func182, Tryz.ntmps182
    go_wp2
    go_ret
    exact ⟨rfl, rfl⟩
  · skip
    go_enter Tryz.func182, Tryz.ntmps182
    go_wp2
    go_ret
    exact ⟨rfl, rfl⟩
  · skip
    go_enter Tryz.func182, Tryz.ntmps182
    go_wp2
    go_ret
    exact ⟨rfl, rfl⟩
  · skip
    go_enter Tryz.func182, Tryz.ntmps182
    go_wp2
    go_ret
    exact ⟨rfl, rfl⟩
  · skip
    go_enter Tryz.func182, Tryz.ntmps182
    go_wp2
    go_ret
    exact ⟨rfl, rfl⟩
  · skip
    go_enter Tryz.func182, Tryz.ntmps182
    go_wp2
    go_ret
    exact ⟨rfl, rfl⟩
  · skip
    go_enter Tryz.func182, Tryz.ntmps182
    go_wp2
    go_ret
    exact ⟨rfl, rfl⟩
  · skip
    go_enter Tryz.func182, Tryz.ntmps182
    go_wp2
    go_ret
    exact ⟨rfl, rfl⟩
  · skip
    go_enter Tryz.func182, Tryz.ntmps182
    go_wp2
    go_ret
    exact ⟨rfl, rfl⟩
  · skip
    go_enter Tryz.func182, Tryz.ntmps182
    go_wp2
    go_ret
    exact ⟨rfl, rfl⟩
  · skip
    go_enter Tryz.func182, Tryz.ntmps182
    go_wp2
    go_ret
    exact ⟨rfl, rfl⟩
  · skip
    go_enter Tryz.func182, Tryz.ntmps182
    go_wp2
    go_ret
    exact ⟨rfl, rfl⟩
  · skip
    go_enter Tryz.func182, Tryz.ntmps182
    go_wp2
    go_ret
    exact ⟨rfl, rfl⟩
  · skip
    go_enter Tryz.func182, Tryz.ntmps182
    go_wp2
    go_ret
    exact ⟨rfl, rfl⟩
  · skip
    go_enter Tryz.func182, Tryz.ntmps182
    go_wp2
    go_ret
    exact ⟨rfl, rfl⟩
  · skip
    go_enter Tryz.func182, Tryz.ntmps182
    go_wp2
    go_ret
    exact ⟨rfl, rfl⟩
  · skip
    go_enter Tryz.func182, Tryz.ntmps182
    go_wp2
    go_ret
    exact ⟨rfl, rfl⟩
  · rw [show singleN c = 0 by unfold singleN; simp [h]]
    have nc40 : (((c : Nat) : Int) == 40) = false := by simp; omega
    have nc41 : (((c : Nat) : Int) == 41) = false := by simp; omega
    have nc123 : (((c : Nat) : Int) == 123) = false := by simp; omega
    have nc125 : (((c : Nat) : Int) == 125) = false := by simp; omega
    have nc91 : (((c : Nat) : Int) == 91) = false := by simp; omega
    have nc93 : (((c : Nat) : Int) == 93) = false := by simp; omega
    have nc44 : (((c : Nat) : Int) == 44) = false := by simp; omega
    have nc59 : (((c : Nat) : Int) == 59) = false := by simp; omega
    have nc61 : (((c : Nat) : Int) == 61) = false := by simp; omega
    have nc60 : (((c : Nat) : Int) == 60) = false := by simp; omega
    have nc62 : (((c : Nat) : Int) == 62) = false := by simp; omega
    have nc43 : (((c : Nat) : Int) == 43) = false := by simp; omega
    have nc45 : (((c : Nat) : Int) == 45) = false := by simp; omega
    have nc42 : (((c : Nat) : Int) == 42) = false := by simp; omega
    have nc47 : (((c : Nat) : Int) == 47) = false := by simp; omega
    have nc37 : (((c : Nat) : Int) == 37) = false := by simp; omega
    have nc33 : (((c : Nat) : Int) == 33) = false := by simp; omega
    clear h
    go_enter Tryz.func182, Tryz.ntmps182
    go_wp2
    go_ret
    exact ⟨rfl, rfl⟩
set_option maxRecDepth 100000 in
set_option maxHeartbeats 4000000 in
theorem twin_any (a b : Nat) (w : World) : Calls Tryz.prog 181 #[.int .u8 a, .int .u8 b] w fun e w' => e = .returned (.int .i64 (twinN a b)) ∧ w' = w := by
  have hcase : (a = 61 ∧ b = 61) ∨ (a = 61 ∧ b ≠ 61) ∨ (a = 33 ∧ b = 61) ∨ (a = 33 ∧ b ≠ 61) ∨ (a = 60 ∧ b = 61) ∨ (a = 60 ∧ b ≠ 61) ∨ (a = 62 ∧ b = 61) ∨ (a = 62 ∧ b ≠ 61) ∨ (a = 38 ∧ b = 38) ∨ (a = 38 ∧ b ≠ 38) ∨ (a = 124 ∧ b = 124) ∨ (a = 124 ∧ b ≠ 124) ∨ (a ≠ 61 ∧ a ≠ 33 ∧ a ≠ 60 ∧ a ≠ 62 ∧ a ≠ 38 ∧ a ≠ 124) := by omega
  rcases hcase with ⟨rfl, rfl⟩ | ⟨rfl, h⟩ | ⟨rfl, rfl⟩ | ⟨rfl, h⟩ | ⟨rfl, rfl⟩ | ⟨rfl, h⟩ | ⟨rfl, rfl⟩ | ⟨rfl, h⟩ | ⟨rfl, rfl⟩ | ⟨rfl, h⟩ | ⟨rfl, rfl⟩ | ⟨rfl, h⟩ | h
  · skip
    go_enter Tryz.func181, Tryz.ntmps181
    go_wp2
    go_ret
    exact ⟨rfl, rfl⟩
  · rw [show twinN 61 b = 0 by unfold twinN; simp [h]]
    have nb61 : (((b : Nat) : Int) == 61) = false := by simp; omega
    clear h
    go_enter Tryz.func181, Tryz.ntmps181
    go_wp2
    go_ret
    exact ⟨rfl, rfl⟩
  · skip
    go_enter Tryz.func181, Tryz.ntmps181
    go_wp2
    go_ret
    exact ⟨rfl, rfl⟩
  · rw [show twinN 33 b = 0 by unfold twinN; simp [h]]
    have nb61 : (((b : Nat) : Int) == 61) = false := by simp; omega
    clear h
    go_enter Tryz.func181, Tryz.ntmps181
    go_wp2
    go_ret
    exact ⟨rfl, rfl⟩
  · skip
    go_enter Tryz.func181, Tryz.ntmps181
    go_wp2
    go_ret
    exact ⟨rfl, rfl⟩
  · rw [show twinN 60 b = 0 by unfold twinN; simp [h]]
    have nb61 : (((b : Nat) : Int) == 61) = false := by simp; omega
    clear h
    go_enter Tryz.func181, Tryz.ntmps181
    go_wp2
    go_ret
    exact ⟨rfl, rfl⟩
  · skip
    go_enter Tryz.func181, Tryz.ntmps181
    go_wp2
    go_ret
    exact ⟨rfl, rfl⟩
  · rw [show twinN 62 b = 0 by unfold twinN; simp [h]]
    have nb61 : (((b : Nat) : Int) == 61) = false := by simp; omega
    clear h
    go_enter Tryz.func181, Tryz.ntmps181
    go_wp2
    go_ret
    exact ⟨rfl, rfl⟩
  · skip
    go_enter Tryz.func181, Tryz.ntmps181
    go_wp2
    go_ret
    exact ⟨rfl, rfl⟩
  · rw [show twinN 38 b = 0 by unfold twinN; simp [h]]
    have nb38 : (((b : Nat) : Int) == 38) = false := by simp; omega
    clear h
    go_enter Tryz.func181, Tryz.ntmps181
    go_wp2
    go_ret
    exact ⟨rfl, rfl⟩
  · skip
    go_enter Tryz.func181, Tryz.ntmps181
    go_wp2
    go_ret
    exact ⟨rfl, rfl⟩
  · rw [show twinN 124 b = 0 by unfold twinN; simp [h]]
    have nb124 : (((b : Nat) : Int) == 124) = false := by simp; omega
    clear h
    go_enter Tryz.func181, Tryz.ntmps181
    go_wp2
    go_ret
    exact ⟨rfl, rfl⟩
  · rw [show twinN a b = 0 by unfold twinN; simp [h]]
    have na61 : (((a : Nat) : Int) == 61) = false := by simp; omega
    have na33 : (((a : Nat) : Int) == 33) = false := by simp; omega
    have na60 : (((a : Nat) : Int) == 60) = false := by simp; omega
    have na62 : (((a : Nat) : Int) == 62) = false := by simp; omega
    have na38 : (((a : Nat) : Int) == 38) = false := by simp; omega
    have na124 : (((a : Nat) : Int) == 124) = false := by simp; omega
    clear h
    go_enter Tryz.func181, Tryz.ntmps181
    go_wp2
    go_ret
    exact ⟨rfl, rfl⟩
end Go.Proofs.Qxb6500277aGreat
