import Derived.Test.Qxb6500277aGreatLexS
namespace Go.Proofs.Qxb6500277aGreat
open Go Go.RowKit

theorem retI {a b : Int} (h : a = b) : Ending.returned (.int .i64 a) = .returned (.int .i64 b) := by rw [h]
theorem retB {a b : Bool} (h : a = b) : Ending.returned (.bool a) = .returned (.bool b) := by rw [h]
theorem retS {a b : ByteArray} (h : a = b) : Ending.returned (.string a) = .returned (.string b) := by rw [h]
set_option maxRecDepth 100000 in
set_option maxHeartbeats 4000000 in
theorem class_any (c : Nat) (hc : c < 256) (w : World) : Calls Tryz.prog 142 #[.int .u8 c] w fun e w' => e = .returned (.int .i64 (classN c)) ∧ w' = w := by
  have hcase : 97 ≤ c ∧ c ≤ 122 ∨ 65 ≤ c ∧ c ≤ 90 ∨ 48 ≤ c ∧ c ≤ 57 ∨ c = 95 ∨ c = 32 ∨ c = 9 ∨ c = 10 ∨ c = 13 ∨ c = 35 ∨ c = 61 ∨ c = 33 ∨ c = 60 ∨ c = 62 ∨ c = 38 ∨ c = 124 ∨ c = 40 ∨ c = 41 ∨ c = 123 ∨ c = 125 ∨ c = 91 ∨ c = 93 ∨ c = 44 ∨ c = 59 ∨ c = 43 ∨ c = 45 ∨ c = 42 ∨ c = 47 ∨ c = 37 ∨ (c < 48 ∧ c ≠ 32 ∧ c ≠ 9 ∧ c ≠ 10 ∧ c ≠ 13 ∧ c ≠ 35 ∧ c ≠ 61 ∧ c ≠ 33 ∧ c ≠ 60 ∧ c ≠ 62 ∧ c ≠ 38 ∧ c ≠ 124 ∧ c ≠ 40 ∧ c ≠ 41 ∧ c ≠ 123 ∧ c ≠ 125 ∧ c ≠ 91 ∧ c ≠ 93 ∧ c ≠ 44 ∧ c ≠ 59 ∧ c ≠ 43 ∧ c ≠ 45 ∧ c ≠ 42 ∧ c ≠ 47 ∧ c ≠ 37) ∨ (58 ≤ c ∧ c < 65 ∧ c ≠ 32 ∧ c ≠ 9 ∧ c ≠ 10 ∧ c ≠ 13 ∧ c ≠ 35 ∧ c ≠ 61 ∧ c ≠ 33 ∧ c ≠ 60 ∧ c ≠ 62 ∧ c ≠ 38 ∧ c ≠ 124 ∧ c ≠ 40 ∧ c ≠ 41 ∧ c ≠ 123 ∧ c ≠ 125 ∧ c ≠ 91 ∧ c ≠ 93 ∧ c ≠ 44 ∧ c ≠ 59 ∧ c ≠ 43 ∧ c ≠ 45 ∧ c ≠ 42 ∧ c ≠ 47 ∧ c ≠ 37) ∨ (91 ≤ c ∧ c < 97 ∧ c ≠ 95 ∧ c ≠ 32 ∧ c ≠ 9 ∧ c ≠ 10 ∧ c ≠ 13 ∧ c ≠ 35 ∧ c ≠ 61 ∧ c ≠ 33 ∧ c ≠ 60 ∧ c ≠ 62 ∧ c ≠ 38 ∧ c ≠ 124 ∧ c ≠ 40 ∧ c ≠ 41 ∧ c ≠ 123 ∧ c ≠ 125 ∧ c ≠ 91 ∧ c ≠ 93 ∧ c ≠ 44 ∧ c ≠ 59 ∧ c ≠ 43 ∧ c ≠ 45 ∧ c ≠ 42 ∧ c ≠ 47 ∧ c ≠ 37) ∨ (123 ≤ c ∧ c ≠ 32 ∧ c ≠ 9 ∧ c ≠ 10 ∧ c ≠ 13 ∧ c ≠ 35 ∧ c ≠ 61 ∧ c ≠ 33 ∧ c ≠ 60 ∧ c ≠ 62 ∧ c ≠ 38 ∧ c ≠ 124 ∧ c ≠ 40 ∧ c ≠ 41 ∧ c ≠ 123 ∧ c ≠ 125 ∧ c ≠ 91 ∧ c ≠ 93 ∧ c ≠ 44 ∧ c ≠ 59 ∧ c ≠ 43 ∧ c ≠ 45 ∧ c ≠ 42 ∧ c ≠ 47 ∧ c ≠ 37) := by omega
  rcases hcase with ⟨h1, h2⟩ | ⟨h1, h2⟩ | ⟨h1, h2⟩ | rfl | rfl | rfl | rfl | rfl | rfl | rfl | rfl | rfl | rfl | rfl | rfl | rfl | rfl | rfl | rfl | rfl | rfl | rfl | rfl | rfl | rfl | rfl | rfl | rfl | ⟨h1, h⟩ | ⟨h1, h2, h⟩ | ⟨h1, h2, h3, h⟩ | ⟨h1, h⟩
  · rw [show classN c = 1 by unfold classN; (repeat' split) <;> omega]
    go_enter Tryz.func142, Tryz.ntmps142
    go_wp2
    go_ret
    exact ⟨rfl, rfl⟩
  · rw [show classN c = 1 by unfold classN; (repeat' split) <;> omega]
    go_enter Tryz.func142, Tryz.ntmps142
    go_wp2
    go_ret
    exact ⟨rfl, rfl⟩
  · rw [show classN c = 2 by unfold classN; (repeat' split) <;> omega]
    go_enter Tryz.func142, Tryz.ntmps142
    go_wp2
    go_ret
    exact ⟨rfl, rfl⟩
  · clear hc
    go_enter Tryz.func142, Tryz.ntmps142
    go_wp2
    go_ret
    exact ⟨rfl, rfl⟩
  · clear hc
    go_enter Tryz.func142, Tryz.ntmps142
    go_wp2
    go_ret
    exact ⟨rfl, rfl⟩
  · clear hc
    go_enter Tryz.func142, Tryz.ntmps142
    go_wp2
    go_ret
    exact ⟨rfl, rfl⟩
  · clear hc
    go_enter Tryz.func142, Tryz.ntmps142
    go_wp2
    go_ret
    exact ⟨rfl, rfl⟩
  · clear hc
    go_enter Tryz.func142, Tryz.ntmps142
    go_wp2
    go_ret
    exact ⟨rfl, rfl⟩
  · clear hc
    go_enter Tryz.func142, Tryz.ntmps142
    go_wp2
    go_ret
    exact ⟨rfl, rfl⟩
  · clear hc
    go_enter Tryz.func142, Tryz.ntmps142
    go_wp2
    go_ret
    exact ⟨rfl, rfl⟩
  · clear hc
    go_enter Tryz.func142, Tryz.ntmps142
    go_wp2
    go_ret
    exact ⟨rfl, rfl⟩
  · clear hc
    go_enter Tryz.func142, Tryz.ntmps142
    go_wp2
    go_ret
    exact ⟨rfl, rfl⟩
  · clear hc
    go_enter Tryz.func142, Tryz.ntmps142
    go_wp2
    go_ret
    exact ⟨rfl, rfl⟩
  · clear hc
    go_enter Tryz.func142, Tryz.ntmps142
    go_wp2
    go_ret
    exact ⟨rfl, rfl⟩
  · clear hc
    go_enter Tryz.func142, Tryz.ntmps142
    go_wp2
    go_ret
    exact ⟨rfl, rfl⟩
  · clear hc
    go_enter Tryz.func142, Tryz.ntmps142
    go_wp2
    go_ret
    exact ⟨rfl, rfl⟩
  · clear hc
    go_enter Tryz.func142, Tryz.ntmps142
    go_wp2
    go_ret
    exact ⟨rfl, rfl⟩
  · clear hc
    go_enter Tryz.func142, Tryz.ntmps142
    go_wp2
    go_ret
    exact ⟨rfl, rfl⟩
  · clear hc
    go_enter Tryz.func142, Tryz.ntmps142
    go_wp2
    go_ret
    exact ⟨rfl, rfl⟩
  · clear hc
    go_enter Tryz.func142, Tryz.ntmps142
    go_wp2
    go_ret
    exact ⟨rfl, rfl⟩
  · clear hc
    go_enter Tryz.func142, Tryz.ntmps142
    go_wp2
    go_ret
    exact ⟨rfl, rfl⟩
  · clear hc
    go_enter Tryz.func142, Tryz.ntmps142
    go_wp2
    go_ret
    exact ⟨rfl, rfl⟩
  · clear hc
    go_enter Tryz.func142, Tryz.ntmps142
    go_wp2
    go_ret
    exact ⟨rfl, rfl⟩
  · clear hc
    go_enter Tryz.func142, Tryz.ntmps142
    go_wp2
    go_ret
    exact ⟨rfl, rfl⟩
  · clear hc
    go_enter Tryz.func142, Tryz.ntmps142
    go_wp2
    go_ret
    exact ⟨rfl, rfl⟩
  · clear hc
    go_enter Tryz.func142, Tryz.ntmps142
    go_wp2
    go_ret
    exact ⟨rfl, rfl⟩
  · clear hc
    go_enter Tryz.func142, Tryz.ntmps142
    go_wp2
    go_ret
    exact ⟨rfl, rfl⟩
  · clear hc
    go_enter Tryz.func142, Tryz.ntmps142
    go_wp2
    go_ret
    exact ⟨rfl, rfl⟩
  · rw [show classN c = 0 by unfold classN; (repeat' split) <;> omega]
    have nc32 : (((c : Nat) : Int) == 32) = false := by simp; omega
    have nc9 : (((c : Nat) : Int) == 9) = false := by simp; omega
    have nc10 : (((c : Nat) : Int) == 10) = false := by simp; omega
    have nc13 : (((c : Nat) : Int) == 13) = false := by simp; omega
    have nc35 : (((c : Nat) : Int) == 35) = false := by simp; omega
    have nc61 : (((c : Nat) : Int) == 61) = false := by simp; omega
    have nc33 : (((c : Nat) : Int) == 33) = false := by simp; omega
    have nc60 : (((c : Nat) : Int) == 60) = false := by simp; omega
    have nc62 : (((c : Nat) : Int) == 62) = false := by simp; omega
    have nc38 : (((c : Nat) : Int) == 38) = false := by simp; omega
    have nc124 : (((c : Nat) : Int) == 124) = false := by simp; omega
    have nc40 : (((c : Nat) : Int) == 40) = false := by simp; omega
    have nc41 : (((c : Nat) : Int) == 41) = false := by simp; omega
    have nc123 : (((c : Nat) : Int) == 123) = false := by simp; omega
    have nc125 : (((c : Nat) : Int) == 125) = false := by simp; omega
    have nc91 : (((c : Nat) : Int) == 91) = false := by simp; omega
    have nc93 : (((c : Nat) : Int) == 93) = false := by simp; omega
    have nc44 : (((c : Nat) : Int) == 44) = false := by simp; omega
    have nc59 : (((c : Nat) : Int) == 59) = false := by simp; omega
    have nc43 : (((c : Nat) : Int) == 43) = false := by simp; omega
    have nc45 : (((c : Nat) : Int) == 45) = false := by simp; omega
    have nc42 : (((c : Nat) : Int) == 42) = false := by simp; omega
    have nc47 : (((c : Nat) : Int) == 47) = false := by simp; omega
    have nc37 : (((c : Nat) : Int) == 37) = false := by simp; omega
    clear h
    go_enter Tryz.func142, Tryz.ntmps142
    go_wp2
    go_ret
    exact ⟨rfl, rfl⟩
  · rw [show classN c = 0 by unfold classN; (repeat' split) <;> omega]
    have nc32 : (((c : Nat) : Int) == 32) = false := by simp; omega
    have nc9 : (((c : Nat) : Int) == 9) = false := by simp; omega
    have nc10 : (((c : Nat) : Int) == 10) = false := by simp; omega
    have nc13 : (((c : Nat) : Int) == 13) = false := by simp; omega
    have nc35 : (((c : Nat) : Int) == 35) = false := by simp; omega
    have nc61 : (((c : Nat) : Int) == 61) = false := by simp; omega
    have nc33 : (((c : Nat) : Int) == 33) = false := by simp; omega
    have nc60 : (((c : Nat) : Int) == 60) = false := by simp; omega
    have nc62 : (((c : Nat) : Int) == 62) = false := by simp; omega
    have nc38 : (((c : Nat) : Int) == 38) = false := by simp; omega
    have nc124 : (((c : Nat) : Int) == 124) = false := by simp; omega
    have nc40 : (((c : Nat) : Int) == 40) = false := by simp; omega
    have nc41 : (((c : Nat) : Int) == 41) = false := by simp; omega
    have nc123 : (((c : Nat) : Int) == 123) = false := by simp; omega
    have nc125 : (((c : Nat) : Int) == 125) = false := by simp; omega
    have nc91 : (((c : Nat) : Int) == 91) = false := by simp; omega
    have nc93 : (((c : Nat) : Int) == 93) = false := by simp; omega
    have nc44 : (((c : Nat) : Int) == 44) = false := by simp; omega
    have nc59 : (((c : Nat) : Int) == 59) = false := by simp; omega
    have nc43 : (((c : Nat) : Int) == 43) = false := by simp; omega
    have nc45 : (((c : Nat) : Int) == 45) = false := by simp; omega
    have nc42 : (((c : Nat) : Int) == 42) = false := by simp; omega
    have nc47 : (((c : Nat) : Int) == 47) = false := by simp; omega
    have nc37 : (((c : Nat) : Int) == 37) = false := by simp; omega
    clear h
    go_enter Tryz.func142, Tryz.ntmps142
    go_wp2
    go_ret
    exact ⟨rfl, rfl⟩
  · rw [show classN c = 0 by unfold classN; (repeat' split) <;> omega]
    have nc32 : (((c : Nat) : Int) == 32) = false := by simp; omega
    have nc9 : (((c : Nat) : Int) == 9) = false := by simp; omega
    have nc10 : (((c : Nat) : Int) == 10) = false := by simp; omega
    have nc13 : (((c : Nat) : Int) == 13) = false := by simp; omega
    have nc35 : (((c : Nat) : Int) == 35) = false := by simp; omega
    have nc61 : (((c : Nat) : Int) == 61) = false := by simp; omega
    have nc33 : (((c : Nat) : Int) == 33) = false := by simp; omega
    have nc60 : (((c : Nat) : Int) == 60) = false := by simp; omega
    have nc62 : (((c : Nat) : Int) == 62) = false := by simp; omega
    have nc38 : (((c : Nat) : Int) == 38) = false := by simp; omega
    have nc124 : (((c : Nat) : Int) == 124) = false := by simp; omega
    have nc40 : (((c : Nat) : Int) == 40) = false := by simp; omega
    have nc41 : (((c : Nat) : Int) == 41) = false := by simp; omega
    have nc123 : (((c : Nat) : Int) == 123) = false := by simp; omega
    have nc125 : (((c : Nat) : Int) == 125) = false := by simp; omega
    have nc91 : (((c : Nat) : Int) == 91) = false := by simp; omega
    have nc93 : (((c : Nat) : Int) == 93) = false := by simp; omega
    have nc44 : (((c : Nat) : Int) == 44) = false := by simp; omega
    have nc59 : (((c : Nat) : Int) == 59) = false := by simp; omega
    have nc43 : (((c : Nat) : Int) == 43) = false := by simp; omega
    have nc45 : (((c : Nat) : Int) == 45) = false := by simp; omega
    have nc42 : (((c : Nat) : Int) == 42) = false := by simp; omega
    have nc47 : (((c : Nat) : Int) == 47) = false := by simp; omega
    have nc37 : (((c : Nat) : Int) == 37) = false := by simp; omega
    have nc95 : (((c : Nat) : Int) == 95) = false := by simp; omega
    clear h
    go_enter Tryz.func142, Tryz.ntmps142
    go_wp2
    go_ret
    exact ⟨rfl, rfl⟩
  · rw [show classN c = 0 by unfold classN; (repeat' split) <;> omega]
    have nc32 : (((c : Nat) : Int) == 32) = false := by simp; omega
    have nc9 : (((c : Nat) : Int) == 9) = false := by simp; omega
    have nc10 : (((c : Nat) : Int) == 10) = false := by simp; omega
    have nc13 : (((c : Nat) : Int) == 13) = false := by simp; omega
    have nc35 : (((c : Nat) : Int) == 35) = false := by simp; omega
    have nc61 : (((c : Nat) : Int) == 61) = false := by simp; omega
    have nc33 : (((c : Nat) : Int) == 33) = false := by simp; omega
    have nc60 : (((c : Nat) : Int) == 60) = false := by simp; omega
    have nc62 : (((c : Nat) : Int) == 62) = false := by simp; omega
    have nc38 : (((c : Nat) : Int) == 38) = false := by simp; omega
    have nc124 : (((c : Nat) : Int) == 124) = false := by simp; omega
    have nc40 : (((c : Nat) : Int) == 40) = false := by simp; omega
    have nc41 : (((c : Nat) : Int) == 41) = false := by simp; omega
    have nc123 : (((c : Nat) : Int) == 123) = false := by simp; omega
    have nc125 : (((c : Nat) : Int) == 125) = false := by simp; omega
    have nc91 : (((c : Nat) : Int) == 91) = false := by simp; omega
    have nc93 : (((c : Nat) : Int) == 93) = false := by simp; omega
    have nc44 : (((c : Nat) : Int) == 44) = false := by simp; omega
    have nc59 : (((c : Nat) : Int) == 59) = false := by simp; omega
    have nc43 : (((c : Nat) : Int) == 43) = false := by simp; omega
    have nc45 : (((c : Nat) : Int) == 45) = false := by simp; omega
    have nc42 : (((c : Nat) : Int) == 42) = false := by simp; omega
    have nc47 : (((c : Nat) : Int) == 47) = false := by simp; omega
    have nc37 : (((c : Nat) : Int) == 37) = false := by simp; omega
    have z1 : decide ((c : Int) ≤ 122) = false := by simp; omega
    have z2 : decide ((c : Int) ≤ 90) = false := by simp; omega
    clear h
    go_enter Tryz.func142, Tryz.ntmps142
    go_wp2
    go_ret
    exact ⟨rfl, rfl⟩
end Go.Proofs.Qxb6500277aGreat
