import Derived.Test.Qxb6500277aGreatW10
namespace Go.Proofs.Qxb6500277aGreat
open Go Go.RowKit

set_option maxRecDepth 100000 in
set_option maxHeartbeats 4000000 in
theorem letter_any (c : Nat) (w : World) : Calls Tryz.prog 167 #[.int .u8 c] w fun e w' => e = .returned (.bool (letterB c)) ∧ w' = w := by
  rcases (show (97 ≤ c ∧ c ≤ 122) ∨ (65 ≤ c ∧ c ≤ 90) ∨ c = 95 ∨ c < 65 ∨ (91 ≤ c ∧ c < 97 ∧ c ≠ 95) ∨ 123 ≤ c by omega) with ⟨h1, h2⟩ | ⟨h1, h2⟩ | rfl | h1 | ⟨h1, h2, h3⟩ | h1
  · rw [show letterB c = true by simp [letterB]; omega]
    go_enter Tryz.func167, Tryz.ntmps167
    go_wp2
    go_ret
    exact ⟨rfl, rfl⟩
  · rw [show letterB c = true by simp [letterB]; omega]
    go_enter Tryz.func167, Tryz.ntmps167
    go_wp2
    go_ret
    exact ⟨rfl, rfl⟩
  · go_enter Tryz.func167, Tryz.ntmps167
    go_wp2
    go_ret
    exact ⟨rfl, rfl⟩
  · rw [show letterB c = false by simp [letterB]; omega]
    have z3 : ((c : Int) == 95) = false := by simp; omega
    go_enter Tryz.func167, Tryz.ntmps167
    go_wp2
    go_ret
    exact ⟨rfl, rfl⟩
  · rw [show letterB c = false by simp [letterB]; omega]
    have z3 : ((c : Int) == 95) = false := by simp; omega
    clear h3
    go_enter Tryz.func167, Tryz.ntmps167
    go_wp2
    go_ret
    exact ⟨retB (by simp; omega), rfl⟩
  · rw [show letterB c = false by simp [letterB]; omega]
    have z1 : decide ((c : Int) ≤ 122) = false := by simp; omega
    have z2 : decide ((c : Int) ≤ 90) = false := by simp; omega
    have z3 : ((c : Int) == 95) = false := by simp; omega
    go_enter Tryz.func167, Tryz.ntmps167
    go_wp2
    go_ret
    exact ⟨rfl, rfl⟩
set_option maxRecDepth 100000 in
set_option maxHeartbeats 4000000 in
theorem digit_any (c : Nat) (w : World) : Calls Tryz.prog 168 #[.int .u8 c] w fun e w' => e = .returned (.bool (digitB c)) ∧ w' = w := by
  rcases (show (48 ≤ c ∧ c ≤ 57) ∨ c < 48 ∨ 58 ≤ c by omega) with ⟨h1, h2⟩ | h1 | h1
  · rw [show digitB c = true by simp [digitB]; omega]
    go_enter Tryz.func168, Tryz.ntmps168
    go_wp2
    go_ret
    exact ⟨retB (by simp; omega), rfl⟩
  · rw [show digitB c = false by simp [digitB]; omega]
    go_enter Tryz.func168, Tryz.ntmps168
    go_wp2
    go_ret
    exact ⟨rfl, rfl⟩
  · rw [show digitB c = false by simp [digitB]; omega]
    have z1 : decide ((c : Int) ≤ 57) = false := by simp; omega
    go_enter Tryz.func168, Tryz.ntmps168
    go_wp2
    go_ret
    exact ⟨rfl, rfl⟩

/-- n bytes from i on are of the kind p, and no more. -/
structure Run (p : Nat → Bool) (s : ByteArray) (i n : Nat) : Prop where
  le : i + n ≤ s.size
  all : ∀ j, i ≤ j → j < i + n → p (bt s j) = true
  stop : i + n = s.size ∨ p (bt s (i + n)) = false

set_option maxRecDepth 100000 in
set_option maxHeartbeats 4000000 in
theorem number_any (s : ByteArray) (i : Nat) (hi : i < s.size) (hsz : s.size ≤ 4096) (w : World) :
    Calls Tryz.prog 127 #[.string s, .int .i64 i] w fun e w' => (∃ n : Nat, e = .returned (.int .i64 n) ∧ Run digitB s i n) ∧ w' = w := by
  go_enter Tryz.func127, Tryz.ntmps127
  go_wp2_with fail
  go_loopg [5] (s.size + 1 - i) (fun g nv wr => ∃ n : Nat, nv = .int .i64 n ∧ i + n + g = s.size + 1 ∧ i + n ≤ s.size ∧ (∀ j, i ≤ j → j < i + n → digitB (bt s j) = true) ∧ wr = w)
  case atStart => exact ⟨0, rfl, by omega, by omega, fun j h1 h2 => by omega, rfl⟩
  case round =>
    obtain ⟨n, rfl, hg, hle, hall, rfl⟩ := hrel
    have Hall : Hid _ := hall
    have Hg : Hid _ := hg
    clear hall hg
    by_cases hlt : i + n < s.size
    · have Hbt : Hid _ := bt_at s (i + n) hlt
      have t1 : 0 ≤ (i : Int) + n := by omega
      have t2 : (i : Int) + n < s.size := by omega
      go_wp2_with fail
      rw [← Hbt.out]
      refine (digit_any _ _).mono ?_
      rintro e w2 ⟨rfl, rfl⟩
      cases hd : digitB (bt s (i + n)) with
      | true =>
        go_wp2_with fail
        go_roundg (gk - 1)
        case measure => have := Hg.out; omega
        case rel =>
          refine ⟨n + 1, by simp, by have := Hg.out; omega, by omega, fun j h1 h2 => ?_, rfl⟩
          rcases Nat.lt_or_ge j (i + n) with h | h
          · exact Hall.out j h1 h
          · rw [show j = i + n by omega]; exact hd
      | false =>
        go_wp2_with fail
        go_ret
        exact ⟨⟨n, rfl, hle, Hall.out, .inr hd⟩, rfl⟩
    · go_wp2_with fail
      go_ret
      exact ⟨⟨n, rfl, hle, Hall.out, .inl (by omega)⟩, rfl⟩
end Go.Proofs.Qxb6500277aGreat
