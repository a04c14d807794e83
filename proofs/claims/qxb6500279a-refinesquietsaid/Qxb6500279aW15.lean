import Derived.Test.Qxb6500279aW14
import Derived.Deep.QuietTactic
import Derived.BigQuiet
namespace Go.Proofs.Qxb6500279a
open Go Go.RowKit

set_option maxRecDepth 100000 in
set_option maxHeartbeats 4000000 in
theorem width_any (t : Tok) (w : World) : Calls Try.prog 37 #[tokV t] w fun e w' => e = .returned (.int .i64 (widthT t)) ∧ Fr (fun _ => False) w w' := by
  unfold tokV widthT
  by_cases h1 : t.kind = 1
  · rw [if_pos h1, h1]
    go_enter Try.func37, Try.ntmps37
    go_wp2_with fail
    go_ret
    exact ⟨rfl, (Fr.refl _ _).alloc _⟩
  · by_cases h2 : t.kind = 2
    · rw [if_neg h1, if_pos h2, h2]
      clear h1
      go_enter Try.func37, Try.ntmps37
      go_wp2_with fail
      go_ret
      exact ⟨rfl, (Fr.refl _ _).alloc _⟩
    · rw [if_neg h1, if_neg h2]
      have t1 : (t.kind == 1) = false := by simpa using h1
      have t2 : (t.kind == 2) = false := by simpa using h2
      clear h1 h2
      go_enter Try.func37, Try.ntmps37
      go_wp2_with fail
      refine (tokText_any _ _).mono ?_
      rintro e w2 ⟨rfl, rfl⟩
      go_wp2_with fail
      go_ret
      exact ⟨rfl, (Fr.refl _ _).alloc _⟩

set_option maxRecDepth 100000 in
set_option maxHeartbeats 4000000 in
theorem sound_any (t : Tok) (h : SoundT t) (w : World) : Calls Try.prog 36 #[tokV t] w fun e w' => e = .returned (.bool true) ∧ Fr (fun _ => False) w w' := by
  obtain ⟨h0, h1, h2, h3, h4, h5⟩ := h
  unfold tokV
  have t0 : decide (t.kind < 0) = false := by simp; omega
  have t1 : decide ((40 : Int) ≤ t.kind) = false := by simp; omega
  have t2 : decide (t.pos < 0) = false := by simp; omega
  by_cases k1 : t.kind = 1
  · obtain ⟨g1, g2, g3, g4⟩ := h3 k1
    rw [k1, g1]
    have hb0 := bt_at t.text 0 (by omega)
    rw [hb0] at g4
    have Hg : Hid _ := g4
    have s1 : decide ((t.text.size : Int) < 1) = false := by simp; omega
    have s2 : decide ((8 : Int) < (t.text.size : Int)) = false := by simp; omega
    have s3 : (0 : Int) < t.text.size := by omega
    clear g4 hb0 h3 h4 h5 t0 t1 h0 h1 k1
    go_enter Try.func36, Try.ntmps36
    go_wp2_with fail
    refine (guess_any _ _ _).mono ?_
    rintro e w2 ⟨rfl, rfl⟩
    obtain ⟨k, hk⟩ : ∃ k, k = guessN t.text.size t.text[0].toNat := ⟨_, rfl⟩
    have t9 := strNe Hg.out
    rw [← hk] at t9 ⊢
    clear hk
    go_wp2_with fail
    go_quiet (exact Calls.quiet_of_same (tokText_any _ _))
    go_wp2_with fail
    go_ret
    exact ⟨rfl, ((Fr.refl _ _).alloc _).drewN _⟩
  · by_cases k2 : t.kind = 2
    · obtain ⟨g1, g2⟩ := h4 k2
      rw [k2, g2]
      have s1 : decide (0 ≤ t.val) = true := by simp; omega
      clear h3 h4 h5 t0 t1 h0 h1 k1 k2 g2
      go_enter Try.func36, Try.ntmps36
      go_wp2_with fail
      go_ret
      exact ⟨rfl, (Fr.refl _ _).alloc _⟩
    · obtain ⟨g1, g2⟩ := h5 k1 k2
      rw [g1, g2]
      have s1 : (t.kind == 1) = false := by simpa using k1
      have s2 : (t.kind == 2) = false := by simpa using k2
      clear h3 h4 h5 k1 k2 g1 g2
      go_enter Try.func36, Try.ntmps36
      go_wp2_with fail
      go_ret
      exact ⟨rfl, (Fr.refl _ _).alloc _⟩
end Go.Proofs.Qxb6500279a
