import Derived.Test.Qxb6500284aWSearch
namespace Go.Proofs.Qxb6500284a
open Go Go.RowKit

set_option maxRecDepth 100000 in
set_option maxHeartbeats 1000000 in
theorem listFine_any {w : World} {x : Nat} {s : PS} (h : PRep w x s) (W : Nat) (hW : W < 2) (hl : LInv s.f W 64) :
    Calls Try.prog 17 #[.pointer (some ⟨x, 0, none⟩), .int .i64 W] w fun e w' => e = .returned (.bool true) ∧ w' = w := by
  have n0 := hl.n0
  have n1 := hl.n1
  obtain ⟨n, hn⟩ := Int.eq_ofNat_of_zero_le n0
  have hn64 : n ≤ 64 := by omega
  have c1 : w.cell? ⟨x, W * 130 + 128, none⟩ = some (.int .i64 n) := by rw [← hn]; exact h.int (by omega) (by unfold intCell; omega)
  have c2 : w.cell? ⟨x, W * 130 + 129, none⟩ = some (.slice (some ⟨x + 1 + W, 0, none⟩) 512 512) := h.capsCell hW
  have t1 : decide ((64 : Int) < (n : Int)) = false := by simp; omega
  have t2 : decide ((n : Int) < 0) = false := by simp
  have Hn : Hid _ := hn
  clear n0 n1 hn
  go_enter Try.func17, Try.ntmps17
  go_wp2_with fail
  go_loop [5] (fun v => ∃ k : Nat, v = .int .i64 k ∧ k ≤ 64) (fun v => 64 - (intOf v).toNat)
  case atStart => exact ⟨0, rfl, by omega⟩
  case round =>
    obtain ⟨k, rfl, hk⟩ := hrel
    by_cases hlt : k < 64
    · have hs := hl.sp k hlt
      have d1 : w.cell? ⟨x, W * 130 + 64 + k, none⟩ = some (.int .i64 (s.f (W * 130 + 64 + k))) := h.int (by omega) (by unfold intCell; omega)
      generalize s.f (W * 130 + 64 + k) = q at hs d1
      obtain ⟨q1, q2⟩ := hs
      go_wp2_with fail
      go_round
      case rel => exact ⟨k + 1, by simp, by omega⟩
      case measure => simp [intOf]; omega
    · go_wp2_with fail
      go_loop [6] (fun v => ∃ k : Nat, v = .int .i64 k ∧ k ≤ n) (fun v => n - (intOf v).toNat)
      case atStart => exact ⟨0, rfl, by omega⟩
      case round =>
        obtain ⟨k2, rfl, hk2⟩ := hrel
        by_cases hlt2 : k2 < n
        · have hd := hl.ds k2 (by rw [Hn.out]; omega)
          have d1 : w.cell? ⟨x, W * 130 + k2, none⟩ = some (.int .i64 (s.f (W * 130 + k2))) := h.int (by omega) (by unfold intCell; omega)
          obtain ⟨q, hq⟩ := Int.eq_ofNat_of_zero_le hd.1
          rw [hq] at hd d1
          simp only [Int.toNat_natCast] at hd
          have q64 : q < 64 := by omega
          have d2 : w.cell? ⟨x, W * 130 + 64 + q, none⟩ = some (.int .i64 k2) := by rw [← hd.2.2]; exact h.int (by omega) (by unfold intCell; omega)
          clear hd hq
          go_wp2_with fail
          go_round
          case rel => exact ⟨k2 + 1, by simp, by omega⟩
          case measure => simp [intOf]; omega
        · go_wp2_with fail
          go_ret
          exact ⟨rfl, rfl⟩

set_option maxRecDepth 100000 in
set_option maxHeartbeats 1000000 in
theorem check_any {w : World} {x : Nat} {s : PS} (h : PRep w x s) (hC : CInv s) :
    Calls Try.prog 12 #[.pointer (some ⟨x, 0, none⟩)] w fun e w' => e = .returned (.bool true) ∧ w' = w := by
  have c1 : w.cell? ⟨x, 261, none⟩ = some (.int .i64 0) := by rw [← hC.sp]; exact h.int (by omega) (by unfold intCell; omega)
  have c2 : w.cell? ⟨x, 265, none⟩ = some (.int .i64 (s.f 265)) := h.int (by omega) (by unfold intCell; omega)
  have c3 : w.cell? ⟨x, 260, none⟩ = some (.slice (some ⟨x + 3, 0, none⟩) 65 65) := h.main.cell (by omega)
  have c4 : w.cell? ⟨x, 262, none⟩ = some (.slice (some ⟨x + 4, 0, none⟩) 8 8) := h.main.cell (by omega)
  have c5 : w.cell? ⟨x, 263, none⟩ = some (.slice (some ⟨x + 5, 0, none⟩) 8 8) := h.main.cell (by omega)
  have c6 : w.cell? ⟨x, 264, none⟩ = some (.slice (some ⟨x + 6, 0, none⟩) 8 8) := h.main.cell (by omega)
  have hs := hC.st
  generalize s.f 265 = t at c2 hs
  have t1 : decide (t < 0) = false := by simp; omega
  go_enter Try.func12, Try.ntmps12
  go_wp2_with fail
  refine (listFine_any h 0 (by omega) hC.l0).mono ?_
  rintro e w1 ⟨rfl, rfl⟩
  go_wp2_with fail
  refine (listFine_any h 1 (by omega) hC.l1).mono ?_
  rintro e w1 ⟨rfl, rfl⟩
  go_wp2_with fail
  go_loop [4] (fun v => ∃ k : Nat, v = .int .i64 k ∧ k ≤ 8) (fun v => 8 - (intOf v).toNat)
  case atStart => exact ⟨0, rfl, by omega⟩
  case round =>
    obtain ⟨k, rfl, hk⟩ := hrel
    by_cases hlt : k < 8
    · have d1 : w1.cell? ⟨x + 6, k, none⟩ = some (.int .i64 (-1)) := h.no.cell hlt
      go_wp2_with fail
      go_round
      case rel => exact ⟨k + 1, by simp, by omega⟩
      case measure => simp [intOf]; omega
    · go_wp2_with fail
      go_ret
      exact ⟨rfl, rfl⟩
end Go.Proofs.Qxb6500284a
