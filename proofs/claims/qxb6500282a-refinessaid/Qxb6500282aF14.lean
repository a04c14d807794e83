import Derived.Test.Qxb6500282aF13
namespace Go.Proofs.Qxb6500282a
open Go Go.RowKit

set_option maxRecDepth 100000 in
set_option maxHeartbeats 8000000 in
theorem cellFine_any {w : World} {x : Nat} {kv : Value} {K : List In} {s : DS} (h : DInv w x kv K s) (cell : Nat) (hcell : cell < 6) : Calls Try.prog 26 #[.pointer (some ⟨x, 0, none⟩), .int .i64 cell] w fun e w' => e = .returned (.bool true) ∧ Fr (fun _ => False) w w' := by
  have hxl := h.mach.main.lt
  have hnl := h.mach.nx.lt
  have c10 : w.cell? ⟨x, 10, none⟩ = some (.int .i64 s.used) := h.mach.main.cell (by omega)
  have hu := h.inv.used
  -- the second loop, for a world that the first part has left
  by_cases hin : cell < s.used
  · obtain ⟨kb, cap, hk⟩ : ∃ kb cap, Kept w x kv kb cap K := by
      rcases h.kv with ⟨_, e⟩ | h'
      · have := h.no e; omega
      · exact h'
    have ck := h.mach.key cell hcell
    have hgd := h.inv.good cell hin
    go_enter Try.func26, Try.ntmps26
    go_wp2_with fail
    refine (closed_any h.mach hk _ hgd).mono ?_
    rintro e w2 ⟨rfl, f2⟩
    go_wp2_with fail
    go_loopg [6] cell (fun g ov wr => ∃ o : Nat, ov = .int .i64 o ∧ o + g = cell ∧ Fr (fun _ => False) w wr)
    case atStart => exact ⟨0, rfl, by omega, f2⟩
    case round =>
      obtain ⟨o, rfl, hg, hfr⟩ := hrel
      have hg' : o + gk = cell := hg
      have hM := h.mach.frame hfr (fun _ _ h => h)
      have dk := hM.key cell hcell
      clear hg
      by_cases hlt : o < cell
      · have do' := hM.key o (by omega)
        have hne : s.keys o ≠ s.keys cell := fun e => by have := h.inv.kd o cell (by omega) hin e; omega
        have t1 : ((s.keys o : Int) == (s.keys cell : Int)) = false := by simp; omega
        have t1' : (s.keys o == s.keys cell) = false := by simpa using hne
        clear hne
        go_wp2_with fail
        refine wp_region_text (by kernel_rfl) (by kernel_rfl) ?_
        go_wp2_with fail
        refine ⟨by kernel_rfl, ?_⟩
        go_wp2_with fail
        go_roundg (gk - 1)
        case measure => omega
        case rel => exact ⟨o + 1, by simp, by omega, hfr.drew⟩
      · go_wp2_with fail
        go_loopg [7] 256 (fun g cv wr2 => ∃ c : Nat, cv = .int .i64 c ∧ c + g = 256 ∧ Fr (fun _ => False) w wr2)
        case atStart => exact ⟨0, rfl, by omega, hfr⟩
        case round =>
          clear hfr hM dk
          obtain ⟨c, rfl, hg2, hfr⟩ := hrel
          have hg3 : c + gk = 256 := hg2
          have hM := h.mach.frame hfr (fun _ _ h => h)
          have d10 : wr.cell? ⟨x, 10, none⟩ = some (.int .i64 s.used) := hM.main.cell (by omega)
          have d11 : wr.cell? ⟨x, 11, none⟩ = some (.slice (some ⟨x + 1, 0, none⟩) 1536 1536) := hM.main.cell (by omega)
          clear hg2
          by_cases hc : c < 256
          · have hat : cell * 256 + c < 1536 := by omega
            have hat2 : (cell : Int) * 256 + c < 1536 := by omega
            have n0 : wr.cell? ⟨x + 1, cell * 256 + c, none⟩ = some (.int .i64 (s.next (cell * 256 + c))) := hM.nx.cell hat
            obtain ⟨q1, q2⟩ := h.inv.nlo (cell * 256 + c) hat
            obtain ⟨N, hN⟩ : ∃ N, N = s.next (cell * 256 + c) := ⟨_, rfl⟩
            rw [← hN] at n0 q1 q2
            have t1 : decide (N < -1) = false := by simp; omega
            have t2 : decide ((s.used : Int) ≤ N) = false := by simp; omega
            clear hN
            go_wp2_with fail
            go_roundg (gk - 1)
            case measure => omega
            case rel => exact ⟨c + 1, by simp, by omega, hfr⟩
          · go_wp2_with fail
            go_ret
            exact ⟨rfl, hfr⟩
  · have ck : w.cell? ⟨x, 4 + cell, none⟩ = some (.int .u64 0) := by rw [h.mach.key cell hcell, h.inv.kz cell (by omega) hcell]; rfl
    have tin : decide ((cell : Int) < (s.used : Int)) = false := by simp; omega
    have tin' : decide (cell < s.used) = false := by simp; omega
    go_enter Try.func26, Try.ntmps26
    go_wp2_with fail
    go_loopg [7] 256 (fun g cv wr2 => ∃ c : Nat, cv = .int .i64 c ∧ c + g = 256 ∧ Fr (fun _ => False) w wr2)
    case atStart => exact ⟨0, rfl, by omega, Fr.refl _ _⟩
    case round =>
      obtain ⟨c, rfl, hg2, hfr⟩ := hrel
      have hg3 : c + gk = 256 := hg2
      have hM := h.mach.frame hfr (fun _ _ h => h)
      have d10 : wr.cell? ⟨x, 10, none⟩ = some (.int .i64 s.used) := hM.main.cell (by omega)
      have d11 : wr.cell? ⟨x, 11, none⟩ = some (.slice (some ⟨x + 1, 0, none⟩) 1536 1536) := hM.main.cell (by omega)
      clear hg2
      by_cases hc : c < 256
      · have hat : cell * 256 + c < 1536 := by omega
        have hat2 : (cell : Int) * 256 + c < 1536 := by omega
        have n0 : wr.cell? ⟨x + 1, cell * 256 + c, none⟩ = some (.int .i64 (-1)) := by rw [hM.nx.cell hat, ints, h.inv.nz cell c (by omega) hcell hc]
        have t2 : decide ((s.used : Int) ≤ -1) = false := by simp; omega
        go_wp2_with fail
        go_roundg (gk - 1)
        case measure => omega
        case rel => exact ⟨c + 1, by simp, by omega, hfr⟩
      · go_wp2_with fail
        go_ret
        exact ⟨rfl, hfr⟩
theorem DInv.frame {w w' : World} {x : Nat} {kv : Value} {K : List In} {s : DS} (h : DInv w x kv K s) (k : Fr (fun _ => False) w w') : DInv w' x kv K s :=
  ⟨h.mach.frame k (fun _ _ h => h), h.kv.frame k (fun _ _ _ _ h => h), h.inv, h.bu, h.wk, h.no⟩
set_option maxRecDepth 100000 in
set_option maxHeartbeats 4000000 in
theorem check_any {w : World} {x : Nat} {kv : Value} {K : List In} {s : DS} (h : DInv w x kv K s) : Calls Try.prog 11 #[.pointer (some ⟨x, 0, none⟩)] w fun e w' => e = .returned (.bool true) ∧ Fr (fun _ => False) w w' := by
  go_enter Try.func11, Try.ntmps11
  go_wp2_with fail
  refine (shaped_any h).mono ?_
  rintro e w2 ⟨rfl, f2⟩
  go_wp2_with fail
  refine (masked_any (h.frame f2)).mono ?_
  rintro e w3 ⟨rfl, rfl⟩
  go_wp2_with fail
  go_loopg [3] 6 (fun g cv wr => ∃ c : Nat, cv = .int .i64 c ∧ c + g = 6 ∧ Fr (fun _ => False) w wr)
  case atStart => exact ⟨0, rfl, by omega, f2⟩
  case round =>
    obtain ⟨c, rfl, hg, hfr⟩ := hrel
    have hg' : c + gk = 6 := hg
    clear hg
    by_cases hlt : c < 6
    · go_wp2_with fail
      refine (cellFine_any (h.frame hfr) c hlt).mono ?_
      rintro e w4 ⟨rfl, f4⟩
      go_wp2_with fail
      go_roundg (gk - 1)
      case measure => omega
      case rel => exact ⟨c + 1, by simp, by omega, hfr.trans f4 (fun _ _ h => h)⟩
    · go_wp2_with fail
      go_ret
      exact ⟨rfl, hfr⟩
set_option maxHeartbeats 400000 in
theorem states_any {w : World} {x : Nat} {kv : Value} {s : DS} (h : Mach w x kv s) : Calls Try.prog 27 #[.pointer (some ⟨x, 0, none⟩)] w fun e w' => e = .returned (.int .i64 s.used) ∧ w' = w := by
  have c : w.cell? ⟨x, 10, none⟩ = some (.int .i64 s.used) := h.main.cell (by omega)
  go_enter Try.func27, Try.ntmps27
  go_wp2
  go_ret
  exact ⟨rfl, rfl⟩
set_option maxHeartbeats 400000 in
theorem built_any {w : World} {x : Nat} {kv : Value} {s : DS} (h : Mach w x kv s) : Calls Try.prog 28 #[.pointer (some ⟨x, 0, none⟩)] w fun e w' => e = .returned (.int .i64 s.built) ∧ w' = w := by
  have c : w.cell? ⟨x, 13, none⟩ = some (.int .i64 s.built) := h.main.cell (by omega)
  go_enter Try.func28, Try.ntmps28
  go_wp2
  go_ret
  exact ⟨rfl, rfl⟩
set_option maxHeartbeats 400000 in
theorem flushes_any {w : World} {x : Nat} {kv : Value} {s : DS} (h : Mach w x kv s) : Calls Try.prog 29 #[.pointer (some ⟨x, 0, none⟩)] w fun e w' => e = .returned (.int .i64 s.flushes) ∧ w' = w := by
  have c : w.cell? ⟨x, 14, none⟩ = some (.int .i64 s.flushes) := h.main.cell (by omega)
  go_enter Try.func29, Try.ntmps29
  go_wp2
  go_ret
  exact ⟨rfl, rfl⟩
set_option maxHeartbeats 400000 in
theorem worked_any {w : World} {x : Nat} {kv : Value} {s : DS} (h : Mach w x kv s) : Calls Try.prog 30 #[.pointer (some ⟨x, 0, none⟩)] w fun e w' => e = .returned (.int .i64 s.worked) ∧ w' = w := by
  have c : w.cell? ⟨x, 15, none⟩ = some (.int .i64 s.worked) := h.main.cell (by omega)
  go_enter Try.func30, Try.ntmps30
  go_wp2
  go_ret
  exact ⟨rfl, rfl⟩
end Go.Proofs.Qxb6500282a
