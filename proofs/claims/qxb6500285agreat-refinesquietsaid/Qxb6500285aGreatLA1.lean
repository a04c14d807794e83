/- The law: answers and instructions compared. -/
import Derived.Test.Qxb6500285aGreatE0
namespace Go.Proofs.Qxb6500285aGreat
open Go Go.RowKit

set_option maxRecDepth 100000 in
set_option maxHeartbeats 8000000 in
theorem sameFound_any (er q : Int) (ok : Bool) (c : Cp) (w : World) : Calls Tryz.prog 33 #[foundV er q ok c, foundV er q ok c] w fun e w' => e = .returned (.bool true) ∧ Fr (fun _ => False) w w' := by
  unfold foundV
  have F := ((Fr.refl (fun _ => False) w).alloc (.cells #[.int .i64 er, .int .i64 q, .bool ok, .int .i64 (c 0), .int .i64 (c 1), .int .i64 (c 2), .int .i64 (c 3), .int .i64 (c 4), .int .i64 (c 5), .int .i64 (c 6), .int .i64 (c 7)] 43)).alloc (.cells #[.int .i64 er, .int .i64 q, .bool ok, .int .i64 (c 0), .int .i64 (c 1), .int .i64 (c 2), .int .i64 (c 3), .int .i64 (c 4), .int .i64 (c 5), .int .i64 (c 6), .int .i64 (c 7)] 43)
  go_enter Tryz.func33, Tryz.ntmps33
  go_wp2_with fail
  refine wp_loop_rounds 9 ?_
  rw [rounds_succ]
  go_wp2_with fail
  refine wp_region_text (by kernel_rfl) (by kernel_rfl) ?_
  go_wp2_with fail
  refine ⟨by kernel_rfl, ?_⟩
  go_wp2_with fail
  rw [rounds_succ]
  go_wp2_with fail
  refine wp_region_text (by kernel_rfl) (by kernel_rfl) ?_
  go_wp2_with fail
  refine ⟨by kernel_rfl, ?_⟩
  go_wp2_with fail
  rw [rounds_succ]
  go_wp2_with fail
  refine wp_region_text (by kernel_rfl) (by kernel_rfl) ?_
  go_wp2_with fail
  refine ⟨by kernel_rfl, ?_⟩
  go_wp2_with fail
  rw [rounds_succ]
  go_wp2_with fail
  refine wp_region_text (by kernel_rfl) (by kernel_rfl) ?_
  go_wp2_with fail
  refine ⟨by kernel_rfl, ?_⟩
  go_wp2_with fail
  rw [rounds_succ]
  go_wp2_with fail
  refine wp_region_text (by kernel_rfl) (by kernel_rfl) ?_
  go_wp2_with fail
  refine ⟨by kernel_rfl, ?_⟩
  go_wp2_with fail
  rw [rounds_succ]
  go_wp2_with fail
  refine wp_region_text (by kernel_rfl) (by kernel_rfl) ?_
  go_wp2_with fail
  refine ⟨by kernel_rfl, ?_⟩
  go_wp2_with fail
  rw [rounds_succ]
  go_wp2_with fail
  refine wp_region_text (by kernel_rfl) (by kernel_rfl) ?_
  go_wp2_with fail
  refine ⟨by kernel_rfl, ?_⟩
  go_wp2_with fail
  rw [rounds_succ]
  go_wp2_with fail
  refine wp_region_text (by kernel_rfl) (by kernel_rfl) ?_
  go_wp2_with fail
  refine ⟨by kernel_rfl, ?_⟩
  go_wp2_with fail
  rw [rounds_succ]
  go_wp2_with fail
  go_ret
  exact ⟨rfl, F.drewN 8⟩
set_option maxRecDepth 100000 in
set_option maxHeartbeats 8000000 in
theorem sameInst_any (i : In) (w : World) : Calls Tryz.prog 61 #[inV i, inV i] w fun e w' => e = .returned (.bool true) ∧ Fr (fun _ => False) w w' := by
  unfold inV
  have F := ((Fr.refl (fun _ => False) w).alloc (.cells #[.int .i64 i.op, .int .i64 i.x, .int .i64 i.y, .int .u64 i.s0, .int .u64 i.s1, .int .u64 i.s2, .int .u64 i.s3] 122)).alloc (.cells #[.int .i64 i.op, .int .i64 i.x, .int .i64 i.y, .int .u64 i.s0, .int .u64 i.s1, .int .u64 i.s2, .int .u64 i.s3] 122)
  go_enter Tryz.func61, Tryz.ntmps61
  go_wp2_with fail
  refine wp_loop_rounds 5 ?_
  rw [rounds_succ]
  go_wp2_with fail
  refine wp_region_text (by kernel_rfl) (by kernel_rfl) ?_
  go_wp2_with fail
  refine ⟨by kernel_rfl, ?_⟩
  go_wp2_with fail
  rw [rounds_succ]
  go_wp2_with fail
  refine wp_region_text (by kernel_rfl) (by kernel_rfl) ?_
  go_wp2_with fail
  refine ⟨by kernel_rfl, ?_⟩
  go_wp2_with fail
  rw [rounds_succ]
  go_wp2_with fail
  refine wp_region_text (by kernel_rfl) (by kernel_rfl) ?_
  go_wp2_with fail
  refine ⟨by kernel_rfl, ?_⟩
  go_wp2_with fail
  rw [rounds_succ]
  go_wp2_with fail
  refine wp_region_text (by kernel_rfl) (by kernel_rfl) ?_
  go_wp2_with fail
  refine ⟨by kernel_rfl, ?_⟩
  go_wp2_with fail
  rw [rounds_succ]
  go_wp2_with fail
  go_ret
  exact ⟨rfl, F.drewN 4⟩
def stampIn : In := ⟨-7, -7, -7, 0, 0, 0, 0⟩
set_option maxHeartbeats 400000 in
theorem stamp_any (w : World) : Calls Tryz.prog 48 #[] w fun e w' => e = .returned (inV stampIn) ∧ Fr (fun _ => False) w w' := by
  go_enter Tryz.func48, Tryz.ntmps48
  go_wp2_with fail
  exact bodyPost_ret (v := inV stampIn) (by simp [results, Tryz.results48, go_sem, inV, stampIn]) rfl ⟨rfl, (Fr.refl _ _).alloc _⟩
set_option maxRecDepth 100000 in
set_option maxHeartbeats 4000000 in
theorem sameProg_any {w : World} {v1 v2 : Value} {ns : List In} (h1 : LVi w v1 ns) (h2 : LVi w v2 ns) (hl : ns.length ≤ 64) :
    Calls Tryz.prog 47 #[v1, v2] w fun e w' => e = .returned (.bool true) ∧ Fr (fun _ => False) w w' := by
  rcases h1 with ⟨rfl, rfl⟩ | ⟨b1, g1, rfl, ht1, hf1, hp⟩
  · rcases h2 with ⟨rfl, _⟩ | ⟨b2, g2, rfl, ht2, hf2, hp⟩
    · go_enter Tryz.func47, Tryz.ntmps47
      go_wp2_with fail
      refine wp_loop_rounds 1 ?_
      rw [rounds_succ]
      go_wp2_with fail
      go_ret
      exact ⟨rfl, Fr.refl _ _⟩
    · simp at hp
  · rcases h2 with ⟨_, rfl⟩ | ⟨b2, g2, rfl, ht2, hf2, hp2⟩
    · simp at hp
    go_enter Tryz.func47, Tryz.ntmps47
    go_wp2_with fail
    go_loopg [5] ns.length (fun g iv wr => ∃ i : Nat, iv = .int .i64 i ∧ i + g = ns.length ∧ Fr (fun _ => False) w wr)
    case atStart => exact ⟨0, rfl, by omega, Fr.refl _ _⟩
    case round =>
      obtain ⟨i, rfl, hg, hfr⟩ := hrel
      have hg' : i + gk = ns.length := hg
      clear hg
      by_cases hlt : i < ns.length
      · have k1 := hf1.at (ht1.frame hfr (by simp)) (Nat.le_refl _)
        have k2 := hf2.at (ht2.frame hfr (by simp)) (Nat.le_refl _)
        have a0 := k1 i hlt 0 (by omega)
        have c0 := k2 i hlt 0 (by omega)
        have a1 := k1 i hlt 1 (by omega)
        have c1 := k2 i hlt 1 (by omega)
        have a2 := k1 i hlt 2 (by omega)
        have c2 := k2 i hlt 2 (by omega)
        have a3 := k1 i hlt 3 (by omega)
        have c3 := k2 i hlt 3 (by omega)
        have a4 := k1 i hlt 4 (by omega)
        have c4 := k2 i hlt 4 (by omega)
        have a5 := k1 i hlt 5 (by omega)
        have c5 := k2 i hlt 5 (by omega)
        have a6 := k1 i hlt 6 (by omega)
        have c6 := k2 i hlt 6 (by omega)
        simp only [inCell, Nat.add_zero] at a0 c0 a1 c1 a2 c2 a3 c3 a4 c4 a5 c5 a6 c6
        go_wp2_with fail
        refine wp_region_text (by kernel_rfl) (by kernel_rfl) ?_
        go_wp2_with fail
        refine (sameInst_any ns[i] _).mono ?_
        rintro e w3 ⟨rfl, f3⟩
        go_wp2_with fail
        refine ⟨by kernel_rfl, ?_⟩
        go_wp2_with fail
        go_roundg (gk - 1)
        case measure => omega
        case rel => exact ⟨i + 1, by simp, by omega, hfr.drew.trans f3 (fun _ _ h => h)⟩
      · go_wp2_with fail
        go_ret
        exact ⟨rfl, hfr⟩
end Go.Proofs.Qxb6500285aGreat
