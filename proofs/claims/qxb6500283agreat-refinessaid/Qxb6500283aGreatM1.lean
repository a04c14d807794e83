/- The model's lid, shape. -/
import Derived.Test.Qxb6500283aGreatW12
namespace Go.Proofs.Qxb6500283aGreat
open Go Go.RowKit

set_option maxRecDepth 100000 in
set_option maxHeartbeats 4000000 in
theorem lidM_any (n : Nat) (w : World) : Calls Tryz.prog 134 #[.int .i64 (n : Nat)] w fun v w' => v = .returned (.int .i64 (lidN n : Nat)) ∧ w' = w := by
  go_enter Tryz.func134, Tryz.ntmps134
  by_cases h : 31 < n
  · have hd : decide ((31 : Int) < (n : Nat)) = true := decide_eq_true (by omega)
    rw [show lidN n = 32 by unfold lidN; rw [if_pos h]]
    go_wp2_with fail
    go_ret
    exact ⟨rfl, rfl⟩
  · have hd : decide ((31 : Int) < (n : Nat)) = false := decide_eq_false (by omega)
    rw [show lidN n = n by unfold lidN; rw [if_neg h]]
    go_wp2_with fail
    go_ret
    exact ⟨rfl, rfl⟩
theorem three {n : Nat} (h : n ≤ 2) : n = 0 ∨ n = 1 ∨ n = 2 := by omega
/-- What shape answers. -/
def ShC (ns : List Nd) (bk cp : Nat) (y g : Int) (k v : Nat) : Prop := ∀ w : World, NPAt w bk ns → Calls Tryz.prog 102 #[.agg #[.slice (some ⟨bk, 0, none⟩) ns.length cp, .int .i64 y, .int .i64 g, .int .i64 0, .int .i64 0], .int .i64 (k : Nat)] w fun e w' => e = .returned (.int .i64 (v : Nat)) ∧ Fr (fun _ => False) w w'
set_option maxRecDepth 100000 in
set_option maxHeartbeats 16000000 in
theorem shape_any {ns : List Nd} (hwf : WF ns) (hrb : ∀ k (h : k < ns.length), RB ns[k]) (bk cp : Nat) (y g : Int) : ∀ k, k < ns.length → ShC ns bk cp y g k (zz ns k).1 := by
  intro k
  induction k using Nat.strongRecOn with
  | ind k ih =>
    intro hk w hN
    have hbl : bk < w.heap.size := by
      have h1 := hN k hk 0 (by omega)
      exact World.block_lt_of_cell? w _ h1
    have hok := hwf k hk
    have hzk := zz_eq hwf k hk
    have n0 := hN k hk 0 (by omega)
    have n1 := hN k hk 1 (by omega)
    have n2 := hN k hk 2 (by omega)
    have n3 := hN k hk 3 (by omega)
    have n4 := hN k hk 4 (by omega)
    have n5 := hN k hk 5 (by omega)
    have n6 := hN k hk 6 (by omega)
    have n7 := hN k hk 7 (by omega)
    have n8 := hN k hk 8 (by omega)
    have n9 := hN k hk 9 (by omega)
    have n10 := hN k hk 10 (by omega)
    simp only [ndCell, Nat.add_zero] at n0 n1 n2 n3 n4 n5 n6 n7 n8 n9 n10
    generalize ns[k] = nd at *
    obtain ⟨kind, a, b, mn, mx, cap, lz, st⟩ := nd
    simp only at hok hzk n0 n1 n2 n3 n4 n5 n6 n7 n8 n9 n10
    have hk24 : (k : Int) < ns.length := by omega
    rcases hok with ⟨hkd, ha, hb'⟩ | ⟨hkd, h1, h2, h3, h4⟩ | ⟨hkd, h1, h2, hb'⟩
    · simp only at hkd ha hb'
      subst ha hb'
      rcases hkd with rfl | rfl | rfl | rfl
      · have hv : (zz ns k).1 = 0 := by rw [hzk]; simp [zNd]
        rw [hv]
        clear hzk hv
        have F0 := ((Fr.refl (fun _ => False) w).alloc (.cells #[.slice (some ⟨bk, 0, none⟩) ns.length cp, .int .i64 y, .int .i64 g, .int .i64 0, .int .i64 0] 148)).alloc (.cells #[.int .i64 0, .int .i64 (-1), .int .i64 (-1), .int .i64 mn, .int .i64 mx, .int .i64 cap, .bool lz, .int .u64 (wd st 0 : Nat), .int .u64 (wd st 1 : Nat), .int .u64 (wd st 2 : Nat), .int .u64 (wd st 3 : Nat)] 97)
        go_enter Tryz.func102, Tryz.ntmps102
        go_wp2_with fail
        go_ret
        exact ⟨rfl, F0⟩
      · have e2 := fun w => run_equalZero 9998 (wd st 0 : Nat) (wd st 1 : Nat) (wd st 2 : Nat) (wd st 3 : Nat) w
        have eg := eqg68
        have F0 := ((Fr.refl (fun _ => False) w).alloc (.cells #[.slice (some ⟨bk, 0, none⟩) ns.length cp, .int .i64 y, .int .i64 g, .int .i64 0, .int .i64 0] 148)).alloc (.cells #[.int .i64 1, .int .i64 (-1), .int .i64 (-1), .int .i64 mn, .int .i64 mx, .int .i64 cap, .bool lz, .int .u64 (wd st 0 : Nat), .int .u64 (wd st 1 : Nat), .int .u64 (wd st 2 : Nat), .int .u64 (wd st 3 : Nat)] 97)
        cases hse : setE st with
        | true =>
          have hv : (zz ns k).1 = 1 := by rw [hzk]; simp [zNd, hse]
          rw [hv]
          have hse' : (decide (((wd st 0 : Nat) : Int) = 0) && decide (((wd st 1 : Nat) : Int) = 0) && decide (((wd st 2 : Nat) : Int) = 0) && decide (((wd st 3 : Nat) : Int) = 0)) = true := by
            unfold setE at hse
            simpa using hse
          simp only [hse'] at e2
          clear hzk hv hse hse'
          go_enter Tryz.func102, Tryz.ntmps102
          go_wp2_with fail
          go_ret
          exact ⟨rfl, F0⟩
        | false =>
          have hv : (zz ns k).1 = 2 := by rw [hzk]; simp [zNd, hse]
          rw [hv]
          have hse' : (decide (((wd st 0 : Nat) : Int) = 0) && decide (((wd st 1 : Nat) : Int) = 0) && decide (((wd st 2 : Nat) : Int) = 0) && decide (((wd st 3 : Nat) : Int) = 0)) = false := by
            unfold setE at hse
            simpa using hse
          simp only [hse'] at e2
          clear hzk hv hse hse'
          go_enter Tryz.func102, Tryz.ntmps102
          go_wp2_with fail
          go_ret
          exact ⟨rfl, F0⟩
      · have hv : (zz ns k).1 = 2 := by rw [hzk]; simp [zNd]
        rw [hv]
        clear hzk hv
        have F0 := ((Fr.refl (fun _ => False) w).alloc (.cells #[.slice (some ⟨bk, 0, none⟩) ns.length cp, .int .i64 y, .int .i64 g, .int .i64 0, .int .i64 0] 148)).alloc (.cells #[.int .i64 2, .int .i64 (-1), .int .i64 (-1), .int .i64 mn, .int .i64 mx, .int .i64 cap, .bool lz, .int .u64 (wd st 0 : Nat), .int .u64 (wd st 1 : Nat), .int .u64 (wd st 2 : Nat), .int .u64 (wd st 3 : Nat)] 97)
        go_enter Tryz.func102, Tryz.ntmps102
        go_wp2_with fail
        go_ret
        exact ⟨rfl, F0⟩
      · have hv : (zz ns k).1 = 2 := by rw [hzk]; simp [zNd]
        rw [hv]
        clear hzk hv
        have F0 := ((Fr.refl (fun _ => False) w).alloc (.cells #[.slice (some ⟨bk, 0, none⟩) ns.length cp, .int .i64 y, .int .i64 g, .int .i64 0, .int .i64 0] 148)).alloc (.cells #[.int .i64 3, .int .i64 (-1), .int .i64 (-1), .int .i64 mn, .int .i64 mx, .int .i64 cap, .bool lz, .int .u64 (wd st 0 : Nat), .int .u64 (wd st 1 : Nat), .int .u64 (wd st 2 : Nat), .int .u64 (wd st 3 : Nat)] 97)
        go_enter Tryz.func102, Tryz.ntmps102
        go_wp2_with fail
        go_ret
        exact ⟨rfl, F0⟩
    · simp only at hkd h1 h2 h3 h4
      obtain ⟨A, rfl⟩ : ∃ A : Nat, a = A := ⟨a.toNat, by omega⟩
      obtain ⟨B, rfl⟩ : ∃ B : Nat, b = B := ⟨b.toNat, by omega⟩
      have hA : A < k := by omega
      have hB : B < k := by omega
      have ihA := ih A hA (by omega)
      have ihB := ih B hB (by omega)
      have sA := (core_main hwf hrb A (by omega)).ok.sh
      have sB := (core_main hwf hrb B (by omega)).ok.sh
      have e4 : zNd (zL ns) ⟨4, A, B, mn, mx, cap, lz, st⟩ = catZ (zz ns A) (zz ns B) := rfl
      have e5 : zNd (zL ns) ⟨5, A, B, mn, mx, cap, lz, st⟩ = altZ (zz ns A) (zz ns B) := rfl
      clear ih
      rcases hkd with rfl | rfl
      · rw [e4] at hzk
        have F0 := ((Fr.refl (fun _ => False) w).alloc (.cells #[.slice (some ⟨bk, 0, none⟩) ns.length cp, .int .i64 y, .int .i64 g, .int .i64 0, .int .i64 0] 148)).alloc (.cells #[.int .i64 4, .int .i64 (A : Nat), .int .i64 (B : Nat), .int .i64 mn, .int .i64 mx, .int .i64 cap, .bool lz, .int .u64 (wd st 0 : Nat), .int .u64 (wd st 1 : Nat), .int .u64 (wd st 2 : Nat), .int .u64 (wd st 3 : Nat)] 97)
        rcases three sA with xa | xa | xa <;> rcases three sB with xb | xb | xb <;> rw [xa] at ihA <;> rw [xb] at ihB
        · have hv : (zz ns k).1 = 0 := by rw [hzk]; simp [catZ, xa, xb]
          rw [hv]
          clear hzk hv xa xb e4 e5 sA sB
          go_enter Tryz.func102, Tryz.ntmps102
          go_wp2_with fail
          refine (ihA _ (hN.frame F0 (fun h => h))).mono ?_
          rintro e w1 ⟨rfl, f1⟩
          have F1 := F0.trans f1 (fun _ _ h => h)
          have hN1 := hN.frame F1 (fun h => h)
          have ht1 := ((Blk.tr5 w (.slice (some ⟨bk, 0, none⟩) ns.length cp) (.int .i64 y) (.int .i64 g) (.int .i64 0) (.int .i64 0)).alloc (.cells #[.int .i64 4, .int .i64 (A : Nat), .int .i64 (B : Nat), .int .i64 mn, .int .i64 mx, .int .i64 cap, .bool lz, .int .u64 (wd st 0 : Nat), .int .u64 (wd st 1 : Nat), .int .u64 (wd st 2 : Nat), .int .u64 (wd st 3 : Nat)] 97)).frame f1 (by simp)
          have hn0 := Blk.nd (w.alloc (.cells #[.slice (some ⟨bk, 0, none⟩) ns.length cp, .int .i64 y, .int .i64 g, .int .i64 0, .int .i64 0] 148)) ⟨4, (A : Nat), (B : Nat), mn, mx, cap, lz, st⟩
          rw [World.size_alloc] at hn0
          have hn1 := hn0.frame f1 (by simp)
          have r0 : w1.cell? ⟨w.heap.size, 0, none⟩ = some (.slice (some ⟨bk, 0, none⟩) ns.length cp) := ht1.cell (by omega)
          have r1 : w1.cell? ⟨w.heap.size, 1, none⟩ = some (.int .i64 y) := ht1.cell (by omega)
          have r2 : w1.cell? ⟨w.heap.size, 2, none⟩ = some (.int .i64 g) := ht1.cell (by omega)
          have r3 : w1.cell? ⟨w.heap.size, 3, none⟩ = some (.int .i64 0) := ht1.cell (by omega)
          have r4 : w1.cell? ⟨w.heap.size, 4, none⟩ = some (.int .i64 0) := ht1.cell (by omega)
          have q2 : w1.cell? ⟨w.heap.size + 1, 2, none⟩ = some (.int .i64 (B : Nat)) := hn1.cell (by omega)
          have q3 : w1.cell? ⟨w.heap.size + 1, 3, none⟩ = some (.int .i64 mn) := hn1.cell (by omega)
          have q4 : w1.cell? ⟨w.heap.size + 1, 4, none⟩ = some (.int .i64 mx) := hn1.cell (by omega)
          go_wp2_with fail
          refine (ihB _ hN1).mono ?_
          rintro e w2 ⟨rfl, f2⟩
          have F2 := F1.trans f2 (fun _ _ h => h)
          go_wp2_with fail
          go_ret
          exact ⟨rfl, F2⟩
        · have hv : (zz ns k).1 = 1 := by rw [hzk]; simp [catZ, xa, xb]
          rw [hv]
          clear hzk hv xa xb e4 e5 sA sB
          go_enter Tryz.func102, Tryz.ntmps102
          go_wp2_with fail
          refine (ihA _ (hN.frame F0 (fun h => h))).mono ?_
          rintro e w1 ⟨rfl, f1⟩
          have F1 := F0.trans f1 (fun _ _ h => h)
          have hN1 := hN.frame F1 (fun h => h)
          have ht1 := ((Blk.tr5 w (.slice (some ⟨bk, 0, none⟩) ns.length cp) (.int .i64 y) (.int .i64 g) (.int .i64 0) (.int .i64 0)).alloc (.cells #[.int .i64 4, .int .i64 (A : Nat), .int .i64 (B : Nat), .int .i64 mn, .int .i64 mx, .int .i64 cap, .bool lz, .int .u64 (wd st 0 : Nat), .int .u64 (wd st 1 : Nat), .int .u64 (wd st 2 : Nat), .int .u64 (wd st 3 : Nat)] 97)).frame f1 (by simp)
          have hn0 := Blk.nd (w.alloc (.cells #[.slice (some ⟨bk, 0, none⟩) ns.length cp, .int .i64 y, .int .i64 g, .int .i64 0, .int .i64 0] 148)) ⟨4, (A : Nat), (B : Nat), mn, mx, cap, lz, st⟩
          rw [World.size_alloc] at hn0
          have hn1 := hn0.frame f1 (by simp)
          have r0 : w1.cell? ⟨w.heap.size, 0, none⟩ = some (.slice (some ⟨bk, 0, none⟩) ns.length cp) := ht1.cell (by omega)
          have r1 : w1.cell? ⟨w.heap.size, 1, none⟩ = some (.int .i64 y) := ht1.cell (by omega)
          have r2 : w1.cell? ⟨w.heap.size, 2, none⟩ = some (.int .i64 g) := ht1.cell (by omega)
          have r3 : w1.cell? ⟨w.heap.size, 3, none⟩ = some (.int .i64 0) := ht1.cell (by omega)
          have r4 : w1.cell? ⟨w.heap.size, 4, none⟩ = some (.int .i64 0) := ht1.cell (by omega)
          have q2 : w1.cell? ⟨w.heap.size + 1, 2, none⟩ = some (.int .i64 (B : Nat)) := hn1.cell (by omega)
          have q3 : w1.cell? ⟨w.heap.size + 1, 3, none⟩ = some (.int .i64 mn) := hn1.cell (by omega)
          have q4 : w1.cell? ⟨w.heap.size + 1, 4, none⟩ = some (.int .i64 mx) := hn1.cell (by omega)
          go_wp2_with fail
          refine (ihB _ hN1).mono ?_
          rintro e w2 ⟨rfl, f2⟩
          have F2 := F1.trans f2 (fun _ _ h => h)
          go_wp2_with fail
          go_ret
          exact ⟨rfl, F2⟩
        · have hv : (zz ns k).1 = 2 := by rw [hzk]; simp [catZ, xa, xb]
          rw [hv]
          clear hzk hv xa xb e4 e5 sA sB
          go_enter Tryz.func102, Tryz.ntmps102
          go_wp2_with fail
          refine (ihA _ (hN.frame F0 (fun h => h))).mono ?_
          rintro e w1 ⟨rfl, f1⟩
          have F1 := F0.trans f1 (fun _ _ h => h)
          have hN1 := hN.frame F1 (fun h => h)
          have ht1 := ((Blk.tr5 w (.slice (some ⟨bk, 0, none⟩) ns.length cp) (.int .i64 y) (.int .i64 g) (.int .i64 0) (.int .i64 0)).alloc (.cells #[.int .i64 4, .int .i64 (A : Nat), .int .i64 (B : Nat), .int .i64 mn, .int .i64 mx, .int .i64 cap, .bool lz, .int .u64 (wd st 0 : Nat), .int .u64 (wd st 1 : Nat), .int .u64 (wd st 2 : Nat), .int .u64 (wd st 3 : Nat)] 97)).frame f1 (by simp)
          have hn0 := Blk.nd (w.alloc (.cells #[.slice (some ⟨bk, 0, none⟩) ns.length cp, .int .i64 y, .int .i64 g, .int .i64 0, .int .i64 0] 148)) ⟨4, (A : Nat), (B : Nat), mn, mx, cap, lz, st⟩
          rw [World.size_alloc] at hn0
          have hn1 := hn0.frame f1 (by simp)
          have r0 : w1.cell? ⟨w.heap.size, 0, none⟩ = some (.slice (some ⟨bk, 0, none⟩) ns.length cp) := ht1.cell (by omega)
          have r1 : w1.cell? ⟨w.heap.size, 1, none⟩ = some (.int .i64 y) := ht1.cell (by omega)
          have r2 : w1.cell? ⟨w.heap.size, 2, none⟩ = some (.int .i64 g) := ht1.cell (by omega)
          have r3 : w1.cell? ⟨w.heap.size, 3, none⟩ = some (.int .i64 0) := ht1.cell (by omega)
          have r4 : w1.cell? ⟨w.heap.size, 4, none⟩ = some (.int .i64 0) := ht1.cell (by omega)
          have q2 : w1.cell? ⟨w.heap.size + 1, 2, none⟩ = some (.int .i64 (B : Nat)) := hn1.cell (by omega)
          have q3 : w1.cell? ⟨w.heap.size + 1, 3, none⟩ = some (.int .i64 mn) := hn1.cell (by omega)
          have q4 : w1.cell? ⟨w.heap.size + 1, 4, none⟩ = some (.int .i64 mx) := hn1.cell (by omega)
          go_wp2_with fail
          refine (ihB _ hN1).mono ?_
          rintro e w2 ⟨rfl, f2⟩
          have F2 := F1.trans f2 (fun _ _ h => h)
          go_wp2_with fail
          go_ret
          exact ⟨rfl, F2⟩
        · have hv : (zz ns k).1 = 1 := by rw [hzk]; simp [catZ, xa, xb]
          rw [hv]
          clear hzk hv xa xb e4 e5 sA sB
          go_enter Tryz.func102, Tryz.ntmps102
          go_wp2_with fail
          refine (ihA _ (hN.frame F0 (fun h => h))).mono ?_
          rintro e w1 ⟨rfl, f1⟩
          have F1 := F0.trans f1 (fun _ _ h => h)
          have hN1 := hN.frame F1 (fun h => h)
          have ht1 := ((Blk.tr5 w (.slice (some ⟨bk, 0, none⟩) ns.length cp) (.int .i64 y) (.int .i64 g) (.int .i64 0) (.int .i64 0)).alloc (.cells #[.int .i64 4, .int .i64 (A : Nat), .int .i64 (B : Nat), .int .i64 mn, .int .i64 mx, .int .i64 cap, .bool lz, .int .u64 (wd st 0 : Nat), .int .u64 (wd st 1 : Nat), .int .u64 (wd st 2 : Nat), .int .u64 (wd st 3 : Nat)] 97)).frame f1 (by simp)
          have hn0 := Blk.nd (w.alloc (.cells #[.slice (some ⟨bk, 0, none⟩) ns.length cp, .int .i64 y, .int .i64 g, .int .i64 0, .int .i64 0] 148)) ⟨4, (A : Nat), (B : Nat), mn, mx, cap, lz, st⟩
          rw [World.size_alloc] at hn0
          have hn1 := hn0.frame f1 (by simp)
          have r0 : w1.cell? ⟨w.heap.size, 0, none⟩ = some (.slice (some ⟨bk, 0, none⟩) ns.length cp) := ht1.cell (by omega)
          have r1 : w1.cell? ⟨w.heap.size, 1, none⟩ = some (.int .i64 y) := ht1.cell (by omega)
          have r2 : w1.cell? ⟨w.heap.size, 2, none⟩ = some (.int .i64 g) := ht1.cell (by omega)
          have r3 : w1.cell? ⟨w.heap.size, 3, none⟩ = some (.int .i64 0) := ht1.cell (by omega)
          have r4 : w1.cell? ⟨w.heap.size, 4, none⟩ = some (.int .i64 0) := ht1.cell (by omega)
          have q2 : w1.cell? ⟨w.heap.size + 1, 2, none⟩ = some (.int .i64 (B : Nat)) := hn1.cell (by omega)
          have q3 : w1.cell? ⟨w.heap.size + 1, 3, none⟩ = some (.int .i64 mn) := hn1.cell (by omega)
          have q4 : w1.cell? ⟨w.heap.size + 1, 4, none⟩ = some (.int .i64 mx) := hn1.cell (by omega)
          go_wp2_with fail
          refine (ihB _ hN1).mono ?_
          rintro e w2 ⟨rfl, f2⟩
          have F2 := F1.trans f2 (fun _ _ h => h)
          go_wp2_with fail
          go_ret
          exact ⟨rfl, F2⟩
        · have hv : (zz ns k).1 = 1 := by rw [hzk]; simp [catZ, xa, xb]
          rw [hv]
          clear hzk hv xa xb e4 e5 sA sB
          go_enter Tryz.func102, Tryz.ntmps102
          go_wp2_with fail
          refine (ihA _ (hN.frame F0 (fun h => h))).mono ?_
          rintro e w1 ⟨rfl, f1⟩
          have F1 := F0.trans f1 (fun _ _ h => h)
          have hN1 := hN.frame F1 (fun h => h)
          have ht1 := ((Blk.tr5 w (.slice (some ⟨bk, 0, none⟩) ns.length cp) (.int .i64 y) (.int .i64 g) (.int .i64 0) (.int .i64 0)).alloc (.cells #[.int .i64 4, .int .i64 (A : Nat), .int .i64 (B : Nat), .int .i64 mn, .int .i64 mx, .int .i64 cap, .bool lz, .int .u64 (wd st 0 : Nat), .int .u64 (wd st 1 : Nat), .int .u64 (wd st 2 : Nat), .int .u64 (wd st 3 : Nat)] 97)).frame f1 (by simp)
          have hn0 := Blk.nd (w.alloc (.cells #[.slice (some ⟨bk, 0, none⟩) ns.length cp, .int .i64 y, .int .i64 g, .int .i64 0, .int .i64 0] 148)) ⟨4, (A : Nat), (B : Nat), mn, mx, cap, lz, st⟩
          rw [World.size_alloc] at hn0
          have hn1 := hn0.frame f1 (by simp)
          have r0 : w1.cell? ⟨w.heap.size, 0, none⟩ = some (.slice (some ⟨bk, 0, none⟩) ns.length cp) := ht1.cell (by omega)
          have r1 : w1.cell? ⟨w.heap.size, 1, none⟩ = some (.int .i64 y) := ht1.cell (by omega)
          have r2 : w1.cell? ⟨w.heap.size, 2, none⟩ = some (.int .i64 g) := ht1.cell (by omega)
          have r3 : w1.cell? ⟨w.heap.size, 3, none⟩ = some (.int .i64 0) := ht1.cell (by omega)
          have r4 : w1.cell? ⟨w.heap.size, 4, none⟩ = some (.int .i64 0) := ht1.cell (by omega)
          have q2 : w1.cell? ⟨w.heap.size + 1, 2, none⟩ = some (.int .i64 (B : Nat)) := hn1.cell (by omega)
          have q3 : w1.cell? ⟨w.heap.size + 1, 3, none⟩ = some (.int .i64 mn) := hn1.cell (by omega)
          have q4 : w1.cell? ⟨w.heap.size + 1, 4, none⟩ = some (.int .i64 mx) := hn1.cell (by omega)
          go_wp2_with fail
          refine (ihB _ hN1).mono ?_
          rintro e w2 ⟨rfl, f2⟩
          have F2 := F1.trans f2 (fun _ _ h => h)
          go_wp2_with fail
          go_ret
          exact ⟨rfl, F2⟩
        · have hv : (zz ns k).1 = 1 := by rw [hzk]; simp [catZ, xa, xb]
          rw [hv]
          clear hzk hv xa xb e4 e5 sA sB
          go_enter Tryz.func102, Tryz.ntmps102
          go_wp2_with fail
          refine (ihA _ (hN.frame F0 (fun h => h))).mono ?_
          rintro e w1 ⟨rfl, f1⟩
          have F1 := F0.trans f1 (fun _ _ h => h)
          have hN1 := hN.frame F1 (fun h => h)
          have ht1 := ((Blk.tr5 w (.slice (some ⟨bk, 0, none⟩) ns.length cp) (.int .i64 y) (.int .i64 g) (.int .i64 0) (.int .i64 0)).alloc (.cells #[.int .i64 4, .int .i64 (A : Nat), .int .i64 (B : Nat), .int .i64 mn, .int .i64 mx, .int .i64 cap, .bool lz, .int .u64 (wd st 0 : Nat), .int .u64 (wd st 1 : Nat), .int .u64 (wd st 2 : Nat), .int .u64 (wd st 3 : Nat)] 97)).frame f1 (by simp)
          have hn0 := Blk.nd (w.alloc (.cells #[.slice (some ⟨bk, 0, none⟩) ns.length cp, .int .i64 y, .int .i64 g, .int .i64 0, .int .i64 0] 148)) ⟨4, (A : Nat), (B : Nat), mn, mx, cap, lz, st⟩
          rw [World.size_alloc] at hn0
          have hn1 := hn0.frame f1 (by simp)
          have r0 : w1.cell? ⟨w.heap.size, 0, none⟩ = some (.slice (some ⟨bk, 0, none⟩) ns.length cp) := ht1.cell (by omega)
          have r1 : w1.cell? ⟨w.heap.size, 1, none⟩ = some (.int .i64 y) := ht1.cell (by omega)
          have r2 : w1.cell? ⟨w.heap.size, 2, none⟩ = some (.int .i64 g) := ht1.cell (by omega)
          have r3 : w1.cell? ⟨w.heap.size, 3, none⟩ = some (.int .i64 0) := ht1.cell (by omega)
          have r4 : w1.cell? ⟨w.heap.size, 4, none⟩ = some (.int .i64 0) := ht1.cell (by omega)
          have q2 : w1.cell? ⟨w.heap.size + 1, 2, none⟩ = some (.int .i64 (B : Nat)) := hn1.cell (by omega)
          have q3 : w1.cell? ⟨w.heap.size + 1, 3, none⟩ = some (.int .i64 mn) := hn1.cell (by omega)
          have q4 : w1.cell? ⟨w.heap.size + 1, 4, none⟩ = some (.int .i64 mx) := hn1.cell (by omega)
          go_wp2_with fail
          refine (ihB _ hN1).mono ?_
          rintro e w2 ⟨rfl, f2⟩
          have F2 := F1.trans f2 (fun _ _ h => h)
          go_wp2_with fail
          go_ret
          exact ⟨rfl, F2⟩
        · have hv : (zz ns k).1 = 2 := by rw [hzk]; simp [catZ, xa, xb]
          rw [hv]
          clear hzk hv xa xb e4 e5 sA sB
          go_enter Tryz.func102, Tryz.ntmps102
          go_wp2_with fail
          refine (ihA _ (hN.frame F0 (fun h => h))).mono ?_
          rintro e w1 ⟨rfl, f1⟩
          have F1 := F0.trans f1 (fun _ _ h => h)
          have hN1 := hN.frame F1 (fun h => h)
          have ht1 := ((Blk.tr5 w (.slice (some ⟨bk, 0, none⟩) ns.length cp) (.int .i64 y) (.int .i64 g) (.int .i64 0) (.int .i64 0)).alloc (.cells #[.int .i64 4, .int .i64 (A : Nat), .int .i64 (B : Nat), .int .i64 mn, .int .i64 mx, .int .i64 cap, .bool lz, .int .u64 (wd st 0 : Nat), .int .u64 (wd st 1 : Nat), .int .u64 (wd st 2 : Nat), .int .u64 (wd st 3 : Nat)] 97)).frame f1 (by simp)
          have hn0 := Blk.nd (w.alloc (.cells #[.slice (some ⟨bk, 0, none⟩) ns.length cp, .int .i64 y, .int .i64 g, .int .i64 0, .int .i64 0] 148)) ⟨4, (A : Nat), (B : Nat), mn, mx, cap, lz, st⟩
          rw [World.size_alloc] at hn0
          have hn1 := hn0.frame f1 (by simp)
          have r0 : w1.cell? ⟨w.heap.size, 0, none⟩ = some (.slice (some ⟨bk, 0, none⟩) ns.length cp) := ht1.cell (by omega)
          have r1 : w1.cell? ⟨w.heap.size, 1, none⟩ = some (.int .i64 y) := ht1.cell (by omega)
          have r2 : w1.cell? ⟨w.heap.size, 2, none⟩ = some (.int .i64 g) := ht1.cell (by omega)
          have r3 : w1.cell? ⟨w.heap.size, 3, none⟩ = some (.int .i64 0) := ht1.cell (by omega)
          have r4 : w1.cell? ⟨w.heap.size, 4, none⟩ = some (.int .i64 0) := ht1.cell (by omega)
          have q2 : w1.cell? ⟨w.heap.size + 1, 2, none⟩ = some (.int .i64 (B : Nat)) := hn1.cell (by omega)
          have q3 : w1.cell? ⟨w.heap.size + 1, 3, none⟩ = some (.int .i64 mn) := hn1.cell (by omega)
          have q4 : w1.cell? ⟨w.heap.size + 1, 4, none⟩ = some (.int .i64 mx) := hn1.cell (by omega)
          go_wp2_with fail
          refine (ihB _ hN1).mono ?_
          rintro e w2 ⟨rfl, f2⟩
          have F2 := F1.trans f2 (fun _ _ h => h)
          go_wp2_with fail
          go_ret
          exact ⟨rfl, F2⟩
        · have hv : (zz ns k).1 = 1 := by rw [hzk]; simp [catZ, xa, xb]
          rw [hv]
          clear hzk hv xa xb e4 e5 sA sB
          go_enter Tryz.func102, Tryz.ntmps102
          go_wp2_with fail
          refine (ihA _ (hN.frame F0 (fun h => h))).mono ?_
          rintro e w1 ⟨rfl, f1⟩
          have F1 := F0.trans f1 (fun _ _ h => h)
          have hN1 := hN.frame F1 (fun h => h)
          have ht1 := ((Blk.tr5 w (.slice (some ⟨bk, 0, none⟩) ns.length cp) (.int .i64 y) (.int .i64 g) (.int .i64 0) (.int .i64 0)).alloc (.cells #[.int .i64 4, .int .i64 (A : Nat), .int .i64 (B : Nat), .int .i64 mn, .int .i64 mx, .int .i64 cap, .bool lz, .int .u64 (wd st 0 : Nat), .int .u64 (wd st 1 : Nat), .int .u64 (wd st 2 : Nat), .int .u64 (wd st 3 : Nat)] 97)).frame f1 (by simp)
          have hn0 := Blk.nd (w.alloc (.cells #[.slice (some ⟨bk, 0, none⟩) ns.length cp, .int .i64 y, .int .i64 g, .int .i64 0, .int .i64 0] 148)) ⟨4, (A : Nat), (B : Nat), mn, mx, cap, lz, st⟩
          rw [World.size_alloc] at hn0
          have hn1 := hn0.frame f1 (by simp)
          have r0 : w1.cell? ⟨w.heap.size, 0, none⟩ = some (.slice (some ⟨bk, 0, none⟩) ns.length cp) := ht1.cell (by omega)
          have r1 : w1.cell? ⟨w.heap.size, 1, none⟩ = some (.int .i64 y) := ht1.cell (by omega)
          have r2 : w1.cell? ⟨w.heap.size, 2, none⟩ = some (.int .i64 g) := ht1.cell (by omega)
          have r3 : w1.cell? ⟨w.heap.size, 3, none⟩ = some (.int .i64 0) := ht1.cell (by omega)
          have r4 : w1.cell? ⟨w.heap.size, 4, none⟩ = some (.int .i64 0) := ht1.cell (by omega)
          have q2 : w1.cell? ⟨w.heap.size + 1, 2, none⟩ = some (.int .i64 (B : Nat)) := hn1.cell (by omega)
          have q3 : w1.cell? ⟨w.heap.size + 1, 3, none⟩ = some (.int .i64 mn) := hn1.cell (by omega)
          have q4 : w1.cell? ⟨w.heap.size + 1, 4, none⟩ = some (.int .i64 mx) := hn1.cell (by omega)
          go_wp2_with fail
          refine (ihB _ hN1).mono ?_
          rintro e w2 ⟨rfl, f2⟩
          have F2 := F1.trans f2 (fun _ _ h => h)
          go_wp2_with fail
          go_ret
          exact ⟨rfl, F2⟩
        · have hv : (zz ns k).1 = 2 := by rw [hzk]; simp [catZ, xa, xb]
          rw [hv]
          clear hzk hv xa xb e4 e5 sA sB
          go_enter Tryz.func102, Tryz.ntmps102
          go_wp2_with fail
          refine (ihA _ (hN.frame F0 (fun h => h))).mono ?_
          rintro e w1 ⟨rfl, f1⟩
          have F1 := F0.trans f1 (fun _ _ h => h)
          have hN1 := hN.frame F1 (fun h => h)
          have ht1 := ((Blk.tr5 w (.slice (some ⟨bk, 0, none⟩) ns.length cp) (.int .i64 y) (.int .i64 g) (.int .i64 0) (.int .i64 0)).alloc (.cells #[.int .i64 4, .int .i64 (A : Nat), .int .i64 (B : Nat), .int .i64 mn, .int .i64 mx, .int .i64 cap, .bool lz, .int .u64 (wd st 0 : Nat), .int .u64 (wd st 1 : Nat), .int .u64 (wd st 2 : Nat), .int .u64 (wd st 3 : Nat)] 97)).frame f1 (by simp)
          have hn0 := Blk.nd (w.alloc (.cells #[.slice (some ⟨bk, 0, none⟩) ns.length cp, .int .i64 y, .int .i64 g, .int .i64 0, .int .i64 0] 148)) ⟨4, (A : Nat), (B : Nat), mn, mx, cap, lz, st⟩
          rw [World.size_alloc] at hn0
          have hn1 := hn0.frame f1 (by simp)
          have r0 : w1.cell? ⟨w.heap.size, 0, none⟩ = some (.slice (some ⟨bk, 0, none⟩) ns.length cp) := ht1.cell (by omega)
          have r1 : w1.cell? ⟨w.heap.size, 1, none⟩ = some (.int .i64 y) := ht1.cell (by omega)
          have r2 : w1.cell? ⟨w.heap.size, 2, none⟩ = some (.int .i64 g) := ht1.cell (by omega)
          have r3 : w1.cell? ⟨w.heap.size, 3, none⟩ = some (.int .i64 0) := ht1.cell (by omega)
          have r4 : w1.cell? ⟨w.heap.size, 4, none⟩ = some (.int .i64 0) := ht1.cell (by omega)
          have q2 : w1.cell? ⟨w.heap.size + 1, 2, none⟩ = some (.int .i64 (B : Nat)) := hn1.cell (by omega)
          have q3 : w1.cell? ⟨w.heap.size + 1, 3, none⟩ = some (.int .i64 mn) := hn1.cell (by omega)
          have q4 : w1.cell? ⟨w.heap.size + 1, 4, none⟩ = some (.int .i64 mx) := hn1.cell (by omega)
          go_wp2_with fail
          refine (ihB _ hN1).mono ?_
          rintro e w2 ⟨rfl, f2⟩
          have F2 := F1.trans f2 (fun _ _ h => h)
          go_wp2_with fail
          go_ret
          exact ⟨rfl, F2⟩
      · rw [e5] at hzk
        have F0 := ((Fr.refl (fun _ => False) w).alloc (.cells #[.slice (some ⟨bk, 0, none⟩) ns.length cp, .int .i64 y, .int .i64 g, .int .i64 0, .int .i64 0] 148)).alloc (.cells #[.int .i64 5, .int .i64 (A : Nat), .int .i64 (B : Nat), .int .i64 mn, .int .i64 mx, .int .i64 cap, .bool lz, .int .u64 (wd st 0 : Nat), .int .u64 (wd st 1 : Nat), .int .u64 (wd st 2 : Nat), .int .u64 (wd st 3 : Nat)] 97)
        rcases three sA with xa | xa | xa <;> rcases three sB with xb | xb | xb <;> rw [xa] at ihA <;> rw [xb] at ihB
        · have hv : (zz ns k).1 = 0 := by rw [hzk]; simp [altZ, xa, xb]
          rw [hv]
          clear hzk hv xa xb e4 e5 sA sB
          go_enter Tryz.func102, Tryz.ntmps102
          go_wp2_with fail
          refine (ihA _ (hN.frame F0 (fun h => h))).mono ?_
          rintro e w1 ⟨rfl, f1⟩
          have F1 := F0.trans f1 (fun _ _ h => h)
          have hN1 := hN.frame F1 (fun h => h)
          have ht1 := ((Blk.tr5 w (.slice (some ⟨bk, 0, none⟩) ns.length cp) (.int .i64 y) (.int .i64 g) (.int .i64 0) (.int .i64 0)).alloc (.cells #[.int .i64 5, .int .i64 (A : Nat), .int .i64 (B : Nat), .int .i64 mn, .int .i64 mx, .int .i64 cap, .bool lz, .int .u64 (wd st 0 : Nat), .int .u64 (wd st 1 : Nat), .int .u64 (wd st 2 : Nat), .int .u64 (wd st 3 : Nat)] 97)).frame f1 (by simp)
          have hn0 := Blk.nd (w.alloc (.cells #[.slice (some ⟨bk, 0, none⟩) ns.length cp, .int .i64 y, .int .i64 g, .int .i64 0, .int .i64 0] 148)) ⟨5, (A : Nat), (B : Nat), mn, mx, cap, lz, st⟩
          rw [World.size_alloc] at hn0
          have hn1 := hn0.frame f1 (by simp)
          have r0 : w1.cell? ⟨w.heap.size, 0, none⟩ = some (.slice (some ⟨bk, 0, none⟩) ns.length cp) := ht1.cell (by omega)
          have r1 : w1.cell? ⟨w.heap.size, 1, none⟩ = some (.int .i64 y) := ht1.cell (by omega)
          have r2 : w1.cell? ⟨w.heap.size, 2, none⟩ = some (.int .i64 g) := ht1.cell (by omega)
          have r3 : w1.cell? ⟨w.heap.size, 3, none⟩ = some (.int .i64 0) := ht1.cell (by omega)
          have r4 : w1.cell? ⟨w.heap.size, 4, none⟩ = some (.int .i64 0) := ht1.cell (by omega)
          have q2 : w1.cell? ⟨w.heap.size + 1, 2, none⟩ = some (.int .i64 (B : Nat)) := hn1.cell (by omega)
          have q3 : w1.cell? ⟨w.heap.size + 1, 3, none⟩ = some (.int .i64 mn) := hn1.cell (by omega)
          have q4 : w1.cell? ⟨w.heap.size + 1, 4, none⟩ = some (.int .i64 mx) := hn1.cell (by omega)
          go_wp2_with fail
          refine (ihB _ hN1).mono ?_
          rintro e w2 ⟨rfl, f2⟩
          have F2 := F1.trans f2 (fun _ _ h => h)
          go_wp2_with fail
          go_ret
          exact ⟨rfl, F2⟩
        · have hv : (zz ns k).1 = 0 := by rw [hzk]; simp [altZ, xa, xb]
          rw [hv]
          clear hzk hv xa xb e4 e5 sA sB
          go_enter Tryz.func102, Tryz.ntmps102
          go_wp2_with fail
          refine (ihA _ (hN.frame F0 (fun h => h))).mono ?_
          rintro e w1 ⟨rfl, f1⟩
          have F1 := F0.trans f1 (fun _ _ h => h)
          have hN1 := hN.frame F1 (fun h => h)
          have ht1 := ((Blk.tr5 w (.slice (some ⟨bk, 0, none⟩) ns.length cp) (.int .i64 y) (.int .i64 g) (.int .i64 0) (.int .i64 0)).alloc (.cells #[.int .i64 5, .int .i64 (A : Nat), .int .i64 (B : Nat), .int .i64 mn, .int .i64 mx, .int .i64 cap, .bool lz, .int .u64 (wd st 0 : Nat), .int .u64 (wd st 1 : Nat), .int .u64 (wd st 2 : Nat), .int .u64 (wd st 3 : Nat)] 97)).frame f1 (by simp)
          have hn0 := Blk.nd (w.alloc (.cells #[.slice (some ⟨bk, 0, none⟩) ns.length cp, .int .i64 y, .int .i64 g, .int .i64 0, .int .i64 0] 148)) ⟨5, (A : Nat), (B : Nat), mn, mx, cap, lz, st⟩
          rw [World.size_alloc] at hn0
          have hn1 := hn0.frame f1 (by simp)
          have r0 : w1.cell? ⟨w.heap.size, 0, none⟩ = some (.slice (some ⟨bk, 0, none⟩) ns.length cp) := ht1.cell (by omega)
          have r1 : w1.cell? ⟨w.heap.size, 1, none⟩ = some (.int .i64 y) := ht1.cell (by omega)
          have r2 : w1.cell? ⟨w.heap.size, 2, none⟩ = some (.int .i64 g) := ht1.cell (by omega)
          have r3 : w1.cell? ⟨w.heap.size, 3, none⟩ = some (.int .i64 0) := ht1.cell (by omega)
          have r4 : w1.cell? ⟨w.heap.size, 4, none⟩ = some (.int .i64 0) := ht1.cell (by omega)
          have q2 : w1.cell? ⟨w.heap.size + 1, 2, none⟩ = some (.int .i64 (B : Nat)) := hn1.cell (by omega)
          have q3 : w1.cell? ⟨w.heap.size + 1, 3, none⟩ = some (.int .i64 mn) := hn1.cell (by omega)
          have q4 : w1.cell? ⟨w.heap.size + 1, 4, none⟩ = some (.int .i64 mx) := hn1.cell (by omega)
          go_wp2_with fail
          refine (ihB _ hN1).mono ?_
          rintro e w2 ⟨rfl, f2⟩
          have F2 := F1.trans f2 (fun _ _ h => h)
          go_wp2_with fail
          go_ret
          exact ⟨rfl, F2⟩
        · have hv : (zz ns k).1 = 2 := by rw [hzk]; simp [altZ, xa, xb]
          rw [hv]
          clear hzk hv xa xb e4 e5 sA sB
          go_enter Tryz.func102, Tryz.ntmps102
          go_wp2_with fail
          refine (ihA _ (hN.frame F0 (fun h => h))).mono ?_
          rintro e w1 ⟨rfl, f1⟩
          have F1 := F0.trans f1 (fun _ _ h => h)
          have hN1 := hN.frame F1 (fun h => h)
          have ht1 := ((Blk.tr5 w (.slice (some ⟨bk, 0, none⟩) ns.length cp) (.int .i64 y) (.int .i64 g) (.int .i64 0) (.int .i64 0)).alloc (.cells #[.int .i64 5, .int .i64 (A : Nat), .int .i64 (B : Nat), .int .i64 mn, .int .i64 mx, .int .i64 cap, .bool lz, .int .u64 (wd st 0 : Nat), .int .u64 (wd st 1 : Nat), .int .u64 (wd st 2 : Nat), .int .u64 (wd st 3 : Nat)] 97)).frame f1 (by simp)
          have hn0 := Blk.nd (w.alloc (.cells #[.slice (some ⟨bk, 0, none⟩) ns.length cp, .int .i64 y, .int .i64 g, .int .i64 0, .int .i64 0] 148)) ⟨5, (A : Nat), (B : Nat), mn, mx, cap, lz, st⟩
          rw [World.size_alloc] at hn0
          have hn1 := hn0.frame f1 (by simp)
          have r0 : w1.cell? ⟨w.heap.size, 0, none⟩ = some (.slice (some ⟨bk, 0, none⟩) ns.length cp) := ht1.cell (by omega)
          have r1 : w1.cell? ⟨w.heap.size, 1, none⟩ = some (.int .i64 y) := ht1.cell (by omega)
          have r2 : w1.cell? ⟨w.heap.size, 2, none⟩ = some (.int .i64 g) := ht1.cell (by omega)
          have r3 : w1.cell? ⟨w.heap.size, 3, none⟩ = some (.int .i64 0) := ht1.cell (by omega)
          have r4 : w1.cell? ⟨w.heap.size, 4, none⟩ = some (.int .i64 0) := ht1.cell (by omega)
          have q2 : w1.cell? ⟨w.heap.size + 1, 2, none⟩ = some (.int .i64 (B : Nat)) := hn1.cell (by omega)
          have q3 : w1.cell? ⟨w.heap.size + 1, 3, none⟩ = some (.int .i64 mn) := hn1.cell (by omega)
          have q4 : w1.cell? ⟨w.heap.size + 1, 4, none⟩ = some (.int .i64 mx) := hn1.cell (by omega)
          go_wp2_with fail
          refine (ihB _ hN1).mono ?_
          rintro e w2 ⟨rfl, f2⟩
          have F2 := F1.trans f2 (fun _ _ h => h)
          go_wp2_with fail
          go_ret
          exact ⟨rfl, F2⟩
        · have hv : (zz ns k).1 = 0 := by rw [hzk]; simp [altZ, xa, xb]
          rw [hv]
          clear hzk hv xa xb e4 e5 sA sB
          go_enter Tryz.func102, Tryz.ntmps102
          go_wp2_with fail
          refine (ihA _ (hN.frame F0 (fun h => h))).mono ?_
          rintro e w1 ⟨rfl, f1⟩
          have F1 := F0.trans f1 (fun _ _ h => h)
          have hN1 := hN.frame F1 (fun h => h)
          have ht1 := ((Blk.tr5 w (.slice (some ⟨bk, 0, none⟩) ns.length cp) (.int .i64 y) (.int .i64 g) (.int .i64 0) (.int .i64 0)).alloc (.cells #[.int .i64 5, .int .i64 (A : Nat), .int .i64 (B : Nat), .int .i64 mn, .int .i64 mx, .int .i64 cap, .bool lz, .int .u64 (wd st 0 : Nat), .int .u64 (wd st 1 : Nat), .int .u64 (wd st 2 : Nat), .int .u64 (wd st 3 : Nat)] 97)).frame f1 (by simp)
          have hn0 := Blk.nd (w.alloc (.cells #[.slice (some ⟨bk, 0, none⟩) ns.length cp, .int .i64 y, .int .i64 g, .int .i64 0, .int .i64 0] 148)) ⟨5, (A : Nat), (B : Nat), mn, mx, cap, lz, st⟩
          rw [World.size_alloc] at hn0
          have hn1 := hn0.frame f1 (by simp)
          have r0 : w1.cell? ⟨w.heap.size, 0, none⟩ = some (.slice (some ⟨bk, 0, none⟩) ns.length cp) := ht1.cell (by omega)
          have r1 : w1.cell? ⟨w.heap.size, 1, none⟩ = some (.int .i64 y) := ht1.cell (by omega)
          have r2 : w1.cell? ⟨w.heap.size, 2, none⟩ = some (.int .i64 g) := ht1.cell (by omega)
          have r3 : w1.cell? ⟨w.heap.size, 3, none⟩ = some (.int .i64 0) := ht1.cell (by omega)
          have r4 : w1.cell? ⟨w.heap.size, 4, none⟩ = some (.int .i64 0) := ht1.cell (by omega)
          have q2 : w1.cell? ⟨w.heap.size + 1, 2, none⟩ = some (.int .i64 (B : Nat)) := hn1.cell (by omega)
          have q3 : w1.cell? ⟨w.heap.size + 1, 3, none⟩ = some (.int .i64 mn) := hn1.cell (by omega)
          have q4 : w1.cell? ⟨w.heap.size + 1, 4, none⟩ = some (.int .i64 mx) := hn1.cell (by omega)
          go_wp2_with fail
          refine (ihB _ hN1).mono ?_
          rintro e w2 ⟨rfl, f2⟩
          have F2 := F1.trans f2 (fun _ _ h => h)
          go_wp2_with fail
          go_ret
          exact ⟨rfl, F2⟩
        · have hv : (zz ns k).1 = 1 := by rw [hzk]; simp [altZ, xa, xb]
          rw [hv]
          clear hzk hv xa xb e4 e5 sA sB
          go_enter Tryz.func102, Tryz.ntmps102
          go_wp2_with fail
          refine (ihA _ (hN.frame F0 (fun h => h))).mono ?_
          rintro e w1 ⟨rfl, f1⟩
          have F1 := F0.trans f1 (fun _ _ h => h)
          have hN1 := hN.frame F1 (fun h => h)
          have ht1 := ((Blk.tr5 w (.slice (some ⟨bk, 0, none⟩) ns.length cp) (.int .i64 y) (.int .i64 g) (.int .i64 0) (.int .i64 0)).alloc (.cells #[.int .i64 5, .int .i64 (A : Nat), .int .i64 (B : Nat), .int .i64 mn, .int .i64 mx, .int .i64 cap, .bool lz, .int .u64 (wd st 0 : Nat), .int .u64 (wd st 1 : Nat), .int .u64 (wd st 2 : Nat), .int .u64 (wd st 3 : Nat)] 97)).frame f1 (by simp)
          have hn0 := Blk.nd (w.alloc (.cells #[.slice (some ⟨bk, 0, none⟩) ns.length cp, .int .i64 y, .int .i64 g, .int .i64 0, .int .i64 0] 148)) ⟨5, (A : Nat), (B : Nat), mn, mx, cap, lz, st⟩
          rw [World.size_alloc] at hn0
          have hn1 := hn0.frame f1 (by simp)
          have r0 : w1.cell? ⟨w.heap.size, 0, none⟩ = some (.slice (some ⟨bk, 0, none⟩) ns.length cp) := ht1.cell (by omega)
          have r1 : w1.cell? ⟨w.heap.size, 1, none⟩ = some (.int .i64 y) := ht1.cell (by omega)
          have r2 : w1.cell? ⟨w.heap.size, 2, none⟩ = some (.int .i64 g) := ht1.cell (by omega)
          have r3 : w1.cell? ⟨w.heap.size, 3, none⟩ = some (.int .i64 0) := ht1.cell (by omega)
          have r4 : w1.cell? ⟨w.heap.size, 4, none⟩ = some (.int .i64 0) := ht1.cell (by omega)
          have q2 : w1.cell? ⟨w.heap.size + 1, 2, none⟩ = some (.int .i64 (B : Nat)) := hn1.cell (by omega)
          have q3 : w1.cell? ⟨w.heap.size + 1, 3, none⟩ = some (.int .i64 mn) := hn1.cell (by omega)
          have q4 : w1.cell? ⟨w.heap.size + 1, 4, none⟩ = some (.int .i64 mx) := hn1.cell (by omega)
          go_wp2_with fail
          refine (ihB _ hN1).mono ?_
          rintro e w2 ⟨rfl, f2⟩
          have F2 := F1.trans f2 (fun _ _ h => h)
          go_wp2_with fail
          go_ret
          exact ⟨rfl, F2⟩
        · have hv : (zz ns k).1 = 2 := by rw [hzk]; simp [altZ, xa, xb]
          rw [hv]
          clear hzk hv xa xb e4 e5 sA sB
          go_enter Tryz.func102, Tryz.ntmps102
          go_wp2_with fail
          refine (ihA _ (hN.frame F0 (fun h => h))).mono ?_
          rintro e w1 ⟨rfl, f1⟩
          have F1 := F0.trans f1 (fun _ _ h => h)
          have hN1 := hN.frame F1 (fun h => h)
          have ht1 := ((Blk.tr5 w (.slice (some ⟨bk, 0, none⟩) ns.length cp) (.int .i64 y) (.int .i64 g) (.int .i64 0) (.int .i64 0)).alloc (.cells #[.int .i64 5, .int .i64 (A : Nat), .int .i64 (B : Nat), .int .i64 mn, .int .i64 mx, .int .i64 cap, .bool lz, .int .u64 (wd st 0 : Nat), .int .u64 (wd st 1 : Nat), .int .u64 (wd st 2 : Nat), .int .u64 (wd st 3 : Nat)] 97)).frame f1 (by simp)
          have hn0 := Blk.nd (w.alloc (.cells #[.slice (some ⟨bk, 0, none⟩) ns.length cp, .int .i64 y, .int .i64 g, .int .i64 0, .int .i64 0] 148)) ⟨5, (A : Nat), (B : Nat), mn, mx, cap, lz, st⟩
          rw [World.size_alloc] at hn0
          have hn1 := hn0.frame f1 (by simp)
          have r0 : w1.cell? ⟨w.heap.size, 0, none⟩ = some (.slice (some ⟨bk, 0, none⟩) ns.length cp) := ht1.cell (by omega)
          have r1 : w1.cell? ⟨w.heap.size, 1, none⟩ = some (.int .i64 y) := ht1.cell (by omega)
          have r2 : w1.cell? ⟨w.heap.size, 2, none⟩ = some (.int .i64 g) := ht1.cell (by omega)
          have r3 : w1.cell? ⟨w.heap.size, 3, none⟩ = some (.int .i64 0) := ht1.cell (by omega)
          have r4 : w1.cell? ⟨w.heap.size, 4, none⟩ = some (.int .i64 0) := ht1.cell (by omega)
          have q2 : w1.cell? ⟨w.heap.size + 1, 2, none⟩ = some (.int .i64 (B : Nat)) := hn1.cell (by omega)
          have q3 : w1.cell? ⟨w.heap.size + 1, 3, none⟩ = some (.int .i64 mn) := hn1.cell (by omega)
          have q4 : w1.cell? ⟨w.heap.size + 1, 4, none⟩ = some (.int .i64 mx) := hn1.cell (by omega)
          go_wp2_with fail
          refine (ihB _ hN1).mono ?_
          rintro e w2 ⟨rfl, f2⟩
          have F2 := F1.trans f2 (fun _ _ h => h)
          go_wp2_with fail
          go_ret
          exact ⟨rfl, F2⟩
        · have hv : (zz ns k).1 = 2 := by rw [hzk]; simp [altZ, xa, xb]
          rw [hv]
          clear hzk hv xa xb e4 e5 sA sB
          go_enter Tryz.func102, Tryz.ntmps102
          go_wp2_with fail
          refine (ihA _ (hN.frame F0 (fun h => h))).mono ?_
          rintro e w1 ⟨rfl, f1⟩
          have F1 := F0.trans f1 (fun _ _ h => h)
          have hN1 := hN.frame F1 (fun h => h)
          have ht1 := ((Blk.tr5 w (.slice (some ⟨bk, 0, none⟩) ns.length cp) (.int .i64 y) (.int .i64 g) (.int .i64 0) (.int .i64 0)).alloc (.cells #[.int .i64 5, .int .i64 (A : Nat), .int .i64 (B : Nat), .int .i64 mn, .int .i64 mx, .int .i64 cap, .bool lz, .int .u64 (wd st 0 : Nat), .int .u64 (wd st 1 : Nat), .int .u64 (wd st 2 : Nat), .int .u64 (wd st 3 : Nat)] 97)).frame f1 (by simp)
          have hn0 := Blk.nd (w.alloc (.cells #[.slice (some ⟨bk, 0, none⟩) ns.length cp, .int .i64 y, .int .i64 g, .int .i64 0, .int .i64 0] 148)) ⟨5, (A : Nat), (B : Nat), mn, mx, cap, lz, st⟩
          rw [World.size_alloc] at hn0
          have hn1 := hn0.frame f1 (by simp)
          have r0 : w1.cell? ⟨w.heap.size, 0, none⟩ = some (.slice (some ⟨bk, 0, none⟩) ns.length cp) := ht1.cell (by omega)
          have r1 : w1.cell? ⟨w.heap.size, 1, none⟩ = some (.int .i64 y) := ht1.cell (by omega)
          have r2 : w1.cell? ⟨w.heap.size, 2, none⟩ = some (.int .i64 g) := ht1.cell (by omega)
          have r3 : w1.cell? ⟨w.heap.size, 3, none⟩ = some (.int .i64 0) := ht1.cell (by omega)
          have r4 : w1.cell? ⟨w.heap.size, 4, none⟩ = some (.int .i64 0) := ht1.cell (by omega)
          have q2 : w1.cell? ⟨w.heap.size + 1, 2, none⟩ = some (.int .i64 (B : Nat)) := hn1.cell (by omega)
          have q3 : w1.cell? ⟨w.heap.size + 1, 3, none⟩ = some (.int .i64 mn) := hn1.cell (by omega)
          have q4 : w1.cell? ⟨w.heap.size + 1, 4, none⟩ = some (.int .i64 mx) := hn1.cell (by omega)
          go_wp2_with fail
          refine (ihB _ hN1).mono ?_
          rintro e w2 ⟨rfl, f2⟩
          have F2 := F1.trans f2 (fun _ _ h => h)
          go_wp2_with fail
          go_ret
          exact ⟨rfl, F2⟩
        · have hv : (zz ns k).1 = 2 := by rw [hzk]; simp [altZ, xa, xb]
          rw [hv]
          clear hzk hv xa xb e4 e5 sA sB
          go_enter Tryz.func102, Tryz.ntmps102
          go_wp2_with fail
          refine (ihA _ (hN.frame F0 (fun h => h))).mono ?_
          rintro e w1 ⟨rfl, f1⟩
          have F1 := F0.trans f1 (fun _ _ h => h)
          have hN1 := hN.frame F1 (fun h => h)
          have ht1 := ((Blk.tr5 w (.slice (some ⟨bk, 0, none⟩) ns.length cp) (.int .i64 y) (.int .i64 g) (.int .i64 0) (.int .i64 0)).alloc (.cells #[.int .i64 5, .int .i64 (A : Nat), .int .i64 (B : Nat), .int .i64 mn, .int .i64 mx, .int .i64 cap, .bool lz, .int .u64 (wd st 0 : Nat), .int .u64 (wd st 1 : Nat), .int .u64 (wd st 2 : Nat), .int .u64 (wd st 3 : Nat)] 97)).frame f1 (by simp)
          have hn0 := Blk.nd (w.alloc (.cells #[.slice (some ⟨bk, 0, none⟩) ns.length cp, .int .i64 y, .int .i64 g, .int .i64 0, .int .i64 0] 148)) ⟨5, (A : Nat), (B : Nat), mn, mx, cap, lz, st⟩
          rw [World.size_alloc] at hn0
          have hn1 := hn0.frame f1 (by simp)
          have r0 : w1.cell? ⟨w.heap.size, 0, none⟩ = some (.slice (some ⟨bk, 0, none⟩) ns.length cp) := ht1.cell (by omega)
          have r1 : w1.cell? ⟨w.heap.size, 1, none⟩ = some (.int .i64 y) := ht1.cell (by omega)
          have r2 : w1.cell? ⟨w.heap.size, 2, none⟩ = some (.int .i64 g) := ht1.cell (by omega)
          have r3 : w1.cell? ⟨w.heap.size, 3, none⟩ = some (.int .i64 0) := ht1.cell (by omega)
          have r4 : w1.cell? ⟨w.heap.size, 4, none⟩ = some (.int .i64 0) := ht1.cell (by omega)
          have q2 : w1.cell? ⟨w.heap.size + 1, 2, none⟩ = some (.int .i64 (B : Nat)) := hn1.cell (by omega)
          have q3 : w1.cell? ⟨w.heap.size + 1, 3, none⟩ = some (.int .i64 mn) := hn1.cell (by omega)
          have q4 : w1.cell? ⟨w.heap.size + 1, 4, none⟩ = some (.int .i64 mx) := hn1.cell (by omega)
          go_wp2_with fail
          refine (ihB _ hN1).mono ?_
          rintro e w2 ⟨rfl, f2⟩
          have F2 := F1.trans f2 (fun _ _ h => h)
          go_wp2_with fail
          go_ret
          exact ⟨rfl, F2⟩
        · have hv : (zz ns k).1 = 2 := by rw [hzk]; simp [altZ, xa, xb]
          rw [hv]
          clear hzk hv xa xb e4 e5 sA sB
          go_enter Tryz.func102, Tryz.ntmps102
          go_wp2_with fail
          refine (ihA _ (hN.frame F0 (fun h => h))).mono ?_
          rintro e w1 ⟨rfl, f1⟩
          have F1 := F0.trans f1 (fun _ _ h => h)
          have hN1 := hN.frame F1 (fun h => h)
          have ht1 := ((Blk.tr5 w (.slice (some ⟨bk, 0, none⟩) ns.length cp) (.int .i64 y) (.int .i64 g) (.int .i64 0) (.int .i64 0)).alloc (.cells #[.int .i64 5, .int .i64 (A : Nat), .int .i64 (B : Nat), .int .i64 mn, .int .i64 mx, .int .i64 cap, .bool lz, .int .u64 (wd st 0 : Nat), .int .u64 (wd st 1 : Nat), .int .u64 (wd st 2 : Nat), .int .u64 (wd st 3 : Nat)] 97)).frame f1 (by simp)
          have hn0 := Blk.nd (w.alloc (.cells #[.slice (some ⟨bk, 0, none⟩) ns.length cp, .int .i64 y, .int .i64 g, .int .i64 0, .int .i64 0] 148)) ⟨5, (A : Nat), (B : Nat), mn, mx, cap, lz, st⟩
          rw [World.size_alloc] at hn0
          have hn1 := hn0.frame f1 (by simp)
          have r0 : w1.cell? ⟨w.heap.size, 0, none⟩ = some (.slice (some ⟨bk, 0, none⟩) ns.length cp) := ht1.cell (by omega)
          have r1 : w1.cell? ⟨w.heap.size, 1, none⟩ = some (.int .i64 y) := ht1.cell (by omega)
          have r2 : w1.cell? ⟨w.heap.size, 2, none⟩ = some (.int .i64 g) := ht1.cell (by omega)
          have r3 : w1.cell? ⟨w.heap.size, 3, none⟩ = some (.int .i64 0) := ht1.cell (by omega)
          have r4 : w1.cell? ⟨w.heap.size, 4, none⟩ = some (.int .i64 0) := ht1.cell (by omega)
          have q2 : w1.cell? ⟨w.heap.size + 1, 2, none⟩ = some (.int .i64 (B : Nat)) := hn1.cell (by omega)
          have q3 : w1.cell? ⟨w.heap.size + 1, 3, none⟩ = some (.int .i64 mn) := hn1.cell (by omega)
          have q4 : w1.cell? ⟨w.heap.size + 1, 4, none⟩ = some (.int .i64 mx) := hn1.cell (by omega)
          go_wp2_with fail
          refine (ihB _ hN1).mono ?_
          rintro e w2 ⟨rfl, f2⟩
          have F2 := F1.trans f2 (fun _ _ h => h)
          go_wp2_with fail
          go_ret
          exact ⟨rfl, F2⟩
    · simp only at hkd h1 h2 hb'
      subst hb'
      obtain ⟨A, rfl⟩ : ∃ A : Nat, a = A := ⟨a.toNat, by omega⟩
      have hA : A < k := by omega
      have ihA := ih A hA (by omega)
      have sA := (core_main hwf hrb A (by omega)).ok.sh
      have e6 : zNd (zL ns) ⟨6, A, -1, mn, mx, cap, lz, st⟩ = repZ (zz ns A) mn mx := rfl
      have e7 : zNd (zL ns) ⟨7, A, -1, mn, mx, cap, lz, st⟩ = grpZ (zz ns A) := rfl
      clear ih
      rcases hkd with rfl | rfl
      · rw [e6] at hzk
        have F0 := ((Fr.refl (fun _ => False) w).alloc (.cells #[.slice (some ⟨bk, 0, none⟩) ns.length cp, .int .i64 y, .int .i64 g, .int .i64 0, .int .i64 0] 148)).alloc (.cells #[.int .i64 6, .int .i64 (A : Nat), .int .i64 (-1), .int .i64 mn, .int .i64 mx, .int .i64 cap, .bool lz, .int .u64 (wd st 0 : Nat), .int .u64 (wd st 1 : Nat), .int .u64 (wd st 2 : Nat), .int .u64 (wd st 3 : Nat)] 97)
        by_cases hm : 0 < mn
        · have td : decide (0 < mn) = true := decide_eq_true hm
          by_cases hx : mx = 0
          · have tx : (mx == 0) = true := by simpa using hx
            rcases three sA with xa | xa | xa <;> rw [xa] at ihA
            · have hv : (zz ns k).1 = 0 := by rw [hzk]; simp [repZ, xa, hm, hx]
              rw [hv]
              clear hzk hv xa e6 e7 sA hx hm
              go_enter Tryz.func102, Tryz.ntmps102
              go_wp2_with fail
              refine (ihA _ (hN.frame F0 (fun h => h))).mono ?_
              rintro e w1 ⟨rfl, f1⟩
              have F1 := F0.trans f1 (fun _ _ h => h)
              have hN1 := hN.frame F1 (fun h => h)
              have ht1 := ((Blk.tr5 w (.slice (some ⟨bk, 0, none⟩) ns.length cp) (.int .i64 y) (.int .i64 g) (.int .i64 0) (.int .i64 0)).alloc (.cells #[.int .i64 6, .int .i64 (A : Nat), .int .i64 (-1), .int .i64 mn, .int .i64 mx, .int .i64 cap, .bool lz, .int .u64 (wd st 0 : Nat), .int .u64 (wd st 1 : Nat), .int .u64 (wd st 2 : Nat), .int .u64 (wd st 3 : Nat)] 97)).frame f1 (by simp)
              have hn0 := Blk.nd (w.alloc (.cells #[.slice (some ⟨bk, 0, none⟩) ns.length cp, .int .i64 y, .int .i64 g, .int .i64 0, .int .i64 0] 148)) ⟨6, (A : Nat), (-1), mn, mx, cap, lz, st⟩
              rw [World.size_alloc] at hn0
              have hn1 := hn0.frame f1 (by simp)
              have r0 : w1.cell? ⟨w.heap.size, 0, none⟩ = some (.slice (some ⟨bk, 0, none⟩) ns.length cp) := ht1.cell (by omega)
              have r1 : w1.cell? ⟨w.heap.size, 1, none⟩ = some (.int .i64 y) := ht1.cell (by omega)
              have r2 : w1.cell? ⟨w.heap.size, 2, none⟩ = some (.int .i64 g) := ht1.cell (by omega)
              have r3 : w1.cell? ⟨w.heap.size, 3, none⟩ = some (.int .i64 0) := ht1.cell (by omega)
              have r4 : w1.cell? ⟨w.heap.size, 4, none⟩ = some (.int .i64 0) := ht1.cell (by omega)
              have q2 : w1.cell? ⟨w.heap.size + 1, 2, none⟩ = some (.int .i64 (-1)) := hn1.cell (by omega)
              have q3 : w1.cell? ⟨w.heap.size + 1, 3, none⟩ = some (.int .i64 mn) := hn1.cell (by omega)
              have q4 : w1.cell? ⟨w.heap.size + 1, 4, none⟩ = some (.int .i64 mx) := hn1.cell (by omega)
              go_wp2_with fail
              go_ret
              exact ⟨rfl, F1⟩
            · have hv : (zz ns k).1 = 1 := by rw [hzk]; simp [repZ, xa, hm]
              rw [hv]
              clear hzk hv xa e6 e7 sA hx hm
              go_enter Tryz.func102, Tryz.ntmps102
              go_wp2_with fail
              refine (ihA _ (hN.frame F0 (fun h => h))).mono ?_
              rintro e w1 ⟨rfl, f1⟩
              have F1 := F0.trans f1 (fun _ _ h => h)
              have hN1 := hN.frame F1 (fun h => h)
              have ht1 := ((Blk.tr5 w (.slice (some ⟨bk, 0, none⟩) ns.length cp) (.int .i64 y) (.int .i64 g) (.int .i64 0) (.int .i64 0)).alloc (.cells #[.int .i64 6, .int .i64 (A : Nat), .int .i64 (-1), .int .i64 mn, .int .i64 mx, .int .i64 cap, .bool lz, .int .u64 (wd st 0 : Nat), .int .u64 (wd st 1 : Nat), .int .u64 (wd st 2 : Nat), .int .u64 (wd st 3 : Nat)] 97)).frame f1 (by simp)
              have hn0 := Blk.nd (w.alloc (.cells #[.slice (some ⟨bk, 0, none⟩) ns.length cp, .int .i64 y, .int .i64 g, .int .i64 0, .int .i64 0] 148)) ⟨6, (A : Nat), (-1), mn, mx, cap, lz, st⟩
              rw [World.size_alloc] at hn0
              have hn1 := hn0.frame f1 (by simp)
              have r0 : w1.cell? ⟨w.heap.size, 0, none⟩ = some (.slice (some ⟨bk, 0, none⟩) ns.length cp) := ht1.cell (by omega)
              have r1 : w1.cell? ⟨w.heap.size, 1, none⟩ = some (.int .i64 y) := ht1.cell (by omega)
              have r2 : w1.cell? ⟨w.heap.size, 2, none⟩ = some (.int .i64 g) := ht1.cell (by omega)
              have r3 : w1.cell? ⟨w.heap.size, 3, none⟩ = some (.int .i64 0) := ht1.cell (by omega)
              have r4 : w1.cell? ⟨w.heap.size, 4, none⟩ = some (.int .i64 0) := ht1.cell (by omega)
              have q2 : w1.cell? ⟨w.heap.size + 1, 2, none⟩ = some (.int .i64 (-1)) := hn1.cell (by omega)
              have q3 : w1.cell? ⟨w.heap.size + 1, 3, none⟩ = some (.int .i64 mn) := hn1.cell (by omega)
              have q4 : w1.cell? ⟨w.heap.size + 1, 4, none⟩ = some (.int .i64 mx) := hn1.cell (by omega)
              go_wp2_with fail
              go_ret
              exact ⟨rfl, F1⟩
            · have hv : (zz ns k).1 = 0 := by rw [hzk]; simp [repZ, xa, hm, hx]
              rw [hv]
              clear hzk hv xa e6 e7 sA hx hm
              go_enter Tryz.func102, Tryz.ntmps102
              go_wp2_with fail
              refine (ihA _ (hN.frame F0 (fun h => h))).mono ?_
              rintro e w1 ⟨rfl, f1⟩
              have F1 := F0.trans f1 (fun _ _ h => h)
              have hN1 := hN.frame F1 (fun h => h)
              have ht1 := ((Blk.tr5 w (.slice (some ⟨bk, 0, none⟩) ns.length cp) (.int .i64 y) (.int .i64 g) (.int .i64 0) (.int .i64 0)).alloc (.cells #[.int .i64 6, .int .i64 (A : Nat), .int .i64 (-1), .int .i64 mn, .int .i64 mx, .int .i64 cap, .bool lz, .int .u64 (wd st 0 : Nat), .int .u64 (wd st 1 : Nat), .int .u64 (wd st 2 : Nat), .int .u64 (wd st 3 : Nat)] 97)).frame f1 (by simp)
              have hn0 := Blk.nd (w.alloc (.cells #[.slice (some ⟨bk, 0, none⟩) ns.length cp, .int .i64 y, .int .i64 g, .int .i64 0, .int .i64 0] 148)) ⟨6, (A : Nat), (-1), mn, mx, cap, lz, st⟩
              rw [World.size_alloc] at hn0
              have hn1 := hn0.frame f1 (by simp)
              have r0 : w1.cell? ⟨w.heap.size, 0, none⟩ = some (.slice (some ⟨bk, 0, none⟩) ns.length cp) := ht1.cell (by omega)
              have r1 : w1.cell? ⟨w.heap.size, 1, none⟩ = some (.int .i64 y) := ht1.cell (by omega)
              have r2 : w1.cell? ⟨w.heap.size, 2, none⟩ = some (.int .i64 g) := ht1.cell (by omega)
              have r3 : w1.cell? ⟨w.heap.size, 3, none⟩ = some (.int .i64 0) := ht1.cell (by omega)
              have r4 : w1.cell? ⟨w.heap.size, 4, none⟩ = some (.int .i64 0) := ht1.cell (by omega)
              have q2 : w1.cell? ⟨w.heap.size + 1, 2, none⟩ = some (.int .i64 (-1)) := hn1.cell (by omega)
              have q3 : w1.cell? ⟨w.heap.size + 1, 3, none⟩ = some (.int .i64 mn) := hn1.cell (by omega)
              have q4 : w1.cell? ⟨w.heap.size + 1, 4, none⟩ = some (.int .i64 mx) := hn1.cell (by omega)
              go_wp2_with fail
              go_ret
              exact ⟨rfl, F1⟩
          · have tx : (mx == 0) = false := by simpa using hx
            rcases three sA with xa | xa | xa <;> rw [xa] at ihA
            · have hv : (zz ns k).1 = 0 := by rw [hzk]; simp [repZ, xa, hm, hx]
              rw [hv]
              clear hzk hv xa e6 e7 sA hx hm
              go_enter Tryz.func102, Tryz.ntmps102
              go_wp2_with fail
              refine (ihA _ (hN.frame F0 (fun h => h))).mono ?_
              rintro e w1 ⟨rfl, f1⟩
              have F1 := F0.trans f1 (fun _ _ h => h)
              have hN1 := hN.frame F1 (fun h => h)
              have ht1 := ((Blk.tr5 w (.slice (some ⟨bk, 0, none⟩) ns.length cp) (.int .i64 y) (.int .i64 g) (.int .i64 0) (.int .i64 0)).alloc (.cells #[.int .i64 6, .int .i64 (A : Nat), .int .i64 (-1), .int .i64 mn, .int .i64 mx, .int .i64 cap, .bool lz, .int .u64 (wd st 0 : Nat), .int .u64 (wd st 1 : Nat), .int .u64 (wd st 2 : Nat), .int .u64 (wd st 3 : Nat)] 97)).frame f1 (by simp)
              have hn0 := Blk.nd (w.alloc (.cells #[.slice (some ⟨bk, 0, none⟩) ns.length cp, .int .i64 y, .int .i64 g, .int .i64 0, .int .i64 0] 148)) ⟨6, (A : Nat), (-1), mn, mx, cap, lz, st⟩
              rw [World.size_alloc] at hn0
              have hn1 := hn0.frame f1 (by simp)
              have r0 : w1.cell? ⟨w.heap.size, 0, none⟩ = some (.slice (some ⟨bk, 0, none⟩) ns.length cp) := ht1.cell (by omega)
              have r1 : w1.cell? ⟨w.heap.size, 1, none⟩ = some (.int .i64 y) := ht1.cell (by omega)
              have r2 : w1.cell? ⟨w.heap.size, 2, none⟩ = some (.int .i64 g) := ht1.cell (by omega)
              have r3 : w1.cell? ⟨w.heap.size, 3, none⟩ = some (.int .i64 0) := ht1.cell (by omega)
              have r4 : w1.cell? ⟨w.heap.size, 4, none⟩ = some (.int .i64 0) := ht1.cell (by omega)
              have q2 : w1.cell? ⟨w.heap.size + 1, 2, none⟩ = some (.int .i64 (-1)) := hn1.cell (by omega)
              have q3 : w1.cell? ⟨w.heap.size + 1, 3, none⟩ = some (.int .i64 mn) := hn1.cell (by omega)
              have q4 : w1.cell? ⟨w.heap.size + 1, 4, none⟩ = some (.int .i64 mx) := hn1.cell (by omega)
              go_wp2_with fail
              go_ret
              exact ⟨rfl, F1⟩
            · have hv : (zz ns k).1 = 1 := by rw [hzk]; simp [repZ, xa, hm]
              rw [hv]
              clear hzk hv xa e6 e7 sA hx hm
              go_enter Tryz.func102, Tryz.ntmps102
              go_wp2_with fail
              refine (ihA _ (hN.frame F0 (fun h => h))).mono ?_
              rintro e w1 ⟨rfl, f1⟩
              have F1 := F0.trans f1 (fun _ _ h => h)
              have hN1 := hN.frame F1 (fun h => h)
              have ht1 := ((Blk.tr5 w (.slice (some ⟨bk, 0, none⟩) ns.length cp) (.int .i64 y) (.int .i64 g) (.int .i64 0) (.int .i64 0)).alloc (.cells #[.int .i64 6, .int .i64 (A : Nat), .int .i64 (-1), .int .i64 mn, .int .i64 mx, .int .i64 cap, .bool lz, .int .u64 (wd st 0 : Nat), .int .u64 (wd st 1 : Nat), .int .u64 (wd st 2 : Nat), .int .u64 (wd st 3 : Nat)] 97)).frame f1 (by simp)
              have hn0 := Blk.nd (w.alloc (.cells #[.slice (some ⟨bk, 0, none⟩) ns.length cp, .int .i64 y, .int .i64 g, .int .i64 0, .int .i64 0] 148)) ⟨6, (A : Nat), (-1), mn, mx, cap, lz, st⟩
              rw [World.size_alloc] at hn0
              have hn1 := hn0.frame f1 (by simp)
              have r0 : w1.cell? ⟨w.heap.size, 0, none⟩ = some (.slice (some ⟨bk, 0, none⟩) ns.length cp) := ht1.cell (by omega)
              have r1 : w1.cell? ⟨w.heap.size, 1, none⟩ = some (.int .i64 y) := ht1.cell (by omega)
              have r2 : w1.cell? ⟨w.heap.size, 2, none⟩ = some (.int .i64 g) := ht1.cell (by omega)
              have r3 : w1.cell? ⟨w.heap.size, 3, none⟩ = some (.int .i64 0) := ht1.cell (by omega)
              have r4 : w1.cell? ⟨w.heap.size, 4, none⟩ = some (.int .i64 0) := ht1.cell (by omega)
              have q2 : w1.cell? ⟨w.heap.size + 1, 2, none⟩ = some (.int .i64 (-1)) := hn1.cell (by omega)
              have q3 : w1.cell? ⟨w.heap.size + 1, 3, none⟩ = some (.int .i64 mn) := hn1.cell (by omega)
              have q4 : w1.cell? ⟨w.heap.size + 1, 4, none⟩ = some (.int .i64 mx) := hn1.cell (by omega)
              go_wp2_with fail
              go_ret
              exact ⟨rfl, F1⟩
            · have hv : (zz ns k).1 = 2 := by rw [hzk]; simp [repZ, xa, hm, hx]
              rw [hv]
              clear hzk hv xa e6 e7 sA hx hm
              go_enter Tryz.func102, Tryz.ntmps102
              go_wp2_with fail
              refine (ihA _ (hN.frame F0 (fun h => h))).mono ?_
              rintro e w1 ⟨rfl, f1⟩
              have F1 := F0.trans f1 (fun _ _ h => h)
              have hN1 := hN.frame F1 (fun h => h)
              have ht1 := ((Blk.tr5 w (.slice (some ⟨bk, 0, none⟩) ns.length cp) (.int .i64 y) (.int .i64 g) (.int .i64 0) (.int .i64 0)).alloc (.cells #[.int .i64 6, .int .i64 (A : Nat), .int .i64 (-1), .int .i64 mn, .int .i64 mx, .int .i64 cap, .bool lz, .int .u64 (wd st 0 : Nat), .int .u64 (wd st 1 : Nat), .int .u64 (wd st 2 : Nat), .int .u64 (wd st 3 : Nat)] 97)).frame f1 (by simp)
              have hn0 := Blk.nd (w.alloc (.cells #[.slice (some ⟨bk, 0, none⟩) ns.length cp, .int .i64 y, .int .i64 g, .int .i64 0, .int .i64 0] 148)) ⟨6, (A : Nat), (-1), mn, mx, cap, lz, st⟩
              rw [World.size_alloc] at hn0
              have hn1 := hn0.frame f1 (by simp)
              have r0 : w1.cell? ⟨w.heap.size, 0, none⟩ = some (.slice (some ⟨bk, 0, none⟩) ns.length cp) := ht1.cell (by omega)
              have r1 : w1.cell? ⟨w.heap.size, 1, none⟩ = some (.int .i64 y) := ht1.cell (by omega)
              have r2 : w1.cell? ⟨w.heap.size, 2, none⟩ = some (.int .i64 g) := ht1.cell (by omega)
              have r3 : w1.cell? ⟨w.heap.size, 3, none⟩ = some (.int .i64 0) := ht1.cell (by omega)
              have r4 : w1.cell? ⟨w.heap.size, 4, none⟩ = some (.int .i64 0) := ht1.cell (by omega)
              have q2 : w1.cell? ⟨w.heap.size + 1, 2, none⟩ = some (.int .i64 (-1)) := hn1.cell (by omega)
              have q3 : w1.cell? ⟨w.heap.size + 1, 3, none⟩ = some (.int .i64 mn) := hn1.cell (by omega)
              have q4 : w1.cell? ⟨w.heap.size + 1, 4, none⟩ = some (.int .i64 mx) := hn1.cell (by omega)
              go_wp2_with fail
              go_ret
              exact ⟨rfl, F1⟩
        · have td : decide (0 < mn) = false := decide_eq_false hm
          by_cases hx : mx = 0
          · have tx : (mx == 0) = true := by simpa using hx
            rcases three sA with xa | xa | xa <;> rw [xa] at ihA
            · have hv : (zz ns k).1 = 0 := by rw [hzk]; simp [repZ, xa, hm, hx]
              rw [hv]
              clear hzk hv xa e6 e7 sA hx hm
              go_enter Tryz.func102, Tryz.ntmps102
              go_wp2_with fail
              refine (ihA _ (hN.frame F0 (fun h => h))).mono ?_
              rintro e w1 ⟨rfl, f1⟩
              have F1 := F0.trans f1 (fun _ _ h => h)
              have hN1 := hN.frame F1 (fun h => h)
              have ht1 := ((Blk.tr5 w (.slice (some ⟨bk, 0, none⟩) ns.length cp) (.int .i64 y) (.int .i64 g) (.int .i64 0) (.int .i64 0)).alloc (.cells #[.int .i64 6, .int .i64 (A : Nat), .int .i64 (-1), .int .i64 mn, .int .i64 mx, .int .i64 cap, .bool lz, .int .u64 (wd st 0 : Nat), .int .u64 (wd st 1 : Nat), .int .u64 (wd st 2 : Nat), .int .u64 (wd st 3 : Nat)] 97)).frame f1 (by simp)
              have hn0 := Blk.nd (w.alloc (.cells #[.slice (some ⟨bk, 0, none⟩) ns.length cp, .int .i64 y, .int .i64 g, .int .i64 0, .int .i64 0] 148)) ⟨6, (A : Nat), (-1), mn, mx, cap, lz, st⟩
              rw [World.size_alloc] at hn0
              have hn1 := hn0.frame f1 (by simp)
              have r0 : w1.cell? ⟨w.heap.size, 0, none⟩ = some (.slice (some ⟨bk, 0, none⟩) ns.length cp) := ht1.cell (by omega)
              have r1 : w1.cell? ⟨w.heap.size, 1, none⟩ = some (.int .i64 y) := ht1.cell (by omega)
              have r2 : w1.cell? ⟨w.heap.size, 2, none⟩ = some (.int .i64 g) := ht1.cell (by omega)
              have r3 : w1.cell? ⟨w.heap.size, 3, none⟩ = some (.int .i64 0) := ht1.cell (by omega)
              have r4 : w1.cell? ⟨w.heap.size, 4, none⟩ = some (.int .i64 0) := ht1.cell (by omega)
              have q2 : w1.cell? ⟨w.heap.size + 1, 2, none⟩ = some (.int .i64 (-1)) := hn1.cell (by omega)
              have q3 : w1.cell? ⟨w.heap.size + 1, 3, none⟩ = some (.int .i64 mn) := hn1.cell (by omega)
              have q4 : w1.cell? ⟨w.heap.size + 1, 4, none⟩ = some (.int .i64 mx) := hn1.cell (by omega)
              go_wp2_with fail
              go_ret
              exact ⟨rfl, F1⟩
            · have hv : (zz ns k).1 = 0 := by rw [hzk]; simp [repZ, xa, hm, hx]
              rw [hv]
              clear hzk hv xa e6 e7 sA hx hm
              go_enter Tryz.func102, Tryz.ntmps102
              go_wp2_with fail
              refine (ihA _ (hN.frame F0 (fun h => h))).mono ?_
              rintro e w1 ⟨rfl, f1⟩
              have F1 := F0.trans f1 (fun _ _ h => h)
              have hN1 := hN.frame F1 (fun h => h)
              have ht1 := ((Blk.tr5 w (.slice (some ⟨bk, 0, none⟩) ns.length cp) (.int .i64 y) (.int .i64 g) (.int .i64 0) (.int .i64 0)).alloc (.cells #[.int .i64 6, .int .i64 (A : Nat), .int .i64 (-1), .int .i64 mn, .int .i64 mx, .int .i64 cap, .bool lz, .int .u64 (wd st 0 : Nat), .int .u64 (wd st 1 : Nat), .int .u64 (wd st 2 : Nat), .int .u64 (wd st 3 : Nat)] 97)).frame f1 (by simp)
              have hn0 := Blk.nd (w.alloc (.cells #[.slice (some ⟨bk, 0, none⟩) ns.length cp, .int .i64 y, .int .i64 g, .int .i64 0, .int .i64 0] 148)) ⟨6, (A : Nat), (-1), mn, mx, cap, lz, st⟩
              rw [World.size_alloc] at hn0
              have hn1 := hn0.frame f1 (by simp)
              have r0 : w1.cell? ⟨w.heap.size, 0, none⟩ = some (.slice (some ⟨bk, 0, none⟩) ns.length cp) := ht1.cell (by omega)
              have r1 : w1.cell? ⟨w.heap.size, 1, none⟩ = some (.int .i64 y) := ht1.cell (by omega)
              have r2 : w1.cell? ⟨w.heap.size, 2, none⟩ = some (.int .i64 g) := ht1.cell (by omega)
              have r3 : w1.cell? ⟨w.heap.size, 3, none⟩ = some (.int .i64 0) := ht1.cell (by omega)
              have r4 : w1.cell? ⟨w.heap.size, 4, none⟩ = some (.int .i64 0) := ht1.cell (by omega)
              have q2 : w1.cell? ⟨w.heap.size + 1, 2, none⟩ = some (.int .i64 (-1)) := hn1.cell (by omega)
              have q3 : w1.cell? ⟨w.heap.size + 1, 3, none⟩ = some (.int .i64 mn) := hn1.cell (by omega)
              have q4 : w1.cell? ⟨w.heap.size + 1, 4, none⟩ = some (.int .i64 mx) := hn1.cell (by omega)
              go_wp2_with fail
              go_ret
              exact ⟨rfl, F1⟩
            · have hv : (zz ns k).1 = 0 := by rw [hzk]; simp [repZ, xa, hm, hx]
              rw [hv]
              clear hzk hv xa e6 e7 sA hx hm
              go_enter Tryz.func102, Tryz.ntmps102
              go_wp2_with fail
              refine (ihA _ (hN.frame F0 (fun h => h))).mono ?_
              rintro e w1 ⟨rfl, f1⟩
              have F1 := F0.trans f1 (fun _ _ h => h)
              have hN1 := hN.frame F1 (fun h => h)
              have ht1 := ((Blk.tr5 w (.slice (some ⟨bk, 0, none⟩) ns.length cp) (.int .i64 y) (.int .i64 g) (.int .i64 0) (.int .i64 0)).alloc (.cells #[.int .i64 6, .int .i64 (A : Nat), .int .i64 (-1), .int .i64 mn, .int .i64 mx, .int .i64 cap, .bool lz, .int .u64 (wd st 0 : Nat), .int .u64 (wd st 1 : Nat), .int .u64 (wd st 2 : Nat), .int .u64 (wd st 3 : Nat)] 97)).frame f1 (by simp)
              have hn0 := Blk.nd (w.alloc (.cells #[.slice (some ⟨bk, 0, none⟩) ns.length cp, .int .i64 y, .int .i64 g, .int .i64 0, .int .i64 0] 148)) ⟨6, (A : Nat), (-1), mn, mx, cap, lz, st⟩
              rw [World.size_alloc] at hn0
              have hn1 := hn0.frame f1 (by simp)
              have r0 : w1.cell? ⟨w.heap.size, 0, none⟩ = some (.slice (some ⟨bk, 0, none⟩) ns.length cp) := ht1.cell (by omega)
              have r1 : w1.cell? ⟨w.heap.size, 1, none⟩ = some (.int .i64 y) := ht1.cell (by omega)
              have r2 : w1.cell? ⟨w.heap.size, 2, none⟩ = some (.int .i64 g) := ht1.cell (by omega)
              have r3 : w1.cell? ⟨w.heap.size, 3, none⟩ = some (.int .i64 0) := ht1.cell (by omega)
              have r4 : w1.cell? ⟨w.heap.size, 4, none⟩ = some (.int .i64 0) := ht1.cell (by omega)
              have q2 : w1.cell? ⟨w.heap.size + 1, 2, none⟩ = some (.int .i64 (-1)) := hn1.cell (by omega)
              have q3 : w1.cell? ⟨w.heap.size + 1, 3, none⟩ = some (.int .i64 mn) := hn1.cell (by omega)
              have q4 : w1.cell? ⟨w.heap.size + 1, 4, none⟩ = some (.int .i64 mx) := hn1.cell (by omega)
              go_wp2_with fail
              go_ret
              exact ⟨rfl, F1⟩
          · have tx : (mx == 0) = false := by simpa using hx
            rcases three sA with xa | xa | xa <;> rw [xa] at ihA
            · have hv : (zz ns k).1 = 0 := by rw [hzk]; simp [repZ, xa, hm, hx]
              rw [hv]
              clear hzk hv xa e6 e7 sA hx hm
              go_enter Tryz.func102, Tryz.ntmps102
              go_wp2_with fail
              refine (ihA _ (hN.frame F0 (fun h => h))).mono ?_
              rintro e w1 ⟨rfl, f1⟩
              have F1 := F0.trans f1 (fun _ _ h => h)
              have hN1 := hN.frame F1 (fun h => h)
              have ht1 := ((Blk.tr5 w (.slice (some ⟨bk, 0, none⟩) ns.length cp) (.int .i64 y) (.int .i64 g) (.int .i64 0) (.int .i64 0)).alloc (.cells #[.int .i64 6, .int .i64 (A : Nat), .int .i64 (-1), .int .i64 mn, .int .i64 mx, .int .i64 cap, .bool lz, .int .u64 (wd st 0 : Nat), .int .u64 (wd st 1 : Nat), .int .u64 (wd st 2 : Nat), .int .u64 (wd st 3 : Nat)] 97)).frame f1 (by simp)
              have hn0 := Blk.nd (w.alloc (.cells #[.slice (some ⟨bk, 0, none⟩) ns.length cp, .int .i64 y, .int .i64 g, .int .i64 0, .int .i64 0] 148)) ⟨6, (A : Nat), (-1), mn, mx, cap, lz, st⟩
              rw [World.size_alloc] at hn0
              have hn1 := hn0.frame f1 (by simp)
              have r0 : w1.cell? ⟨w.heap.size, 0, none⟩ = some (.slice (some ⟨bk, 0, none⟩) ns.length cp) := ht1.cell (by omega)
              have r1 : w1.cell? ⟨w.heap.size, 1, none⟩ = some (.int .i64 y) := ht1.cell (by omega)
              have r2 : w1.cell? ⟨w.heap.size, 2, none⟩ = some (.int .i64 g) := ht1.cell (by omega)
              have r3 : w1.cell? ⟨w.heap.size, 3, none⟩ = some (.int .i64 0) := ht1.cell (by omega)
              have r4 : w1.cell? ⟨w.heap.size, 4, none⟩ = some (.int .i64 0) := ht1.cell (by omega)
              have q2 : w1.cell? ⟨w.heap.size + 1, 2, none⟩ = some (.int .i64 (-1)) := hn1.cell (by omega)
              have q3 : w1.cell? ⟨w.heap.size + 1, 3, none⟩ = some (.int .i64 mn) := hn1.cell (by omega)
              have q4 : w1.cell? ⟨w.heap.size + 1, 4, none⟩ = some (.int .i64 mx) := hn1.cell (by omega)
              go_wp2_with fail
              go_ret
              exact ⟨rfl, F1⟩
            · have hv : (zz ns k).1 = 0 := by rw [hzk]; simp [repZ, xa, hm, hx]
              rw [hv]
              clear hzk hv xa e6 e7 sA hx hm
              go_enter Tryz.func102, Tryz.ntmps102
              go_wp2_with fail
              refine (ihA _ (hN.frame F0 (fun h => h))).mono ?_
              rintro e w1 ⟨rfl, f1⟩
              have F1 := F0.trans f1 (fun _ _ h => h)
              have hN1 := hN.frame F1 (fun h => h)
              have ht1 := ((Blk.tr5 w (.slice (some ⟨bk, 0, none⟩) ns.length cp) (.int .i64 y) (.int .i64 g) (.int .i64 0) (.int .i64 0)).alloc (.cells #[.int .i64 6, .int .i64 (A : Nat), .int .i64 (-1), .int .i64 mn, .int .i64 mx, .int .i64 cap, .bool lz, .int .u64 (wd st 0 : Nat), .int .u64 (wd st 1 : Nat), .int .u64 (wd st 2 : Nat), .int .u64 (wd st 3 : Nat)] 97)).frame f1 (by simp)
              have hn0 := Blk.nd (w.alloc (.cells #[.slice (some ⟨bk, 0, none⟩) ns.length cp, .int .i64 y, .int .i64 g, .int .i64 0, .int .i64 0] 148)) ⟨6, (A : Nat), (-1), mn, mx, cap, lz, st⟩
              rw [World.size_alloc] at hn0
              have hn1 := hn0.frame f1 (by simp)
              have r0 : w1.cell? ⟨w.heap.size, 0, none⟩ = some (.slice (some ⟨bk, 0, none⟩) ns.length cp) := ht1.cell (by omega)
              have r1 : w1.cell? ⟨w.heap.size, 1, none⟩ = some (.int .i64 y) := ht1.cell (by omega)
              have r2 : w1.cell? ⟨w.heap.size, 2, none⟩ = some (.int .i64 g) := ht1.cell (by omega)
              have r3 : w1.cell? ⟨w.heap.size, 3, none⟩ = some (.int .i64 0) := ht1.cell (by omega)
              have r4 : w1.cell? ⟨w.heap.size, 4, none⟩ = some (.int .i64 0) := ht1.cell (by omega)
              have q2 : w1.cell? ⟨w.heap.size + 1, 2, none⟩ = some (.int .i64 (-1)) := hn1.cell (by omega)
              have q3 : w1.cell? ⟨w.heap.size + 1, 3, none⟩ = some (.int .i64 mn) := hn1.cell (by omega)
              have q4 : w1.cell? ⟨w.heap.size + 1, 4, none⟩ = some (.int .i64 mx) := hn1.cell (by omega)
              go_wp2_with fail
              go_ret
              exact ⟨rfl, F1⟩
            · have hv : (zz ns k).1 = 2 := by rw [hzk]; simp [repZ, xa, hm, hx]
              rw [hv]
              clear hzk hv xa e6 e7 sA hx hm
              go_enter Tryz.func102, Tryz.ntmps102
              go_wp2_with fail
              refine (ihA _ (hN.frame F0 (fun h => h))).mono ?_
              rintro e w1 ⟨rfl, f1⟩
              have F1 := F0.trans f1 (fun _ _ h => h)
              have hN1 := hN.frame F1 (fun h => h)
              have ht1 := ((Blk.tr5 w (.slice (some ⟨bk, 0, none⟩) ns.length cp) (.int .i64 y) (.int .i64 g) (.int .i64 0) (.int .i64 0)).alloc (.cells #[.int .i64 6, .int .i64 (A : Nat), .int .i64 (-1), .int .i64 mn, .int .i64 mx, .int .i64 cap, .bool lz, .int .u64 (wd st 0 : Nat), .int .u64 (wd st 1 : Nat), .int .u64 (wd st 2 : Nat), .int .u64 (wd st 3 : Nat)] 97)).frame f1 (by simp)
              have hn0 := Blk.nd (w.alloc (.cells #[.slice (some ⟨bk, 0, none⟩) ns.length cp, .int .i64 y, .int .i64 g, .int .i64 0, .int .i64 0] 148)) ⟨6, (A : Nat), (-1), mn, mx, cap, lz, st⟩
              rw [World.size_alloc] at hn0
              have hn1 := hn0.frame f1 (by simp)
              have r0 : w1.cell? ⟨w.heap.size, 0, none⟩ = some (.slice (some ⟨bk, 0, none⟩) ns.length cp) := ht1.cell (by omega)
              have r1 : w1.cell? ⟨w.heap.size, 1, none⟩ = some (.int .i64 y) := ht1.cell (by omega)
              have r2 : w1.cell? ⟨w.heap.size, 2, none⟩ = some (.int .i64 g) := ht1.cell (by omega)
              have r3 : w1.cell? ⟨w.heap.size, 3, none⟩ = some (.int .i64 0) := ht1.cell (by omega)
              have r4 : w1.cell? ⟨w.heap.size, 4, none⟩ = some (.int .i64 0) := ht1.cell (by omega)
              have q2 : w1.cell? ⟨w.heap.size + 1, 2, none⟩ = some (.int .i64 (-1)) := hn1.cell (by omega)
              have q3 : w1.cell? ⟨w.heap.size + 1, 3, none⟩ = some (.int .i64 mn) := hn1.cell (by omega)
              have q4 : w1.cell? ⟨w.heap.size + 1, 4, none⟩ = some (.int .i64 mx) := hn1.cell (by omega)
              go_wp2_with fail
              go_ret
              exact ⟨rfl, F1⟩
      · rw [e7] at hzk
        have F0 := ((Fr.refl (fun _ => False) w).alloc (.cells #[.slice (some ⟨bk, 0, none⟩) ns.length cp, .int .i64 y, .int .i64 g, .int .i64 0, .int .i64 0] 148)).alloc (.cells #[.int .i64 7, .int .i64 (A : Nat), .int .i64 (-1), .int .i64 mn, .int .i64 mx, .int .i64 cap, .bool lz, .int .u64 (wd st 0 : Nat), .int .u64 (wd st 1 : Nat), .int .u64 (wd st 2 : Nat), .int .u64 (wd st 3 : Nat)] 97)
        rcases three sA with xa | xa | xa <;> rw [xa] at ihA
        · have hv : (zz ns k).1 = 2 := by rw [hzk]; simp [grpZ, xa]
          rw [hv]
          clear hzk hv xa e6 e7 sA
          go_enter Tryz.func102, Tryz.ntmps102
          go_wp2_with fail
          refine (ihA _ (hN.frame F0 (fun h => h))).mono ?_
          rintro e w1 ⟨rfl, f1⟩
          have F1 := F0.trans f1 (fun _ _ h => h)
          have hN1 := hN.frame F1 (fun h => h)
          have ht1 := ((Blk.tr5 w (.slice (some ⟨bk, 0, none⟩) ns.length cp) (.int .i64 y) (.int .i64 g) (.int .i64 0) (.int .i64 0)).alloc (.cells #[.int .i64 7, .int .i64 (A : Nat), .int .i64 (-1), .int .i64 mn, .int .i64 mx, .int .i64 cap, .bool lz, .int .u64 (wd st 0 : Nat), .int .u64 (wd st 1 : Nat), .int .u64 (wd st 2 : Nat), .int .u64 (wd st 3 : Nat)] 97)).frame f1 (by simp)
          have hn0 := Blk.nd (w.alloc (.cells #[.slice (some ⟨bk, 0, none⟩) ns.length cp, .int .i64 y, .int .i64 g, .int .i64 0, .int .i64 0] 148)) ⟨7, (A : Nat), (-1), mn, mx, cap, lz, st⟩
          rw [World.size_alloc] at hn0
          have hn1 := hn0.frame f1 (by simp)
          have r0 : w1.cell? ⟨w.heap.size, 0, none⟩ = some (.slice (some ⟨bk, 0, none⟩) ns.length cp) := ht1.cell (by omega)
          have r1 : w1.cell? ⟨w.heap.size, 1, none⟩ = some (.int .i64 y) := ht1.cell (by omega)
          have r2 : w1.cell? ⟨w.heap.size, 2, none⟩ = some (.int .i64 g) := ht1.cell (by omega)
          have r3 : w1.cell? ⟨w.heap.size, 3, none⟩ = some (.int .i64 0) := ht1.cell (by omega)
          have r4 : w1.cell? ⟨w.heap.size, 4, none⟩ = some (.int .i64 0) := ht1.cell (by omega)
          have q2 : w1.cell? ⟨w.heap.size + 1, 2, none⟩ = some (.int .i64 (-1)) := hn1.cell (by omega)
          have q3 : w1.cell? ⟨w.heap.size + 1, 3, none⟩ = some (.int .i64 mn) := hn1.cell (by omega)
          have q4 : w1.cell? ⟨w.heap.size + 1, 4, none⟩ = some (.int .i64 mx) := hn1.cell (by omega)
          go_wp2_with fail
          go_ret
          exact ⟨rfl, F1⟩
        · have hv : (zz ns k).1 = 1 := by rw [hzk]; simp [grpZ, xa]
          rw [hv]
          clear hzk hv xa e6 e7 sA
          go_enter Tryz.func102, Tryz.ntmps102
          go_wp2_with fail
          refine (ihA _ (hN.frame F0 (fun h => h))).mono ?_
          rintro e w1 ⟨rfl, f1⟩
          have F1 := F0.trans f1 (fun _ _ h => h)
          have hN1 := hN.frame F1 (fun h => h)
          have ht1 := ((Blk.tr5 w (.slice (some ⟨bk, 0, none⟩) ns.length cp) (.int .i64 y) (.int .i64 g) (.int .i64 0) (.int .i64 0)).alloc (.cells #[.int .i64 7, .int .i64 (A : Nat), .int .i64 (-1), .int .i64 mn, .int .i64 mx, .int .i64 cap, .bool lz, .int .u64 (wd st 0 : Nat), .int .u64 (wd st 1 : Nat), .int .u64 (wd st 2 : Nat), .int .u64 (wd st 3 : Nat)] 97)).frame f1 (by simp)
          have hn0 := Blk.nd (w.alloc (.cells #[.slice (some ⟨bk, 0, none⟩) ns.length cp, .int .i64 y, .int .i64 g, .int .i64 0, .int .i64 0] 148)) ⟨7, (A : Nat), (-1), mn, mx, cap, lz, st⟩
          rw [World.size_alloc] at hn0
          have hn1 := hn0.frame f1 (by simp)
          have r0 : w1.cell? ⟨w.heap.size, 0, none⟩ = some (.slice (some ⟨bk, 0, none⟩) ns.length cp) := ht1.cell (by omega)
          have r1 : w1.cell? ⟨w.heap.size, 1, none⟩ = some (.int .i64 y) := ht1.cell (by omega)
          have r2 : w1.cell? ⟨w.heap.size, 2, none⟩ = some (.int .i64 g) := ht1.cell (by omega)
          have r3 : w1.cell? ⟨w.heap.size, 3, none⟩ = some (.int .i64 0) := ht1.cell (by omega)
          have r4 : w1.cell? ⟨w.heap.size, 4, none⟩ = some (.int .i64 0) := ht1.cell (by omega)
          have q2 : w1.cell? ⟨w.heap.size + 1, 2, none⟩ = some (.int .i64 (-1)) := hn1.cell (by omega)
          have q3 : w1.cell? ⟨w.heap.size + 1, 3, none⟩ = some (.int .i64 mn) := hn1.cell (by omega)
          have q4 : w1.cell? ⟨w.heap.size + 1, 4, none⟩ = some (.int .i64 mx) := hn1.cell (by omega)
          go_wp2_with fail
          go_ret
          exact ⟨rfl, F1⟩
        · have hv : (zz ns k).1 = 2 := by rw [hzk]; simp [grpZ, xa]
          rw [hv]
          clear hzk hv xa e6 e7 sA
          go_enter Tryz.func102, Tryz.ntmps102
          go_wp2_with fail
          refine (ihA _ (hN.frame F0 (fun h => h))).mono ?_
          rintro e w1 ⟨rfl, f1⟩
          have F1 := F0.trans f1 (fun _ _ h => h)
          have hN1 := hN.frame F1 (fun h => h)
          have ht1 := ((Blk.tr5 w (.slice (some ⟨bk, 0, none⟩) ns.length cp) (.int .i64 y) (.int .i64 g) (.int .i64 0) (.int .i64 0)).alloc (.cells #[.int .i64 7, .int .i64 (A : Nat), .int .i64 (-1), .int .i64 mn, .int .i64 mx, .int .i64 cap, .bool lz, .int .u64 (wd st 0 : Nat), .int .u64 (wd st 1 : Nat), .int .u64 (wd st 2 : Nat), .int .u64 (wd st 3 : Nat)] 97)).frame f1 (by simp)
          have hn0 := Blk.nd (w.alloc (.cells #[.slice (some ⟨bk, 0, none⟩) ns.length cp, .int .i64 y, .int .i64 g, .int .i64 0, .int .i64 0] 148)) ⟨7, (A : Nat), (-1), mn, mx, cap, lz, st⟩
          rw [World.size_alloc] at hn0
          have hn1 := hn0.frame f1 (by simp)
          have r0 : w1.cell? ⟨w.heap.size, 0, none⟩ = some (.slice (some ⟨bk, 0, none⟩) ns.length cp) := ht1.cell (by omega)
          have r1 : w1.cell? ⟨w.heap.size, 1, none⟩ = some (.int .i64 y) := ht1.cell (by omega)
          have r2 : w1.cell? ⟨w.heap.size, 2, none⟩ = some (.int .i64 g) := ht1.cell (by omega)
          have r3 : w1.cell? ⟨w.heap.size, 3, none⟩ = some (.int .i64 0) := ht1.cell (by omega)
          have r4 : w1.cell? ⟨w.heap.size, 4, none⟩ = some (.int .i64 0) := ht1.cell (by omega)
          have q2 : w1.cell? ⟨w.heap.size + 1, 2, none⟩ = some (.int .i64 (-1)) := hn1.cell (by omega)
          have q3 : w1.cell? ⟨w.heap.size + 1, 3, none⟩ = some (.int .i64 mn) := hn1.cell (by omega)
          have q4 : w1.cell? ⟨w.heap.size + 1, 4, none⟩ = some (.int .i64 mx) := hn1.cell (by omega)
          go_wp2_with fail
          go_ret
          exact ⟨rfl, F1⟩
end Go.Proofs.Qxb6500283aGreat
