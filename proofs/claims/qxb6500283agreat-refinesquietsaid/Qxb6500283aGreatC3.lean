/- The model's Nullable. -/
import Derived.Test.Qxb6500283aGreatC2
namespace Go.Proofs.Qxb6500283aGreat
open Go Go.RowKit

def trCell (v : Value) (j : Nat) : Value := match j with | 0 => v | _ => .int .i64 0
theorem Blk.tr (w : World) (v : Value) : Blk (w.alloc (.cells #[v, .int .i64 0, .int .i64 0, .int .i64 0, .int .i64 0] 148)) w.heap.size 5 (trCell v) :=
  Blk.new w _ _ _ fun o ho => by
    rcases lt5 (show o < 5 by simpa using ho) with rfl | rfl | rfl | rfl | rfl <;> rfl
set_option maxRecDepth 100000 in
set_option maxHeartbeats 8000000 in
theorem nullM_any {ns : List Nd} (hwf : WF ns) : ∀ k, k < ns.length → ∀ (w : World) (bk cp : Nat), NPAt w bk ns → Calls Tryz.prog 153 #[.agg #[.slice (some ⟨bk, 0, none⟩) ns.length cp, .int .i64 0, .int .i64 0, .int .i64 0, .int .i64 0], .int .i64 (k : Nat)] w fun e w' => e = .returned (.bool (nul ns k)) ∧ Fr (fun _ => False) w w' := by
  intro k
  induction k using Nat.strongRecOn with
  | ind k ih =>
    intro hk w bk cp hN
    have hbl : bk < w.heap.size := by
      have h1 := hN k hk 0 (by omega)
      exact World.block_lt_of_cell? w _ h1
    have hok := hwf k hk
    have hnul := nul_eq hwf k hk
    have n0 := hN k hk 0 (by omega)
    have n1 := hN k hk 1 (by omega)
    have n2 := hN k hk 2 (by omega)
    have n3 := hN k hk 3 (by omega)
    have n4 := hN k hk 4 (by omega)
    have n5 := hN k hk 5 (by omega)
    have n6 := hN k hk 6 (by omega)
    have n7 := hN k hk 7 (by omega)
    have n8 := hN k hk 8 (by omega)
    have n9 := hN k hk 9 (by omega)
    have n10 := hN k hk 10 (by omega)
    simp only [ndCell, Nat.add_zero] at n0 n1 n2 n3 n4 n5 n6 n7 n8 n9 n10
    generalize ns[k] = nd at *
    obtain ⟨kind, a, b, mn, mx, cap, lz, st⟩ := nd
    simp only at hok hnul n0 n1 n2 n3 n4 n5 n6 n7 n8 n9 n10
    have F0 := ((Fr.refl (fun _ => False) w).alloc (.cells #[.slice (some ⟨bk, 0, none⟩) ns.length cp, .int .i64 0, .int .i64 0, .int .i64 0, .int .i64 0] 148)).alloc (.cells #[.int .i64 kind, .int .i64 a, .int .i64 b, .int .i64 mn, .int .i64 mx, .int .i64 cap, .bool lz, .int .u64 (wd st 0 : Nat), .int .u64 (wd st 1 : Nat), .int .u64 (wd st 2 : Nat), .int .u64 (wd st 3 : Nat)] 97)
    have Hk : Hid _ := hk
    have hk24 : (k : Int) < ns.length := by omega
    rcases hok with ⟨hkd, ha, hb'⟩ | ⟨hkd, h1, h2, h3, h4⟩ | ⟨hkd, h1, h2, hb'⟩
    · simp only at hkd ha hb'
      subst ha hb'
      rw [hnul]
      rcases hkd with rfl | rfl | rfl | rfl
      all_goals
        go_enter Tryz.func153, Tryz.ntmps153
        go_wp2_with fail
        go_ret
        exact ⟨rfl, F0⟩
    · simp only at hkd h1 h2 h3 h4
      obtain ⟨A, rfl⟩ : ∃ A : Nat, a = A := ⟨a.toNat, by omega⟩
      obtain ⟨B, rfl⟩ : ∃ B : Nat, b = B := ⟨b.toNat, by omega⟩
      have hA : A < k := by omega
      have hB : B < k := by omega
      have e4 : nullNd (nulL ns) ⟨4, A, B, mn, mx, cap, lz, st⟩ = (nul ns A && nul ns B) := rfl
      have e5 : nullNd (nulL ns) ⟨5, A, B, mn, mx, cap, lz, st⟩ = (nul ns A || nul ns B) := rfl
      rcases hkd with rfl | rfl
      · rw [hnul, e4]
        go_enter Tryz.func153, Tryz.ntmps153
        go_wp2_with fail
        refine (ih A hA (by omega) _ bk cp (hN.frame F0 (fun h => h))).mono ?_
        rintro e w1 ⟨rfl, f1⟩
        have F1 := F0.trans f1 (fun _ _ h => h)
        have hN1 := hN.frame F1 (fun h => h)
        have ht1 := ((Blk.tr w (.slice (some ⟨bk, 0, none⟩) ns.length cp)).alloc (.cells #[.int .i64 4, .int .i64 (A : Nat), .int .i64 (B : Nat), .int .i64 mn, .int .i64 mx, .int .i64 cap, .bool lz, .int .u64 (wd st 0 : Nat), .int .u64 (wd st 1 : Nat), .int .u64 (wd st 2 : Nat), .int .u64 (wd st 3 : Nat)] 97)).frame f1 (by simp)
        have hn0 := Blk.nd (w.alloc (.cells #[.slice (some ⟨bk, 0, none⟩) ns.length cp, .int .i64 0, .int .i64 0, .int .i64 0, .int .i64 0] 148)) ⟨4, (A : Nat), (B : Nat), mn, mx, cap, lz, st⟩
        rw [World.size_alloc] at hn0
        have hn1 := hn0.frame f1 (by simp)
        have r0 : w1.cell? ⟨w.heap.size, 0, none⟩ = some (.slice (some ⟨bk, 0, none⟩) ns.length cp) := ht1.cell (by omega)
        have r1 : w1.cell? ⟨w.heap.size, 1, none⟩ = some (.int .i64 0) := ht1.cell (by omega)
        have r2 : w1.cell? ⟨w.heap.size, 2, none⟩ = some (.int .i64 0) := ht1.cell (by omega)
        have r3 : w1.cell? ⟨w.heap.size, 3, none⟩ = some (.int .i64 0) := ht1.cell (by omega)
        have r4 : w1.cell? ⟨w.heap.size, 4, none⟩ = some (.int .i64 0) := ht1.cell (by omega)
        have q2 : w1.cell? ⟨w.heap.size + 1, 2, none⟩ = some (.int .i64 (B : Nat)) := hn1.cell (by omega)
        cases hx : nul ns A with
        | false =>
          go_wp2_with fail
          go_ret
          exact ⟨by simp [hx], F1⟩
        | true =>
          go_wp2_with fail
          refine (ih B hB (by omega) _ bk cp hN1).mono ?_
          rintro e w2 ⟨rfl, f2⟩
          have F2 := F1.trans f2 (fun _ _ h => h)
          go_wp2_with fail
          go_ret
          exact ⟨by simp [hx], F2⟩
      · rw [hnul, e5]
        go_enter Tryz.func153, Tryz.ntmps153
        go_wp2_with fail
        refine (ih A hA (by omega) _ bk cp (hN.frame F0 (fun h => h))).mono ?_
        rintro e w1 ⟨rfl, f1⟩
        have F1 := F0.trans f1 (fun _ _ h => h)
        have hN1 := hN.frame F1 (fun h => h)
        have ht1 := ((Blk.tr w (.slice (some ⟨bk, 0, none⟩) ns.length cp)).alloc (.cells #[.int .i64 5, .int .i64 (A : Nat), .int .i64 (B : Nat), .int .i64 mn, .int .i64 mx, .int .i64 cap, .bool lz, .int .u64 (wd st 0 : Nat), .int .u64 (wd st 1 : Nat), .int .u64 (wd st 2 : Nat), .int .u64 (wd st 3 : Nat)] 97)).frame f1 (by simp)
        have hn0 := Blk.nd (w.alloc (.cells #[.slice (some ⟨bk, 0, none⟩) ns.length cp, .int .i64 0, .int .i64 0, .int .i64 0, .int .i64 0] 148)) ⟨5, (A : Nat), (B : Nat), mn, mx, cap, lz, st⟩
        rw [World.size_alloc] at hn0
        have hn1 := hn0.frame f1 (by simp)
        have r0 : w1.cell? ⟨w.heap.size, 0, none⟩ = some (.slice (some ⟨bk, 0, none⟩) ns.length cp) := ht1.cell (by omega)
        have r1 : w1.cell? ⟨w.heap.size, 1, none⟩ = some (.int .i64 0) := ht1.cell (by omega)
        have r2 : w1.cell? ⟨w.heap.size, 2, none⟩ = some (.int .i64 0) := ht1.cell (by omega)
        have r3 : w1.cell? ⟨w.heap.size, 3, none⟩ = some (.int .i64 0) := ht1.cell (by omega)
        have r4 : w1.cell? ⟨w.heap.size, 4, none⟩ = some (.int .i64 0) := ht1.cell (by omega)
        have q2 : w1.cell? ⟨w.heap.size + 1, 2, none⟩ = some (.int .i64 (B : Nat)) := hn1.cell (by omega)
        cases hx : nul ns A with
        | true =>
          go_wp2_with fail
          go_ret
          exact ⟨by simp [hx], F1⟩
        | false =>
          go_wp2_with fail
          refine (ih B hB (by omega) _ bk cp hN1).mono ?_
          rintro e w2 ⟨rfl, f2⟩
          have F2 := F1.trans f2 (fun _ _ h => h)
          go_wp2_with fail
          go_ret
          exact ⟨by simp [hx], F2⟩
    · simp only at hkd h1 h2 hb'
      subst hb'
      obtain ⟨A, rfl⟩ : ∃ A : Nat, a = A := ⟨a.toNat, by omega⟩
      have hA : A < k := by omega
      have e6 : nullNd (nulL ns) ⟨6, A, -1, mn, mx, cap, lz, st⟩ = (decide (mn = 0) || nul ns A) := rfl
      have e7 : nullNd (nulL ns) ⟨7, A, -1, mn, mx, cap, lz, st⟩ = nul ns A := rfl
      rcases hkd with rfl | rfl
      · rw [hnul, e6]
        by_cases hm : mn = 0
        · subst hm
          go_enter Tryz.func153, Tryz.ntmps153
          go_wp2_with fail
          go_ret
          exact ⟨by simp, F0⟩
        · have t0 : (mn == 0) = false := by simpa using hm
          go_enter Tryz.func153, Tryz.ntmps153
          go_wp2_with fail
          refine (ih A hA (by omega) _ bk cp (hN.frame F0 (fun h => h))).mono ?_
          rintro e w1 ⟨rfl, f1⟩
          have F1 := F0.trans f1 (fun _ _ h => h)
          go_wp2_with fail
          go_ret
          exact ⟨by simp [hm], F1⟩
      · rw [hnul, e7]
        go_enter Tryz.func153, Tryz.ntmps153
        go_wp2_with fail
        refine (ih A hA (by omega) _ bk cp (hN.frame F0 (fun h => h))).mono ?_
        rintro e w1 ⟨rfl, f1⟩
        have F1 := F0.trans f1 (fun _ _ h => h)
        go_wp2_with fail
        go_ret
        exact ⟨rfl, F1⟩
end Go.Proofs.Qxb6500283aGreat
