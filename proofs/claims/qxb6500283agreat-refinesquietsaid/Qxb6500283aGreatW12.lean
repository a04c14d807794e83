/- New, Check. -/
import Derived.Test.Qxb6500283aGreatW11
namespace Go.Proofs.Qxb6500283aGreat
open Go Go.RowKit

def simpCell (x j : Nat) : Value := match j with | 0 => .pointer (some ⟨x, 0, none⟩) | 1 => .slice none 0 0 | 2 => .slice none 0 0 | 3 => .slice none 0 0 | 4 => .int .i64 0 | 5 => .slice none 0 0 | 6 => .int .i64 0 | 7 => .slice none 0 0 | _ => .int .i64 0
theorem Blk.simp (w : World) (x : Nat) : Blk (w.alloc (.cells #[.pointer (some ⟨x, 0, none⟩), .slice none 0 0, .slice none 0 0, .slice none 0 0, .int .i64 0, .slice none 0 0, .int .i64 0, .slice none 0 0, .int .i64 0] 109)) w.heap.size 9 (simpCell x) :=
  Blk.new w _ _ _ fun o ho => by
    have ho : o < 9 := by simpa using ho
    obtain rfl | rfl | rfl | rfl | rfl | rfl | rfl | rfl | rfl : o = 0 ∨ o = 1 ∨ o = 2 ∨ o = 3 ∨ o = 4 ∨ o = 5 ∨ o = 6 ∨ o = 7 ∨ o = 8 := by omega
    all_goals rfl
set_option maxRecDepth 100000 in
set_option maxHeartbeats 8000000 in
theorem newS_any {w : World} {x : Nat} (hX : RAny w x ⟨#[]⟩) : Calls Tryz.prog 19 #[.pointer (some ⟨x, 0, none⟩)] w fun v w' => v = .returned (.pointer (some ⟨w.heap.size, 0, none⟩)) ∧ SAny w' w.heap.size x ∧ Fr (fun _ => False) w w' := by
  have hxl : x < w.heap.size := by
    obtain ⟨f, iv, ns, g, t, r, e, q, hb, _⟩ := hX
    exact hb.lt
  have hB0 := Blk.simp w x
  have k0 : Fr (fun _ => False) w (w.alloc (.cells #[.pointer (some ⟨x, 0, none⟩), .slice none 0 0, .slice none 0 0, .slice none 0 0, .int .i64 0, .slice none 0 0, .int .i64 0, .slice none 0 0, .int .i64 0] 109)) := (Fr.refl _ _).alloc _
  go_enter Tryz.func19, Tryz.ntmps19
  go_wp2_with (first | (have _hh := b4; refine wpList_makeB (by rfl) 105 _ _ (by rfl) 3 1 8 (.int .i64 0) 25 (by rfl) (by rfl) Tryz.underlying105 (by kernel_rfl) (by kernel_rfl) (by kernel_rfl) (by omega) (by omega) ?_; intro w5 f5 z5 b5; have hB5 := (hB4.set 5 (.slice (some ⟨w.heap.size + 1 + 1 + 1 + 1, 0, none⟩) 49 49)).frame f5 (fun h => h); have F5 := (F4.setC w.heap.size 5 (.slice (some ⟨w.heap.size + 1 + 1 + 1 + 1, 0, none⟩) 49 49) (fun h => by omega)).trans f5 (fun _ _ h => h); have K5 := ((Fr.refl (fun b => b = w.heap.size) w4).setC w.heap.size 5 (.slice (some ⟨w.heap.size + 1 + 1 + 1 + 1, 0, none⟩) 49 49) (fun _ => rfl)).trans f5 (fun _ _ h => h.elim); have y5 := hB5.cell (o := 7) (by omega); have zz5 := hB5.frozen; have l5 := hB5.lt) | (have _hh := b3; refine wpList_makeB (by rfl) 107 _ _ (by rfl) 206 4 32 (.agg #[.int .i64 0, .int .i64 0, .int .i64 0, .int .i64 0]) 49 (by rfl) (by rfl) Tryz.underlying107 (by kernel_rfl) (by kernel_rfl) (by kernel_rfl) (by omega) (by omega) ?_; intro w4 f4 z4 b4; have hB4 := (hB3.set 3 (.slice (some ⟨w.heap.size + 1 + 1 + 1, 0, none⟩) 31 31)).frame f4 (fun h => h); have F4 := (F3.setC w.heap.size 3 (.slice (some ⟨w.heap.size + 1 + 1 + 1, 0, none⟩) 31 31) (fun h => by omega)).trans f4 (fun _ _ h => h); have K4 := ((Fr.refl (fun b => b = w.heap.size) w3).setC w.heap.size 3 (.slice (some ⟨w.heap.size + 1 + 1 + 1, 0, none⟩) 31 31) (fun _ => rfl)).trans f4 (fun _ _ h => h.elim); have y4 := hB4.cell (o := 5) (by omega); have zz4 := hB4.frozen; have l4 := hB4.lt) | (have _hh := b2; refine wpList_makeB (by rfl) 106 _ _ (by rfl) 97 11 88 nd0V 31 (by rfl) (by rfl) Tryz.underlying106 (by kernel_rfl) (by kernel_rfl) (by kernel_rfl) (by omega) (by omega) ?_; intro w3 f3 z3 b3; have hB3 := (hB2.set 2 (.slice (some ⟨w.heap.size + 1 + 1, 0, none⟩) 24 24)).frame f3 (fun h => h); have F3 := (F2.setC w.heap.size 2 (.slice (some ⟨w.heap.size + 1 + 1, 0, none⟩) 24 24) (fun h => by omega)).trans f3 (fun _ _ h => h); have K3 := ((Fr.refl (fun b => b = w.heap.size) w2).setC w.heap.size 2 (.slice (some ⟨w.heap.size + 1 + 1, 0, none⟩) 24 24) (fun _ => rfl)).trans f3 (fun _ _ h => h.elim); have y3 := hB3.cell (o := 3) (by omega); have zz3 := hB3.frozen; have l3 := hB3.lt) | (have _hh := b1; refine wpList_makeB (by rfl) 105 _ _ (by rfl) 3 1 8 (.int .i64 0) 24 (by rfl) (by rfl) Tryz.underlying105 (by kernel_rfl) (by kernel_rfl) (by kernel_rfl) (by omega) (by omega) ?_; intro w2 f2 z2 b2; have hB2 := (hB1.set 1 (.slice (some ⟨w.heap.size + 1, 0, none⟩) 24 24)).frame f2 (fun h => h); have F2 := (F1.setC w.heap.size 1 (.slice (some ⟨w.heap.size + 1, 0, none⟩) 24 24) (fun h => by omega)).trans f2 (fun _ _ h => h); have K2 := ((Fr.refl (fun b => b = w.heap.size) w1).setC w.heap.size 1 (.slice (some ⟨w.heap.size + 1, 0, none⟩) 24 24) (fun _ => rfl)).trans f2 (fun _ _ h => h.elim); have y2 := hB2.cell (o := 2) (by omega); have zz2 := hB2.frozen; have l2 := hB2.lt) | (refine wpList_makeB (by rfl) 105 _ _ (by rfl) 3 1 8 (.int .i64 0) 24 (by rfl) (by rfl) Tryz.underlying105 (by kernel_rfl) (by kernel_rfl) (by kernel_rfl) (by omega) (by omega) ?_; intro w1 f1 z1 b1; have hB1 := hB0.frame f1 (fun h => h); have F1 := k0.trans f1 (fun _ _ h => h); have y1 := hB1.cell (o := 1) (by omega); have zz1 := hB1.frozen; have l1 := hB1.lt))
  have K6 := (Fr.refl (fun b => b = w.heap.size) w5).setC w.heap.size 7 (.slice (some ⟨w.heap.size + 1 + 1 + 1 + 1 + 1, 0, none⟩) 25 25) (fun _ => rfl)
  have F6 := F5.setC w.heap.size 7 (.slice (some ⟨w.heap.size + 1 + 1 + 1 + 1 + 1, 0, none⟩) 25 25) (fun h => by omega)
  have hB6 := hB5.set 7 (.slice (some ⟨w.heap.size + 1 + 1 + 1 + 1 + 1, 0, none⟩) 25 25)
  simp only [World.size_alloc, World.size_setCell] at b1 b2 b3 b4 b5 z1 z2 z3 z4 z5
  rw [z1] at b2
  rw [z2, z1] at b3
  rw [z3, z2, z1] at b4
  rw [z4, z3, z2, z1] at b5
  have B1 := ((((b1.frame K2 (by omega)).frame K3 (by omega)).frame K4 (by omega)).frame K5 (by omega)).frame K6 (by omega)
  have B2 := (((b2.frame K3 (by omega)).frame K4 (by omega)).frame K5 (by omega)).frame K6 (by omega)
  have B3 := ((b3.frame K4 (by omega)).frame K5 (by omega)).frame K6 (by omega)
  have B4 := (b4.frame K5 (by omega)).frame K6 (by omega)
  have B5 := b5.frame K6 (by omega)
  refine bodyPost_ret (v := .pointer (some ⟨w.heap.size, 0, none⟩)) (by simp [results, Tryz.results19, go_sem]) rfl ⟨rfl, ⟨⟨[], by simp, _, _, _, _, hB6, ?_, B3, fun i hi => by simp at hi, B4, trivial, B5, trivial⟩, ⟨_, _, B1, B2, fun k hk => absurd hk (Nat.not_lt_zero _)⟩, hX.frame F6 (fun h => h), by unfold SAt; omega⟩, F6⟩
  exact ⟨by simp [upd, simpCell], by simp [upd], by simp [upd], by simp [upd], by simp [upd, simpCell], by simp [upd], by simp [upd, simpCell], by simp [upd], by simp [upd, simpCell]⟩
end Go.Proofs.Qxb6500283aGreat
