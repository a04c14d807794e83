import Derived.Test.Qxb6500283aGreatPmWNewF
import Derived.Deep.LoopGhost
namespace Go.Proofs.Qxb6500283aGreat
open Go Go.RowKit

theorem pz_set (x a : Nat) (e1 : a = x + 1) (o : Nat) (ho : o < 266) : ((((((pz.setIfInBounds 129 (.slice (some ⟨a, 0, none⟩) 512 512)).setIfInBounds 259 (.slice (some ⟨a + 1, 0, none⟩) 512 512)).setIfInBounds 260 (.slice (some ⟨a + 1 + 1, 0, none⟩) 65 65)).setIfInBounds
    262 (.slice (some ⟨a + 1 + 1 + 1, 0, none⟩) 8 8)).setIfInBounds 263 (.slice (some ⟨a + 1 + 1 + 1 + 1, 0, none⟩) 8 8)).setIfInBounds 264 (.slice (some ⟨a + 1 + 1 + 1 + 1 + 1, 0, none⟩) 8 8))[o]? = some (pcell x (fun _ => 0) o) := by
  subst e1
  have hz := pz_at o ho
  have hs := pz_size
  by_cases h1 : o = 264
  · subst h1; simp [pcell, hs]
  rw [Array.getElem?_setIfInBounds_ne (fun e => h1 e.symm)]
  by_cases h2 : o = 263
  · subst h2; simp [pcell, hs]
  rw [Array.getElem?_setIfInBounds_ne (fun e => h2 e.symm)]
  by_cases h3 : o = 262
  · subst h3; simp [pcell, hs]
  rw [Array.getElem?_setIfInBounds_ne (fun e => h3 e.symm)]
  by_cases h4 : o = 260
  · subst h4; simp [pcell, hs]
  rw [Array.getElem?_setIfInBounds_ne (fun e => h4 e.symm)]
  by_cases h5 : o = 259
  · subst h5; simp [pcell, hs]
  rw [Array.getElem?_setIfInBounds_ne (fun e => h5 e.symm)]
  by_cases h6 : o = 129
  · subst h6; simp [pcell, hs]
  rw [Array.getElem?_setIfInBounds_ne (fun e => h6 e.symm), hz]
  simp [zf, pcell, h1, h2, h3, h4, h5, h6]
theorem zs_at (n o : Nat) (h : o < n) : (zs n)[o]? = some (ints (fun _ => 0) o) := by simp [zs, ints, h]
theorem zs_size (n : Nat) : (zs n).size = n := by simp [zs]
theorem blk_zs (w : World) (n : Nat) (T : TypeId) : Blk (w.alloc (.cells (zs n) T)) w.heap.size n (ints fun _ => 0) := by
  have := Blk.new w (zs n) T (ints fun _ => 0) (fun o ho => zs_at n o (by rwa [zs_size] at ho))
  rwa [zs_size] at this

theorem far8 {w : World} {b n b' : Nat} {f : Nat → Value} {v : Value} (h : Blk w b n f) (hb : b ≠ b') : Blk ((((((((w.setCell ⟨b', 0, none⟩ v).setCell ⟨b', 1, none⟩ v).setCell ⟨b', 2, none⟩ v).setCell ⟨b', 3, none⟩ v).setCell ⟨b', 4, none⟩ v).setCell ⟨b', 5, none⟩ v).setCell ⟨b', 6, none⟩ v).setCell ⟨b', 7, none⟩ v) b n f :=
  (((((((h.setOther _ v hb).setOther _ v hb).setOther _ v hb).setOther _ v hb).setOther _ v hb).setOther _ v hb).setOther _ v hb).setOther _ v hb
def ps0 : PS := { f := fun _ => 0, g := fun _ _ => 0, k := fun _ => 0, r := fun _ => 0, b := fun _ => 0 }
set_option maxRecDepth 100000 in
set_option maxHeartbeats 1000000 in
theorem newP_any (w : World) :
    Calls Tryz.prog 20 #[] w fun e w' => e = .returned (.pointer (some ⟨w.heap.size, 0, none⟩)) ∧ PRep w' w.heap.size ps0 ∧ Fr (fun _ => False) w w' := by
  have m2 := make512
  have m3 := make8
  have m4 := make65
  have z1 : pz[129]? = some (.slice none 0 0) := pz_at 129 (by omega)
  have z2 : pz[259]? = some (.slice none 0 0) := pz_at 259 (by omega)
  have z3 : pz[260]? = some (.slice none 0 0) := pz_at 260 (by omega)
  have z4 : pz[262]? = some (.slice none 0 0) := pz_at 262 (by omega)
  have z5 : pz[263]? = some (.slice none 0 0) := pz_at 263 (by omega)
  have z6 : pz[264]? = some (.slice none 0 0) := pz_at 264 (by omega)
  have zz := pz_size
  go_enter Tryz.func20, Tryz.ntmps20
  go_wp2_with (refine wpList_run (by rfl) _ _ (build50 _ _ _ _ _ _ _) ?_)
  refine wp_region_text (by kernel_rfl) (by kernel_rfl) ?_
  go_wp2_with fail
  refine ⟨by kernel_rfl, ?_⟩
  go_wp2_with fail
  refine wp_region_text (by kernel_rfl) (by kernel_rfl) ?_
  go_wp2_with fail
  refine ⟨by kernel_rfl, ?_⟩
  go_wp2_with fail
  obtain ⟨C, hC⟩ : ∃ C, C = ((((((pz.setIfInBounds 129 (.slice (some ⟨w.heap.size + 1, 0, none⟩) 512 512)).setIfInBounds 259 (.slice (some ⟨w.heap.size + 1 + 1, 0, none⟩) 512 512)).setIfInBounds 260 (.slice (some ⟨w.heap.size + 1 + 1 + 1, 0, none⟩) 65 65)).setIfInBounds
    262 (.slice (some ⟨w.heap.size + 1 + 1 + 1 + 1, 0, none⟩) 8 8)).setIfInBounds 263 (.slice (some ⟨w.heap.size + 1 + 1 + 1 + 1 + 1, 0, none⟩) 8 8)).setIfInBounds 264 (.slice (some ⟨w.heap.size + 1 + 1 + 1 + 1 + 1 + 1, 0, none⟩) 8 8)) := ⟨_, rfl⟩
  have hCs : C.size = 266 := by rw [hC]; simp [zz]
  have B0 : Blk (w.alloc (.cells C 116)) w.heap.size 266 (pcell w.heap.size fun _ => 0) := by
    have := Blk.new w C 116 (pcell w.heap.size fun _ => 0) (fun o ho => by rw [hCs] at ho; rw [hC]; exact pz_set w.heap.size (w.heap.size + 1) rfl o ho)
    rwa [hCs] at this
  have f0 := (Fr.refl (fun _ => False) w).alloc (.cells C 116)
  rw [← hC]
  clear hC hCs z1 z2 z3 z4 z5 z6 zz m2 m3 m4
  generalize hw1 : w.alloc (.cells C 116) = w1 at *
  have s1 : w1.heap.size = w.heap.size + 1 := by rw [← hw1]; simp
  clear hw1
  have B1 := blk_zs w1 512 3
  have B0 := B0.alloc (.cells (zs 512) 3)
  have f0 := f0.alloc (.cells (zs 512) 3)
  generalize hw2 : w1.alloc (.cells (zs 512) 3) = w2 at *
  have s2 : w2.heap.size = w.heap.size + 2 := by rw [← hw2]; simp [s1]
  clear hw2
  rw [s1] at B1
  have B2 := blk_zs w2 512 3
  have B0 := B0.alloc (.cells (zs 512) 3)
  have B1 := B1.alloc (.cells (zs 512) 3)
  have f0 := f0.alloc (.cells (zs 512) 3)
  generalize hw3 : w2.alloc (.cells (zs 512) 3) = w3 at *
  have s3 : w3.heap.size = w.heap.size + 3 := by rw [← hw3]; simp [s2]
  clear hw3
  rw [s2] at B2
  have B3 := blk_zs w3 195 188
  have B0 := B0.alloc (.cells (zs 195) 188)
  have B1 := B1.alloc (.cells (zs 195) 188)
  have B2 := B2.alloc (.cells (zs 195) 188)
  have f0 := f0.alloc (.cells (zs 195) 188)
  generalize hw4 : w3.alloc (.cells (zs 195) 188) = w4 at *
  have s4 : w4.heap.size = w.heap.size + 4 := by rw [← hw4]; simp [s3]
  clear hw4
  rw [s3] at B3
  have B4 := blk_zs w4 8 3
  have B0 := B0.alloc (.cells (zs 8) 3)
  have B1 := B1.alloc (.cells (zs 8) 3)
  have B2 := B2.alloc (.cells (zs 8) 3)
  have B3 := B3.alloc (.cells (zs 8) 3)
  have f0 := f0.alloc (.cells (zs 8) 3)
  generalize hw5 : w4.alloc (.cells (zs 8) 3) = w5 at *
  have s5 : w5.heap.size = w.heap.size + 5 := by rw [← hw5]; simp [s4]
  clear hw5
  rw [s4] at B4
  have B5 := blk_zs w5 8 3
  have B0 := B0.alloc (.cells (zs 8) 3)
  have B1 := B1.alloc (.cells (zs 8) 3)
  have B2 := B2.alloc (.cells (zs 8) 3)
  have B3 := B3.alloc (.cells (zs 8) 3)
  have B4 := B4.alloc (.cells (zs 8) 3)
  have f0 := f0.alloc (.cells (zs 8) 3)
  generalize hw6 : w5.alloc (.cells (zs 8) 3) = w6 at *
  have s6 : w6.heap.size = w.heap.size + 6 := by rw [← hw6]; simp [s5]
  clear hw6
  rw [s5] at B5
  have B6 := blk_zs w6 8 3
  have B0 := B0.alloc (.cells (zs 8) 3)
  have B1 := B1.alloc (.cells (zs 8) 3)
  have B2 := B2.alloc (.cells (zs 8) 3)
  have B3 := B3.alloc (.cells (zs 8) 3)
  have B4 := B4.alloc (.cells (zs 8) 3)
  have B5 := B5.alloc (.cells (zs 8) 3)
  have f0 := f0.alloc (.cells (zs 8) 3)
  generalize hw7 : w6.alloc (.cells (zs 8) 3) = w7 at *
  clear hw7 s1 s2 s3 s4 s5
  rw [s6] at B6
  clear s6
  have q0 : w7.cell? ⟨w.heap.size, 264, none⟩ = some (.slice (some ⟨w.heap.size + 6, 0, none⟩) 8 8) := B0.cell (by omega)
  have q1 : ∀ o, o < 8 → w7.cell? ⟨w.heap.size + 6, o, none⟩ = some (.int .i64 0) := fun o ho => B6.cell ho
  have q2 : ∀ o, w7.frozen? ⟨w.heap.size + 6, o, none⟩ = false := fun o => B6.frozen o
  refine wp_loop_rounds 9 ?_
  repeat any_goals (rw [rounds_succ]; go_wp2_with fail)
  go_ret
  refine ⟨rfl, ⟨?_, ?_, ?_, ?_, ?_, ?_, ?_⟩, ?_⟩
  · exact (far8 (v := .int .i64 (-1)) (b' := w.heap.size + 6) B0 (by omega)).drew.drew
  · exact (far8 (v := .int .i64 (-1)) (b' := w.heap.size + 6) B1 (by omega)).drew.drew
  · exact (far8 (v := .int .i64 (-1)) (b' := w.heap.size + 6) B2 (by omega)).drew.drew
  · exact (far8 (v := .int .i64 (-1)) (b' := w.heap.size + 6) B3 (by omega)).drew.drew
  · exact (far8 (v := .int .i64 (-1)) (b' := w.heap.size + 6) B4 (by omega)).drew.drew
  · exact (far8 (v := .int .i64 (-1)) (b' := w.heap.size + 6) B5 (by omega)).drew.drew
  · exact (((((((((B6.set 0 (.int .i64 (-1))).set 1 (.int .i64 (-1))).set 2 (.int .i64 (-1))).set 3 (.int .i64 (-1))).set 4 (.int .i64 (-1))).set 5 (.int .i64 (-1))).set 6 (.int .i64 (-1))).set 7 (.int .i64 (-1))).congr (fun o ho => by
      rcases (show o = 0 ∨ o = 1 ∨ o = 2 ∨ o = 3 ∨ o = 4 ∨ o = 5 ∨ o = 6 ∨ o = 7 by omega) with rfl | rfl | rfl | rfl | rfl | rfl | rfl | rfl <;> rfl)).drew.drew
  · refine Fr.drew (Fr.drew ?_)
    repeat' refine Fr.setNew ?_ (by omega)
    exact f0
end Go.Proofs.Qxb6500283aGreat
