/- find.New. -/
import Derived.Test.Qxb6500283aGreatHF10
namespace Go.Proofs.Qxb6500283aGreat
open Go Go.RowKit

def fd0 (e : Nat) (a b : Value) (o : Nat) : Value := match o with | 0 => .pointer (some ⟨e, 0, none⟩) | 1 => a | 2 => .int .i64 0 | 3 => b | _ => .int .i64 0
theorem fd0_1 (e : Nat) (a b c : Value) : ∀ o, o < 5 → upd (fd0 e a b) 1 c o = fd0 e c b o := by
  intro o ho
  rcases lt5F ho with rfl | rfl | rfl | rfl | rfl <;> simp [upd, fd0]
theorem fd0_3 (e : Nat) (a b c : Value) : ∀ o, o < 5 → upd (fd0 e a b) 3 c o = fd0 e a c o := by
  intro o ho
  rcases lt5F ho with rfl | rfl | rfl | rfl | rfl <;> simp [upd, fd0]
set_option maxRecDepth 100000 in
set_option maxHeartbeats 4000000 in
theorem newF_any (e : Nat) (w : World) : Calls Tryz.prog 13 #[.pointer (some ⟨e, 0, none⟩)] w fun v w' => v = .returned (.pointer (some ⟨w.heap.size, 0, none⟩)) ∧ PMem w' w.heap.size e (w.heap.size + 1) 0 (w.heap.size + 2) [] ∧ SMem w' (w.heap.size + 1) [] ∧ Fr (fun _ => False) w w' := by
  have hb0 : Blk (w.alloc (.cells #[.pointer (some ⟨e, 0, none⟩), .slice none 0 0, .int .i64 0, .slice none 0 0, .int .i64 0] 81)) w.heap.size 5 (fd0 e (.slice none 0 0) (.slice none 0 0)) := Blk.new w _ _ _ fun o ho => by
    rcases lt5F (show o < 5 by simpa using ho) with rfl | rfl | rfl | rfl | rfl <;> rfl
  have f0 := (Fr.refl (fun _ => False) w).alloc (.cells #[.pointer (some ⟨e, 0, none⟩), .slice none 0 0, .int .i64 0, .slice none 0 0, .int .i64 0] 81)
  go_enter Tryz.func13, Tryz.ntmps13
  go_wp2_with (first
    | (refine wpList_makeB (by rfl) 40 _ _ (by rfl) 64 8 64 (.agg #[.int .i64 0, .int .i64 0, .int .i64 0, .int .i64 0, .int .i64 0, .int .i64 0, .int .i64 0, .int .i64 0]) 257 (by rfl) (by rfl) Tryz.underlying40 (by kernel_rfl) (by kernel_rfl) (by kernel_rfl) (by omega) (by omega) ?_; intro w2 f2 s2 b2; simp only [World.size_alloc] at s2 b2; have hb2 := hb0.frame f2 (by simp); have z2 := hb2.frozen; have d1 := hb2.cell (o := 1) (by omega); have hb3 := (hb2.set 1 (.slice (some ⟨w.heap.size + 1, 0, none⟩) 257 257)).congr (fd0_1 e _ _ _); have f3 : Fr (fun _ => False) w (w2.setCell ⟨w.heap.size, 1, none⟩ (.slice (some ⟨w.heap.size + 1, 0, none⟩) 257 257)) := (f0.trans f2 (fun _ _ h => h)).setNew (Nat.le_refl _); have b3 := b2.setOther ⟨w.heap.size, 1, none⟩ (.slice (some ⟨w.heap.size + 1, 0, none⟩) 257 257) (by show w.heap.size + 1 ≠ w.heap.size; omega); have s3 : (w2.setCell ⟨w.heap.size, 1, none⟩ (.slice (some ⟨w.heap.size + 1, 0, none⟩) 257 257)).heap.size = w.heap.size + 1 + 1 := by simpa using s2)
    | (refine wpList_makeB (by rfl) 79 _ _ (by rfl) 84 3 24 (.agg #[.int .i64 0, .int .i64 0, .int .i64 0]) 32 (by rfl) (by rfl) Tryz.underlying79 (by kernel_rfl) (by kernel_rfl) (by kernel_rfl) (by omega) (by omega) ?_; intro w4 f4 s4 b4; rw [s3] at s4 b4 ⊢; have hb4 := hb3.frame f4 (by simp); have z4 := hb4.frozen; have d3 := hb4.cell (o := 3) (by omega)))
  go_ret
  have hb5 := (hb4.set 3 (.slice (some ⟨w.heap.size + 2, 0, none⟩) 32 32)).congr (fd0_3 e _ _ _)
  have F5 : Fr (fun _ => False) w (w4.setCell ⟨w.heap.size, 3, none⟩ (.slice (some ⟨w.heap.size + 2, 0, none⟩) 32 32)) := (f3.trans f4 (fun _ _ h => h)).setNew (Nat.le_refl _)
  have p5 := b4.setOther ⟨w.heap.size, 3, none⟩ (.slice (some ⟨w.heap.size + 2, 0, none⟩) 32 32) (by show w.heap.size + 1 + 1 ≠ w.heap.size; omega)
  have q5 := (b3.frame f4 (by simp)).setOther ⟨w.heap.size, 3, none⟩ (.slice (some ⟨w.heap.size + 2, 0, none⟩) 32 32) (by show w.heap.size + 1 ≠ w.heap.size; omega)
  refine ⟨rfl, ⟨?_, ⟨_, p5, fun i hi => by simp at hi⟩, by omega, by simp⟩, ⟨⟨_, q5, fun i hi => by simp at hi⟩, by simp⟩, F5⟩
  exact hb5.congr fun o ho => by rcases lt5F ho with rfl | rfl | rfl | rfl | rfl <;> rfl
end Go.Proofs.Qxb6500283aGreat
