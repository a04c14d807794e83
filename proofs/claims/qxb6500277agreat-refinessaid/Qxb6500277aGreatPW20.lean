/- The real parser: Check, New. -/
import Derived.Test.Qxb6500277aGreatPW19
namespace Go.Proofs.Qxb6500277aGreat
open Go Go.RowKit

set_option maxRecDepth 100000 in
set_option maxHeartbeats 4000000 in
theorem newR {w : World} {lx bb : Nat} {r : R} (L : LRep w lx bb r) : Calls Tryz.prog 21 #[.pointer (some ⟨lx, 0, none⟩)] w fun e w' => ∃ p, e = .returned (.pointer (some ⟨p, 0, none⟩)) ∧ RIx w' p (fun c => c = lx ∨ c = bb ∨ (w.heap.size ≤ c ∧ c < w'.heap.size)) ∧ Fr (fun _ => False) w w' ∧ w.heap.size ≤ p := by
  have hl := L.lt
  go_enter Tryz.func21, Tryz.ntmps21
  go_wp2_with (refine wpList_makeB (by rfl) 64 _ _ (by rfl) 145 8 72 zNode 200 (by rfl) (by rfl) Tryz.underlying64 (by kernel_rfl) (by kernel_rfl) (by kernel_rfl) (by omega) (by omega) ?_; intro w2 f2 s2 hb2)
  go_ret
  clear hl
  have hl := L.lt
  have f3 := f2.alloc (.cells #[.pointer (some ⟨lx, 0, none⟩), .slice none 0 0, .int .i64 0, .slice (some ⟨w.heap.size, 0, none⟩) 200 200, .int .i64 0, .bool false, .int .i64 0, .int .i64 0] 101)
  have sz : (w2.alloc (.cells #[.pointer (some ⟨lx, 0, none⟩), .slice none 0 0, .int .i64 0, .slice (some ⟨w.heap.size, 0, none⟩) 200 200, .int .i64 0, .bool false, .int .i64 0, .int .i64 0] 101)).heap.size = w.heap.size + 2 := by simp [World.size_alloc, s2]
  refine ⟨w.heap.size + 1, rfl, ⟨lx, bb, w.heap.size, r, L.frame f3 (fun h => h) (fun h => h), .inl ⟨?_, by omega, _, hb2.alloc _⟩, ⟨.inr (.inr (by rw [sz]; omega)), .inl rfl, .inr (.inl rfl), .inr (.inr (by rw [sz]; omega))⟩, ⟨by omega, by omega, by omega, by omega⟩, fun c hc => by rw [sz]; omega⟩, f3, by omega⟩
  rw [← s2]
  exact Blk.new w2 _ _ _ fun o ho => by
    rcases lt8c (show o < 8 from ho) with rfl | rfl | rfl | rfl | rfl | rfl | rfl | rfl <;> rfl
end Go.Proofs.Qxb6500277aGreat
