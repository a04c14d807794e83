/- The model's engine: Has, New. -/
import Derived.Test.Qxb6500283aGreatE6
namespace Go.Proofs.Qxb6500283aGreat
open Go Go.RowKit

theorem fnd11 (w : World) (er q : Int) (ok : Bool) (c : Cp) : Blk (w.alloc (.cells #[.int .i64 er, .int .i64 q, .bool ok, .int .i64 (c 0), .int .i64 (c 1), .int .i64 (c 2), .int .i64 (c 3), .int .i64 (c 4), .int .i64 (c 5), .int .i64 (c 6), .int .i64 (c 7)] 66)) w.heap.size 11 (fun o => (#[.int .i64 er, .int .i64 q, .bool ok, .int .i64 (c 0), .int .i64 (c 1), .int .i64 (c 2), .int .i64 (c 3), .int .i64 (c 4), .int .i64 (c 5), .int .i64 (c 6), .int .i64 (c 7)] : Array Value).getD o undef) :=
  Blk.new w _ _ _ fun o ho => by
    have ho : o < 11 := by simpa using ho
    obtain rfl | rfl | rfl | rfl | rfl | rfl | rfl | rfl | rfl | rfl | rfl : o = 0 ∨ o = 1 ∨ o = 2 ∨ o = 3 ∨ o = 4 ∨ o = 5 ∨ o = 6 ∨ o = 7 ∨ o = 8 ∨ o = 9 ∨ o = 10 := by omega
    all_goals rfl
section
variable {w : World} {m sx mc sp G K : Nat}
set_option maxHeartbeats 1000000 in
theorem newME (w : World) : Calls Tryz.prog 17 #[] w fun v w' => ∃ m mc sp, v = .returned (.pointer (some ⟨m, 0, none⟩)) ∧ ME w' m w.heap.size mc sp 0 0 ∧ Fr (fun _ => False) w w' := by
  go_enter Tryz.func17, Tryz.ntmps17
  go_wp2_with fail
  refine (newM_any w).mono ?_
  rintro v w1 ⟨rfl, hb, f1⟩
  go_wp2_with fail
  refine (newC_any w1).mono ?_
  rintro v w2 ⟨mc, rfl, hlt, hmc, f2⟩
  have hn := Blk.new w2 #[.pointer (some ⟨w.heap.size, 0, none⟩), .pointer (some ⟨mc, 0, none⟩), .int .i64 0, .int .i64 0] 92 (meCell w.heap.size mc 0 0) (fun o ho => by
    have ho : o < 4 := by simpa using ho
    obtain rfl | rfl | rfl | rfl : o = 0 ∨ o = 1 ∨ o = 2 ∨ o = 3 := by omega
    all_goals rfl)
  have k := (Fr.refl (fun _ => False) w2).alloc (.cells #[.pointer (some ⟨w.heap.size, 0, none⟩), .pointer (some ⟨mc, 0, none⟩), .int .i64 0, .int .i64 0] 92)
  have hl := hb.lt
  have hml := hmc.1.lt
  go_wp2_with fail
  go_ret
  exact ⟨_, mc, _, rfl, ⟨⟨0, 0, Nat.le_refl _, Nat.le_refl _, hn⟩, ⟨0, Nat.le_refl _, (hb.frame f2 (fun h => h)).frame k (fun h => h)⟩, ⟨0, Nat.le_refl _, hmc.frame k (fun h => h) (fun h => h)⟩, hl, hlt, hml, by simp⟩, (f1.trans f2 (fun _ _ h => h)).trans k (fun _ _ h => h)⟩
end
end Go.Proofs.Qxb6500283aGreat
