import Derived.Test.Qxb6500282aInsn
namespace Go.Proofs.Qxb6500282a
open Go Go.RowKit


def u64s (f : Nat → Int) : Nat → Value := fun k => .int .u64 (f k)
def setV (f : Nat → Int) : Value := .agg #[.int .u64 (f 0), .int .u64 (f 1), .int .u64 (f 2), .int .u64 (f 3)]
theorem u64s_upd (f : Nat → Int) (o : Nat) (v : Int) : upd (u64s f) o (.int .u64 v) = u64s (upd f o v) := by
  funext k; simp only [upd, u64s]; split <;> rfl
theorem Blk.u64four (w : World) (f : Nat → Int) (T : TypeId) : Blk (w.alloc (.cells #[.int .u64 (f 0), .int .u64 (f 1), .int .u64 (f 2), .int .u64 (f 3)] T)) w.heap.size 4 (u64s f) :=
  Blk.new w _ _ _ fun o ho => by
    rcases (show o = 0 ∨ o = 1 ∨ o = 2 ∨ o = 3 by simp at ho; omega) with rfl | rfl | rfl | rfl <;> rfl

set_option maxHeartbeats 1000000 in
theorem not_any (f : Nat → Int) (w : World) : Calls Try.prog 32 #[setV f] w fun e w' => (∃ g, e = .returned (setV g)) ∧ Fr (fun _ => False) w w' := by
  unfold setV
  go_enter Try.func32, Try.ntmps32
  go_wp2_with fail
  have b1 := Blk.u64four w f 45
  go_loopg [3] 4 (fun g kv wr => ∃ k : Nat, kv = .int .i64 k ∧ k + g = 4 ∧ Fr (fun _ => False) w wr ∧ (∃ h, Blk wr w.heap.size 4 (u64s h)) ∧ ∃ h, Blk wr (w.heap.size + 1) 4 (u64s h))
  case atStart => 
    refine ⟨0, rfl, by omega, ((Fr.refl _ _).alloc _).alloc _, ⟨f, b1.alloc _⟩, fun _ => 0, ?_⟩
    have := Blk.u64four (w.alloc (.cells #[.int .u64 (f 0), .int .u64 (f 1), .int .u64 (f 2), .int .u64 (f 3)] 45)) (fun _ => 0) 45
    simpa using this
  case round =>
    obtain ⟨k, rfl, hkg, hfr, ⟨h, hb⟩, h2, hb2⟩ := hrel
    have c0 := hb.cell (show 0 < 4 by omega)
    have c1 := hb.cell (show 1 < 4 by omega)
    have c2 := hb.cell (show 2 < 4 by omega)
    have c3 := hb.cell (show 3 < 4 by omega)
    have d0 := hb2.cell (show 0 < 4 by omega)
    have d1 := hb2.cell (show 1 < 4 by omega)
    have d2 := hb2.cell (show 2 < 4 by omega)
    have d3 := hb2.cell (show 3 < 4 by omega)
    have z1 := hb.frozen
    have z2 := hb2.frozen
    simp only [u64s] at c0 c1 c2 c3 d0 d1 d2 d3
    by_cases hlt : k < 4
    · have hck := hb.cell hlt
      simp only [u64s] at hck
      have hkg' : k + gk = 4 := hkg
      clear hkg
      go_wp2_with fail
      go_roundg (gk - 1)
      case measure => omega
      case rel => exact ⟨k + 1, by simp, by omega, hfr.setNew (by omega), ⟨_, by rw [← u64s_upd]; exact hb.set _ _⟩, _, hb2.setOther _ _ (by simp)⟩
    · have hkg' : k + gk = 4 := hkg
      clear hkg
      go_wp2_with fail
      refine bodyPost_ret (v := setV h) (by simp [results, Try.results32, go_sem, setV, d0, d1, d2, d3]) rfl ⟨⟨h, rfl⟩, ?_⟩
      repeat' refine Fr.setNew ?_ (by omega)
      exact hfr

theorem shr6 (c : Nat) : ((c : Int) >>> (6 : Nat)) = ((c / 64 : Nat) : Int) := by
  rw [Int.shiftRight_eq_div_pow]; simp
set_option maxHeartbeats 1000000 in
theorem span_any (f : Nat → Int) (lo hi : Nat) (hlo : lo < 256) (hhi : hi < 256) (w : World) : Calls Try.prog 31 #[setV f, .int .u8 lo, .int .u8 hi] w fun e w' => (∃ g, e = .returned (setV g)) ∧ Fr (fun _ => False) w w' := by
  unfold setV
  go_enter Try.func31, Try.ntmps31
  go_wp2_with fail
  have b1 := Blk.u64four w f 45
  go_loopg [7] (256 - lo) (fun g kv wr => ∃ k : Nat, kv = .int .i64 k ∧ k + g = 256 ∧ Fr (fun _ => False) w wr ∧ (∃ h, Blk wr w.heap.size 4 (u64s h)) ∧ ∃ h, Blk wr (w.heap.size + 1) 4 (u64s h))
  case atStart => 
    refine ⟨lo, by simp, by omega, ((Fr.refl _ _).alloc _).alloc _, ⟨f, b1.alloc _⟩, fun _ => 0, ?_⟩
    have := Blk.u64four (w.alloc (.cells #[.int .u64 (f 0), .int .u64 (f 1), .int .u64 (f 2), .int .u64 (f 3)] 45)) (fun _ => 0) 45
    simpa using this
  case round =>
    obtain ⟨k, rfl, hkg, hfr, ⟨h, hb⟩, h2, hb2⟩ := hrel
    have c0 := hb.cell (show 0 < 4 by omega)
    have c1 := hb.cell (show 1 < 4 by omega)
    have c2 := hb.cell (show 2 < 4 by omega)
    have c3 := hb.cell (show 3 < 4 by omega)
    have d0 := hb2.cell (show 0 < 4 by omega)
    have d1 := hb2.cell (show 1 < 4 by omega)
    have d2 := hb2.cell (show 2 < 4 by omega)
    have d3 := hb2.cell (show 3 < 4 by omega)
    have z1 := hb.frozen
    have z2 := hb2.frozen
    simp only [u64s] at c0 c1 c2 c3 d0 d1 d2 d3
    have hkg' : k + gk = 256 := hkg
    clear hkg
    by_cases hlt : k ≤ hi
    · have hq : k / 64 < 4 := by omega
      have hck := hb.cell hq
      simp only [u64s] at hck
      have hs := shr6 k
      go_wp2_with fail
      go_roundg (gk - 1)
      case measure => omega
      case rel => exact ⟨k + 1, by simp, by omega, hfr.setNew (by omega), ⟨_, by rw [← u64s_upd]; exact hb.set _ _⟩, _, hb2.setOther _ _ (by simp)⟩
    · go_wp2_with fail
      refine bodyPost_ret (v := setV h) (by simp [results, Try.results31, go_sem, setV, d0, d1, d2, d3]) rfl ⟨⟨h, rfl⟩, ?_⟩
      repeat' refine Fr.setNew ?_ (by omega)
      exact hfr
end Go.Proofs.Qxb6500282a
