import Derived.Test.Qxb6500282aF16
namespace Go.Proofs.Qxb6500282a
open Go Go.RowKit

def ds0 : DS := ⟨[], 0, 0, 0, fun _ => 0, 0, fun _ => -1, fun _ => 0, 0, 0, 0⟩
theorem mask0 (o : Int) : IsMask [] 0 o := ⟨by omega, fun q => by simp [opAt]⟩
theorem cinv0 : CInv [] ds0 := ⟨by simp [ds0], fun c hc => by simp [ds0] at hc, fun c _ _ => rfl, fun c d hc => by simp [ds0] at hc, fun o _ => by simp [ds0], fun c b _ _ _ => rfl, fun c b hc => by simp [ds0] at hc, mask0 0, mask0 5, mask0 6⟩
/-- The machine's cells before its two lists are laid in. -/
def ncell (a b : Value) (o : Nat) : Value := if o = 11 then a else if o = 12 then b else mcell 0 (.slice none 0 0) ds0 o
theorem zero_make (k : Nat) : (Value.int .i64 0).cells[k % (Value.int .i64 0).cells.size]! = (Value.int .i64 0 : Value) := by
  show (#[Value.int .i64 0] : Array Value)[k % 1]! = _
  rw [Nat.mod_one]; rfl
def fillV (i : Nat) : Nat → Value := fun o => .int .i64 (if o < i then -1 else 0)
theorem ncell11 (a b c : Value) : ∀ o, o < 16 → upd (ncell a b) 11 c o = ncell c b o := by
  intro o _
  simp only [upd, ncell]
  split <;> simp [*]
theorem ncell12 (a b c : Value) : ∀ o, o < 16 → upd (ncell a b) 12 c o = ncell a c o := by
  intro o _
  simp only [upd, ncell]
  by_cases e : o = 12
  · subst e; simp
  · simp [e]
theorem ncell_m (x : Nat) : ∀ o, o < 16 → ncell (.slice (some ⟨x + 1, 0, none⟩) 1536 1536) (.slice (some ⟨x + 2, 0, none⟩) 64 64) o = mcell x (.slice none 0 0) ds0 o := by
  intro o ho
  rcases lt16 ho with rfl | rfl | rfl | rfl | rfl | rfl | rfl | rfl | rfl | rfl | rfl | rfl | rfl | rfl | rfl | rfl <;> rfl
set_option maxRecDepth 100000 in
set_option maxHeartbeats 4000000 in
theorem new_any (w : World) : Calls Try.prog 8 #[] w fun e w' => e = .returned (.pointer (some ⟨w.heap.size, 0, none⟩)) ∧ DInv w' w.heap.size (.slice none 0 0) [] ds0 ∧ Fr (fun _ => False) w w' := by
  have hb0 : Blk (w.alloc (.cells #[.slice none 0 0, .int .u64 0, .int .u64 0, .int .u64 0, .int .u64 0, .int .u64 0, .int .u64 0, .int .u64 0, .int .u64 0, .int .u64 0, .int .i64 0, .slice none 0 0, .slice none 0 0, .int .i64 0, .int .i64 0, .int .i64 0] 63)) w.heap.size 16 (ncell (.slice none 0 0) (.slice none 0 0)) :=
    Blk.new w _ _ _ fun o ho => by
      rcases lt16 (show o < 16 by simpa using ho) with rfl | rfl | rfl | rfl | rfl | rfl | rfl | rfl | rfl | rfl | rfl | rfl | rfl | rfl | rfl | rfl <;> rfl
  have f0 := (Fr.refl (fun _ => False) w).alloc (.cells #[.slice none 0 0, .int .u64 0, .int .u64 0, .int .u64 0, .int .u64 0, .int .u64 0, .int .u64 0, .int .u64 0, .int .u64 0, .int .u64 0, .int .i64 0, .slice none 0 0, .slice none 0 0, .int .i64 0, .int .i64 0, .int .i64 0] 63)
  go_enter Try.func8, Try.ntmps8
  go_wp2_with (refine wpList_makeB (by rfl) 61 _ _ (by rfl) 3 1 8 (.int .i64 0) 1536 (by rfl) (by rfl) Try.underlying61 (by kernel_rfl) (by kernel_rfl) (by kernel_rfl) (by omega) (by omega) ?_; intro w2 f2 s2 b2; simp only [World.size_alloc] at s2 b2; have hb2 := hb0.frame f2 (by simp); have z2 := hb2.frozen; have d11 := hb2.cell (o := 11) (by omega))
  have hbn : Blk w2 (w.heap.size + 1) 1536 (fillV 0) := (by simpa using b2 : Blk w2 (w.heap.size + 1) 1536 _).congr fun o _ => by rw [zero_make]; simp [fillV]
  have hb3 := (hb2.set 11 (.slice (some ⟨w.heap.size + 1, 0, none⟩) 1536 1536)).congr (ncell11 _ _ _)
  have f3 : Fr (fun _ => False) w (w2.setCell ⟨w.heap.size, 11, none⟩ (.slice (some ⟨w.heap.size + 1, 0, none⟩) 1536 1536)) := (f0.trans f2 (fun _ _ h => h)).setNew (Nat.le_refl _)
  have s3 : (w2.setCell ⟨w.heap.size, 11, none⟩ (.slice (some ⟨w.heap.size + 1, 0, none⟩) 1536 1536)).heap.size = w.heap.size + 1 + 1 := by simpa using s2
  go_loopg [2] 1536 (fun g iv wr => ∃ i : Nat, iv = .int .i64 i ∧ i + g = 1536 ∧ Blk wr (w.heap.size + 1) 1536 (fillV i) ∧ Blk wr w.heap.size 16 (ncell (.slice (some ⟨w.heap.size + 1, 0, none⟩) 1536 1536) (.slice none 0 0)) ∧ wr.heap.size = w.heap.size + 1 + 1 ∧ Fr (fun _ => False) w wr)
  case atStart => exact ⟨0, rfl, by omega, hbn.setOther _ _ (by simp), hb3, s3, f3⟩
  case round =>
    obtain ⟨i, rfl, hg, hn, hm, hs, hfr⟩ := hrel
    have hg' : i + gk = 1536 := hg
    have e11 : wr.cell? ⟨w.heap.size, 11, none⟩ = some (.slice (some ⟨w.heap.size + 1, 0, none⟩) 1536 1536) := hm.cell (by omega)
    have e12 := hm.cell (o := 12) (by omega)
    have zn := hn.frozen
    have zm := hm.frozen
    clear hg z2 d11 b2 hb2 hb3 hbn f3 s3
    by_cases hlt : i < 1536
    · have n0 := hn.cell (o := i) hlt
      have key := (hn.set i (.int .i64 (-1))).congr (g := fillV (i + 1)) (fun o _ => by
        simp only [upd, fillV]
        by_cases e : o = i
        · subst e; simp
        · by_cases h2 : o < i
          · simp [e, h2, show o < i + 1 by omega]
          · simp [e, h2, show ¬ o < i + 1 by omega])
      have Hk : Hid _ := key
      clear key
      go_wp2_with fail
      go_roundg (gk - 1)
      case measure => omega
      case rel => exact ⟨i + 1, by simp, by omega, Hk.out, hm.setOther _ _ (by simp), by simpa using hs, hfr.setNew (by omega)⟩
    · have hie : i = 1536 := by omega
      subst hie
      go_wp2_with (refine wpList_makeB (by rfl) 61 _ _ (by rfl) 3 1 8 (.int .i64 0) 64 (by rfl) (by rfl) Try.underlying61 (by kernel_rfl) (by kernel_rfl) (by kernel_rfl) (by omega) (by omega) ?_; intro w4 f4 s4 b4; rw [hs] at s4 b4; have hm4 := hm.frame f4 (by simp); have z4 := hm4.frozen; have g12 := hm4.cell (o := 12) (by omega))
      go_ret
      have hn4 := hn.frame f4 (by simp)
      refine ⟨rfl, ⟨⟨?_, ?_, ?_⟩, .inl ⟨rfl, rfl⟩, cinv0, by simp [ds0], by simp [ds0], fun _ => rfl⟩, (hfr.trans f4 (fun _ _ h => h)).setNew (Nat.le_refl _)⟩
      · exact ((hm4.set 12 _).congr (ncell12 _ _ _)).congr (ncell_m _)
      · refine (hn4.setOther _ _ (by simp)).congr fun o ho => ?_
        simp [fillV, ints, ds0, ho]
      · refine ((by simpa using b4 : Blk w4 (w.heap.size + 1 + 1) 64 _).setOther _ _ (show w.heap.size + 1 + 1 ≠ w.heap.size by omega)).congr fun o ho => ?_
        rw [zero_make]; rfl
end Go.Proofs.Qxb6500282a
