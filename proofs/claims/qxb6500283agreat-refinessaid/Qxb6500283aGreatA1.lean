/- The sets' functions, to the bit. -/
import Derived.Test.Qxb6500283aGreatProg
import Derived.Test.Qxb6500283aGreatSB
import Derived.Test.Qxb6500283aGreatText
import Derived.Test.Qxb6500283aGreatMake
import Derived.KernelRfl
import Derived.Deep.LoopGhost
import Derived.Laws.Bits64
import Derived.Laws.Bits64b
namespace Go.Proofs.Qxb6500283aGreat
open Go Go.RowKit

def u64s (f : Nat → Nat) : Nat → Value := fun k => .int .u64 (f k : Nat)
/-- A set's value. -/
def setV (P : BSet) : Value := .agg #[.int .u64 (wd P 0 : Nat), .int .u64 (wd P 1 : Nat), .int .u64 (wd P 2 : Nat), .int .u64 (wd P 3 : Nat)]
theorem u64s_upd (f g : Nat → Nat) (o v n : Nat) (h : ∀ k, k < n → g k = if k = o then v else f k) : ∀ k, k < n → upd (u64s f) o (.int .u64 (v : Nat)) k = u64s g k := by
  intro k hk; simp only [upd, u64s, h k hk]; split <;> rfl
theorem Blk.u64four (w : World) (f : Nat → Nat) (T : TypeId) : Blk (w.alloc (.cells #[.int .u64 (f 0 : Nat), .int .u64 (f 1 : Nat), .int .u64 (f 2 : Nat), .int .u64 (f 3 : Nat)] T)) w.heap.size 4 (u64s f) :=
  Blk.new w _ _ _ fun o ho => by
    rcases (show o = 0 ∨ o = 1 ∨ o = 2 ∨ o = 3 by simp at ho; omega) with rfl | rfl | rfl | rfl <;> rfl
def mix (k : Nat) (P Q : BSet) (j : Nat) : Nat := if j < k then wd Q j else wd P j
theorem mix_next (k : Nat) (P Q : BSet) : ∀ j, j < 4 → mix (k + 1) P Q j = if j = k then wd Q k else mix k P Q j := by
  intro j hj
  unfold mix
  by_cases h1 : j = k
  · subst h1; simp
  · by_cases h2 : j < k
    · rw [if_pos (by omega), if_neg h1, if_pos h2]
    · rw [if_neg (by omega), if_neg h1, if_neg h2]

theorem xor_max (x : Nat) (h : x < 18446744073709551616) : bits BinOp.xor IntKind.u64 IntKind.u64.max (x : Int) = ((18446744073709551615 - x : Nat) : Int) := by
  have := bits_xor_u64_nat 18446744073709551615 x (by omega) h
  rw [show IntKind.u64.max = ((18446744073709551615 : Nat) : Int) by decide, this]
  congr 1
  apply Nat.eq_of_testBit_eq
  intro i
  rw [Nat.testBit_xor, show 18446744073709551615 - x = 2 ^ 64 - (x + 1) by omega, Nat.testBit_two_pow_sub_succ (n := 64) h, two64, Nat.testBit_two_pow_sub_one]
  by_cases hi : i < 64
  · simp [hi]
  · have h64 : (18446744073709551616 : Nat) ≤ 2 ^ i := Nat.pow_le_pow_right (n := 2) (by decide) (show 64 ≤ i by omega)
    simp [hi, Nat.testBit_lt_two_pow (Nat.lt_of_lt_of_le h h64)]
theorem mix_end (P Q : BSet) : ∀ j, j < 4 → mix 4 P Q j = wd Q j := fun j hj => by simp [mix, hj]
set_option maxHeartbeats 1000000 in
theorem not_any (P : BSet) (w : World) : Calls Tryz.prog 145 #[setV P] w fun e w' => e = .returned (setV (notP P)) ∧ Fr (fun _ => False) w w' := by
  unfold setV
  go_enter Tryz.func145, Tryz.ntmps145
  go_wp2_with fail
  have b1 := Blk.u64four w (wd P) 95
  go_loopg [3] 4 (fun g kv wr => ∃ k : Nat, kv = .int .i64 k ∧ k + g = 4 ∧ Fr (fun _ => False) w wr ∧ Blk wr w.heap.size 4 (u64s (mix k P (notP P))) ∧ ∃ h, Blk wr (w.heap.size + 1) 4 (u64s h))
  case atStart => 
    refine ⟨0, rfl, by omega, ((Fr.refl _ _).alloc _).alloc _, (b1.alloc _).congr (fun j hj => by simp [u64s, mix]), fun _ => 0, ?_⟩
    have := Blk.u64four (w.alloc (.cells #[.int .u64 (wd P 0 : Nat), .int .u64 (wd P 1 : Nat), .int .u64 (wd P 2 : Nat), .int .u64 (wd P 3 : Nat)] 95)) (fun _ => 0) 95
    simpa using this
  case round =>
    obtain ⟨k, rfl, hkg, hfr, hb, h2, hb2⟩ := hrel
    have c0 := hb.cell (show 0 < 4 by omega)
    have c1 := hb.cell (show 1 < 4 by omega)
    have c2 := hb.cell (show 2 < 4 by omega)
    have c3 := hb.cell (show 3 < 4 by omega)
    have d0 := hb2.cell (show 0 < 4 by omega)
    have d1 := hb2.cell (show 1 < 4 by omega)
    have d2 := hb2.cell (show 2 < 4 by omega)
    have d3 := hb2.cell (show 3 < 4 by omega)
    have z1 := hb.frozen
    have z2 := hb2.frozen
    simp only [u64s] at c0 c1 c2 c3 d0 d1 d2 d3
    have hkg' : k + gk = 4 := hkg
    clear hkg
    by_cases hlt : k < 4
    · have hck := hb.cell hlt
      simp only [u64s, show mix k P (notP P) k = wd P k by simp [mix]] at hck
      have hx := xor_max (wd P k) (wd_lt P k)
      rw [wd_not] at hx
      go_wp2_with fail
      go_roundg (gk - 1)
      case measure => omega
      case rel => exact ⟨k + 1, by simp, by omega, hfr.setNew (by omega), (hb.set _ _).congr (u64s_upd _ _ _ _ _ (mix_next k P (notP P))), _, hb2.setOther _ _ (by simp)⟩
    · obtain rfl : k = 4 := by omega
      rw [mix_end _ _ _ (by omega)] at c0 c1 c2 c3
      go_wp2_with fail
      refine bodyPost_ret (v := setV (notP P)) (by simp [results, Tryz.results145, go_sem, setV, d0, d1, d2, d3]) rfl ⟨rfl, ?_⟩
      repeat' refine Fr.setNew ?_ (by omega)
      exact hfr
set_option maxHeartbeats 1000000 in
theorem join_any (P Q : BSet) (w : World) : Calls Tryz.prog 156 #[setV P, setV Q] w fun e w' => e = .returned (setV (joinP P Q)) ∧ Fr (fun _ => False) w w' := by
  unfold setV
  go_enter Tryz.func156, Tryz.ntmps156
  go_wp2_with fail
  have b1 := Blk.u64four w (wd P) 95
  have b2 := Blk.u64four (w.alloc (.cells #[.int .u64 (wd P 0 : Nat), .int .u64 (wd P 1 : Nat), .int .u64 (wd P 2 : Nat), .int .u64 (wd P 3 : Nat)] 95)) (wd Q) 95
  have b3 := Blk.u64four ((w.alloc (.cells #[.int .u64 (wd P 0 : Nat), .int .u64 (wd P 1 : Nat), .int .u64 (wd P 2 : Nat), .int .u64 (wd P 3 : Nat)] 95)).alloc (.cells #[.int .u64 (wd Q 0 : Nat), .int .u64 (wd Q 1 : Nat), .int .u64 (wd Q 2 : Nat), .int .u64 (wd Q 3 : Nat)] 95)) (fun _ => 0) 95
  simp only [World.size_alloc] at b2 b3
  go_loopg [5] 4 (fun g kv wr => ∃ k : Nat, kv = .int .i64 k ∧ k + g = 4 ∧ Fr (fun _ => False) w wr ∧ Blk wr w.heap.size 4 (u64s (mix k P (joinP P Q))) ∧ Blk wr (w.heap.size + 1) 4 (u64s (wd Q)) ∧ ∃ h, Blk wr (w.heap.size + 2) 4 (u64s h))
  case atStart => 
    refine ⟨0, rfl, by omega, (((Fr.refl _ _).alloc _).alloc _).alloc _, ((b1.alloc _).alloc _).congr (fun j hj => by simp [u64s, mix]), b2.alloc _, fun _ => 0, ?_⟩
    simpa using b3
  case round =>
    obtain ⟨k, rfl, hkg, hfr, hb, hbq, h2, hb2⟩ := hrel
    have c0 := hb.cell (show 0 < 4 by omega)
    have c1 := hb.cell (show 1 < 4 by omega)
    have c2 := hb.cell (show 2 < 4 by omega)
    have c3 := hb.cell (show 3 < 4 by omega)
    have d0 := hb2.cell (show 0 < 4 by omega)
    have d1 := hb2.cell (show 1 < 4 by omega)
    have d2 := hb2.cell (show 2 < 4 by omega)
    have d3 := hb2.cell (show 3 < 4 by omega)
    have z1 := hb.frozen
    have z2 := hb2.frozen
    simp only [u64s] at c0 c1 c2 c3 d0 d1 d2 d3
    have hkg' : k + gk = 4 := hkg
    clear hkg
    by_cases hlt : k < 4
    · have hck := hb.cell hlt
      have hcq := hbq.cell hlt
      simp only [u64s, show mix k P (joinP P Q) k = wd P k by simp [mix]] at hck hcq
      have hx := bits_or_u64_nat (wd P k) (wd Q k) (wd_lt P k) (wd_lt Q k)
      rw [wd_or] at hx
      go_wp2_with fail
      refine wp_region_text (by kernel_rfl) (by kernel_rfl) ?_
      go_wp2_with fail
      refine ⟨by kernel_rfl, ?_⟩
      go_wp2_with fail
      go_roundg (gk - 1)
      case measure => omega
      case rel => exact ⟨k + 1, by simp, by omega, hfr.drew.setNew (by omega), (hb.drew.set _ _).congr (u64s_upd _ _ _ _ _ (mix_next k P (joinP P Q))), hbq.drew.setOther _ _ (by simp), _, hb2.drew.setOther _ _ (by simp)⟩
    · obtain rfl : k = 4 := by omega
      rw [mix_end _ _ _ (by omega)] at c0 c1 c2 c3
      go_wp2_with fail
      refine bodyPost_ret (v := setV (joinP P Q)) (by simp [results, Tryz.results156, go_sem, setV, d0, d1, d2, d3]) rfl ⟨rfl, ?_⟩
      repeat' refine Fr.setNew ?_ (by omega)
      exact hfr
/-- P and the bytes lo .. c-1. -/
def spanP (P : BSet) (lo c : Nat) : BSet := fun x => P x || (decide (lo ≤ x) && decide (x < c))
theorem spanP_next (P : BSet) (lo c : Nat) (h : lo ≤ c) : ∀ j, j < 4 → wd (spanP P lo (c + 1)) j = if j = c / 64 then wd (spanP P lo c) (c / 64) ||| 2 ^ (c % 64) else wd (spanP P lo c) j := by
  intro j hj
  by_cases hjc : j = c / 64
  · rw [if_pos hjc, hjc]
    refine (wd_bit _ _ c fun x => ?_).symm
    simp only [spanP]
    rw [Bool.or_assoc]
    congr 1
    rw [Bool.eq_iff_iff]
    simp only [Bool.or_eq_true, Bool.and_eq_true, decide_eq_true_eq, beq_iff_eq]
    omega
  · rw [if_neg hjc]
    refine wd_same _ _ _ fun i hi => ?_
    simp only [spanP]
    congr 1
    rw [Bool.eq_iff_iff]
    simp only [Bool.and_eq_true, decide_eq_true_eq]
    omega
theorem spanP_end (P : BSet) (lo hi c : Nat) (h : hi < c) (h2 : c ≤ hi + 1 ∨ c = lo) : spanP P lo c = joinP P (btw lo hi) := by
  funext x
  simp only [spanP, joinP, btw]
  congr 1
  rw [Bool.eq_iff_iff]
  simp only [Bool.and_eq_true, decide_eq_true_eq]
  omega
theorem spanP_zero (P : BSet) (lo : Nat) : spanP P lo lo = P := by
  funext x
  simp only [spanP]
  have : (decide (lo ≤ x) && decide (x < lo)) = false := by
    rw [Bool.and_eq_false_iff]; simp only [decide_eq_false_iff_not]; omega
  rw [this, Bool.or_false]
theorem shr6 (c : Nat) : ((c : Int) >>> (6 : Nat)) = ((c / 64 : Nat) : Int) := by
  rw [Int.shiftRight_eq_div_pow]; simp
theorem and63b : ∀ m : Fin 256, bits BinOp.and IntKind.i64 (m.val : Int) 63 = ((m.val % 64 : Nat) : Int) := by decide +kernel
set_option maxRecDepth 100000 in
set_option maxHeartbeats 1000000 in
theorem span_any (P : BSet) (lo hi : Nat) (hlo : lo < 256) (hhi : hi < 256) (w : World) : Calls Tryz.prog 171 #[setV P, .int .u8 lo, .int .u8 hi] w fun e w' => e = .returned (setV (joinP P (btw lo hi))) ∧ Fr (fun _ => False) w w' := by
  unfold setV
  go_enter Tryz.func171, Tryz.ntmps171
  go_wp2_with fail
  have b1 := Blk.u64four w (wd P) 95
  go_loopg [7] (256 - lo) (fun g kv wr => ∃ k : Nat, kv = .int .i64 k ∧ k + g = 256 ∧ lo ≤ k ∧ (k ≤ hi + 1 ∨ k = lo) ∧ Fr (fun _ => False) w wr ∧ Blk wr w.heap.size 4 (u64s (wd (spanP P lo k))) ∧ ∃ h, Blk wr (w.heap.size + 1) 4 (u64s h))
  case atStart => 
    refine ⟨lo, by simp, by omega, Nat.le_refl _, .inr rfl, ((Fr.refl _ _).alloc _).alloc _, (b1.alloc _).congr (fun j hj => by rw [spanP_zero]), fun _ => 0, ?_⟩
    have := Blk.u64four (w.alloc (.cells #[.int .u64 (wd P 0 : Nat), .int .u64 (wd P 1 : Nat), .int .u64 (wd P 2 : Nat), .int .u64 (wd P 3 : Nat)] 95)) (fun _ => 0) 95
    simpa using this
  case round =>
    obtain ⟨k, rfl, hkg, hlk, hkh, hfr, hb, h2, hb2⟩ := hrel
    have c0 := hb.cell (show 0 < 4 by omega)
    have c1 := hb.cell (show 1 < 4 by omega)
    have c2 := hb.cell (show 2 < 4 by omega)
    have c3 := hb.cell (show 3 < 4 by omega)
    have d0 := hb2.cell (show 0 < 4 by omega)
    have d1 := hb2.cell (show 1 < 4 by omega)
    have d2 := hb2.cell (show 2 < 4 by omega)
    have d3 := hb2.cell (show 3 < 4 by omega)
    have z1 := hb.frozen
    have z2 := hb2.frozen
    simp only [u64s] at c0 c1 c2 c3 d0 d1 d2 d3
    have hkg' : k + gk = 256 := hkg
    clear hkg
    have Hkh : Hid _ := hkh
    clear hkh
    by_cases hlt : k ≤ hi
    · have hq : k / 64 < 4 := by omega
      have hck := hb.cell hq
      simp only [u64s] at hck
      have hs := shr6 k
      have h63 := and63b ⟨k, by omega⟩
      simp only at h63
      have hm : min (k % 64) 64 = k % 64 := by omega
      have hw1 : IntKind.u64.wrap ((k % 64 : Nat) : Int) = ((k % 64 : Nat) : Int) := IntWalk.u64_in _ ⟨by omega, by omega⟩
      have hpl : 2 ^ (k % 64) < 18446744073709551616 := Nat.pow_lt_pow_right (n := 64) (by omega) (Nat.mod_lt _ (by omega))
      have hw2 : IntKind.u64.wrap ((2 : Int) ^ (k % 64)) = (2 : Int) ^ (k % 64) := by
        rw [show ((2 : Int) ^ (k % 64)) = ((2 ^ (k % 64) : Nat) : Int) by simp]
        exact IntWalk.u64_in _ ⟨Int.natCast_nonneg _, by have : ((2 ^ (k % 64) : Nat) : Int) < ((18446744073709551616 : Nat) : Int) := Int.ofNat_lt.2 hpl; omega⟩
      have hx : bits BinOp.or IntKind.u64 (wd (spanP P lo k) (k / 64) : Int) ((2 : Int) ^ (k % 64)) = ((wd (spanP P lo k) (k / 64) ||| 2 ^ (k % 64) : Nat) : Int) := by
        rw [show ((2 : Int) ^ (k % 64)) = ((2 ^ (k % 64) : Nat) : Int) by simp]
        exact bits_or_u64_nat (wd (spanP P lo k) (k / 64)) (2 ^ (k % 64)) (wd_lt _ _) hpl
      have Hx : Hid _ := hx
      clear hpl hx
      go_wp2_with fail
      go_roundg (gk - 1)
      case measure => omega
      case rel =>
        refine ⟨k + 1, by simp, by omega, by omega, .inl (by omega), hfr.setNew (by omega), ?_, _, hb2.setOther _ _ (by simp)⟩
        rw [Hx.out]
        exact (hb.set _ _).congr (u64s_upd _ _ _ _ _ (spanP_next P lo k hlk))
    · rw [spanP_end P lo hi k (by omega) Hkh.out] at c0 c1 c2 c3
      go_wp2_with fail
      refine bodyPost_ret (v := setV (joinP P (btw lo hi))) (by simp [results, Tryz.results171, go_sem, setV, d0, d1, d2, d3]) rfl ⟨rfl, ?_⟩
      repeat' refine Fr.setNew ?_ (by omega)
      exact hfr
theorem bwF (lo hi k a b : Nat) (ha : 64 * k + a = max lo (64 * k)) (hb : 64 * k + b = min hi (64 * k + 63)) (hab : a ≤ b) (hb63 : b ≤ 63) :
    bits BinOp.and IntKind.u64 (IntKind.u64.wrap (18446744073709551615 * 2 ^ a)) (18446744073709551615 / 2 ^ (63 - b)) = (wd (btw lo hi) k : Int) := by
  have h1 : IntKind.u64.wrap (18446744073709551615 * 2 ^ a) = ((18446744073709551615 * 2 ^ a % 18446744073709551616 : Nat) : Int) := by
    rw [IntKind.wrap_u64]
    simp
  have h2 : ((18446744073709551615 : Int) / 2 ^ (63 - b)) = ((18446744073709551615 / 2 ^ (63 - b) : Nat) : Int) := by
    rw [Int.natCast_ediv]; simp
  rw [h1, h2, bits_and_u64_nat _ _ (Nat.mod_lt _ (by omega)) (Nat.lt_of_le_of_lt (Nat.div_le_self _ _) (by omega)), wd_btw lo hi k a b ha hb hab hb63]
theorem wrapM : IntKind.u64.wrap 18446744073709551615 = 18446744073709551615 := IntWalk.u64_in _ ⟨by omega, by omega⟩
set_option maxRecDepth 100000 in
set_option maxHeartbeats 2000000 in
theorem between_any (lo hi : Nat) (hlo : lo < 256) (hhi : hi < 256) (w : World) : Calls Tryz.prog 144 #[.int .u8 lo, .int .u8 hi] w fun e w' => e = .returned (setV (btw lo hi)) ∧ Fr (fun _ => False) w w' := by
  unfold setV
  go_enter Tryz.func144, Tryz.ntmps144
  go_wp2_with fail
  have b1 := Blk.u64four w (fun _ => 0) 95
  have b2 := Blk.u64four (w.alloc (.cells #[.int .u64 (0 : Nat), .int .u64 (0 : Nat), .int .u64 (0 : Nat), .int .u64 (0 : Nat)] 95)) (fun _ => 0) 95
  simp only [World.size_alloc] at b2
  go_loopg [6] 4 (fun g kv wr => ∃ k : Nat, kv = .int .i64 k ∧ k + g = 4 ∧ Fr (fun _ => False) w wr ∧ Blk wr (w.heap.size + 1) 4 (u64s (mix k noP (btw lo hi))) ∧ ∃ h, Blk wr w.heap.size 4 (u64s h))
  case atStart => exact ⟨0, rfl, by omega, ((Fr.refl _ _).alloc _).alloc _, b2.congr (fun j hj => by simp [u64s, mix, wd_zero]), _, b1.alloc _⟩
  case round =>
    obtain ⟨k, rfl, hkg, hfr, hb, h2, hb2⟩ := hrel
    have c0 := hb.cell (show 0 < 4 by omega)
    have c1 := hb.cell (show 1 < 4 by omega)
    have c2 := hb.cell (show 2 < 4 by omega)
    have c3 := hb.cell (show 3 < 4 by omega)
    have d0 := hb2.cell (show 0 < 4 by omega)
    have d1 := hb2.cell (show 1 < 4 by omega)
    have d2 := hb2.cell (show 2 < 4 by omega)
    have d3 := hb2.cell (show 3 < 4 by omega)
    have z1 := hb.frozen
    have z2 := hb2.frozen
    simp only [u64s] at c0 c1 c2 c3 d0 d1 d2 d3
    have hkg' : k + gk = 4 := hkg
    clear hkg
    by_cases hlt : k < 4
    · have hck := hb.cell hlt
      simp only [u64s, show mix k noP (btw lo hi) k = 0 by simp [mix, wd_zero]] at hck
      have none_ : ∀ {b : Nat}, (hi < 64 * k ∨ 64 * k + 63 < lo ∨ hi < lo) → Blk wr b 4 (u64s (mix k noP (btw lo hi))) → Blk wr b 4 (u64s (mix (k + 1) noP (btw lo hi))) := fun h hb => hb.congr (fun j hj => by
        simp only [u64s]
        rw [mix_next k _ _ j hj]
        split
        · rename_i e
          subst e
          rw [wd_none lo hi j (fun i hi => by omega)]
          simp [mix, wd_zero]
        · rfl)
      have some_ : ∀ {v : Int}, v = (wd (btw lo hi) k : Int) → Blk (wr.setCell ⟨w.heap.size + 1, k, none⟩ (.int .u64 v)) (w.heap.size + 1) 4 (u64s (mix (k + 1) noP (btw lo hi))) := fun e => by
        rw [e]
        exact (hb.set _ _).congr (u64s_upd _ _ _ _ _ (mix_next k noP (btw lo hi)))
      by_cases x1 : lo < 64 * k
      · have y1 : decide ((lo : Int) - 64 * k < 0) = true := decide_eq_true (by omega)
        by_cases x2 : 64 * k + 63 < hi
        · have y2 : decide ((63 : Int) < hi - 64 * k) = true := decide_eq_true (by omega)
          have key := bwF lo hi k 0 63 (by omega) (by omega) (by omega) (by omega)
          rw [Int.pow_zero, Int.mul_one, wrapM, Int.ediv_one] at key
          have Hk : Hid _ := key
          clear key
          go_wp2_with fail
          go_roundg (gk - 1)
          case measure => omega
          case rel => exact ⟨k + 1, by simp, by omega, hfr.setNew (by omega), some_ Hk.out, _, hb2.setOther _ _ (by simp)⟩
        · have y2 : decide ((63 : Int) < hi - 64 * k) = false := decide_eq_false (by omega)
          by_cases x3 : 64 * k ≤ hi
          · have y3 : decide ((0 : Int) ≤ hi - 64 * k) = true := decide_eq_true (by omega)
            have key := bwF lo hi k 0 (hi - 64 * k) (by omega) (by omega) (by omega) (by omega)
            rw [Int.pow_zero, Int.mul_one, wrapM] at key
            have Hk : Hid _ := key
            clear key
            go_wp2_with fail
            go_roundg (gk - 1)
            case measure => omega
            case rel => exact ⟨k + 1, by simp, by omega, hfr.setNew (by omega), some_ Hk.out, _, hb2.setOther _ _ (by simp)⟩
          · have y3 : decide ((0 : Int) ≤ hi - 64 * k) = false := decide_eq_false (by omega)
            go_wp2_with fail
            go_roundg (gk - 1)
            case measure => omega
            case rel => exact ⟨k + 1, by simp, by omega, hfr, none_ (by omega) hb, _, hb2⟩
      · have y1 : decide ((lo : Int) - 64 * k < 0) = false := decide_eq_false (by omega)
        by_cases x2 : 64 * k + 63 < hi
        · have y2 : decide ((63 : Int) < hi - 64 * k) = true := decide_eq_true (by omega)
          by_cases x3 : lo ≤ 64 * k + 63
          · have y3 : decide ((lo : Int) - 64 * k ≤ 63) = true := decide_eq_true (by omega)
            have key := bwF lo hi k (lo - 64 * k) 63 (by omega) (by omega) (by omega) (by omega)
            rw [show 63 - 63 = 0 by omega, Int.pow_zero, Int.ediv_one] at key
            have Hk : Hid _ := key
            clear key
            go_wp2_with fail
            go_roundg (gk - 1)
            case measure => omega
            case rel => exact ⟨k + 1, by simp, by omega, hfr.setNew (by omega), some_ Hk.out, _, hb2.setOther _ _ (by simp)⟩
          · have y3 : decide ((lo : Int) - 64 * k ≤ 63) = false := decide_eq_false (by omega)
            go_wp2_with fail
            go_roundg (gk - 1)
            case measure => omega
            case rel => exact ⟨k + 1, by simp, by omega, hfr, none_ (by omega) hb, _, hb2⟩
        · have y2 : decide ((63 : Int) < hi - 64 * k) = false := decide_eq_false (by omega)
          by_cases x3 : lo ≤ hi
          · have y3 : decide ((lo : Int) - 64 * k ≤ hi - 64 * k) = true := decide_eq_true (by omega)
            have key := bwF lo hi k (lo - 64 * k) (hi - 64 * k) (by omega) (by omega) (by omega) (by omega)
            have Hk : Hid _ := key
            clear key
            go_wp2_with fail
            go_roundg (gk - 1)
            case measure => omega
            case rel => exact ⟨k + 1, by simp, by omega, hfr.setNew (by omega), some_ Hk.out, _, hb2.setOther _ _ (by simp)⟩
          · have y3 : decide ((lo : Int) - 64 * k ≤ hi - 64 * k) = false := decide_eq_false (by omega)
            go_wp2_with fail
            go_roundg (gk - 1)
            case measure => omega
            case rel => exact ⟨k + 1, by simp, by omega, hfr, none_ (by omega) hb, _, hb2⟩
    · obtain rfl : k = 4 := by omega
      rw [mix_end _ _ _ (by omega)] at c0 c1 c2 c3
      go_wp2_with fail
      refine bodyPost_ret (v := setV (btw lo hi)) (by simp [results, Tryz.results144, go_sem, setV, d0, d1, d2, d3]) rfl ⟨rfl, ?_⟩
      repeat' refine Fr.setNew ?_ (by omega)
      exact hfr
end Go.Proofs.Qxb6500283aGreat
