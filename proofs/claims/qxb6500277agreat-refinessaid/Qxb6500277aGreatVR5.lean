/- The machine's small functions: bits. -/
import Derived.Test.Qxb6500277aGreatVR4
import Derived.Laws.Bits64b
namespace Go.Proofs.Qxb6500277aGreat
open Go Go.RowKit

theorem or_i64 (a b : Nat) (ha : a < 2 ^ 62) (hb : b < 2 ^ 62) : bits .or .i64 (a : Int) (b : Int) = ((a ||| b : Nat) : Int) := by
  have hx : a ||| b < 2 ^ 62 := Nat.or_lt_two_pow ha hb
  have h1 : (BitVec.ofInt 64 (a : Int)).toNat = a := by
    rw [BitVec.ofInt_natCast, BitVec.toNat_ofNat]; exact Nat.mod_eq_of_lt (by omega)
  have h2 : (BitVec.ofInt 64 (b : Int)).toNat = b := by
    rw [BitVec.ofInt_natCast, BitVec.toNat_ofNat]; exact Nat.mod_eq_of_lt (by omega)
  show IntKind.i64.wrap ((BitVec.ofInt 64 (a : Int) ||| BitVec.ofInt 64 (b : Int)).toNat : Int) = _
  rw [BitVec.toNat_or, h1, h2]
  exact IntWalk.i64_in _ ⟨by omega, by omega⟩
theorem or_low (a b n : Nat) (h : a < 2 ^ n) : a ||| b * 2 ^ n = a + b * 2 ^ n := by
  rw [Nat.or_comm, ← Nat.shiftLeft_eq, ← Nat.shiftLeft_add_eq_or_of_lt h]
  omega
theorem or8 (a b : Nat) (ha : a < 256) (hb : b < 65536) : bits .or .i64 (a : Int) ((b : Int) * 256) = ((a + 256 * b : Nat) : Int) := by
  have e : ((b : Int) * 256) = ((b * 2 ^ 8 : Nat) : Int) := by omega
  rw [e, or_i64 _ _ (by omega) (by omega), or_low a b 8 (by omega)]
  congr 1
  omega
theorem or16 (a b : Nat) (ha : a < 65536) (hb : b < 65536) : bits .or .i64 (a : Int) ((b : Int) * 65536) = ((a + 65536 * b : Nat) : Int) := by
  have e : ((b : Int) * 65536) = ((b * 2 ^ 16 : Nat) : Int) := by omega
  rw [e, or_i64 _ _ (by omega) (by omega), or_low a b 16 (by omega)]
  congr 1
  omega
set_option maxRecDepth 100000 in
set_option maxHeartbeats 2000000 in
theorem packF (a b c : Nat) (h : a < 256 ∧ b < 256 ∧ c ≤ 24) (w : World) : Calls Tryz.prog 104 #[.int .i64 (a : Nat), .int .i64 (b : Nat), .int .i64 (c : Nat)] w fun e w' => e = .returned (.int .i64 (packI a b c)) ∧ w' = w := by
  obtain ⟨h1, h2, h3⟩ := h
  have e1 := or8 a b h1 (by omega)
  have e2 := or16 (a + 256 * b) c (by omega) (by omega)
  have HE : Hid (_ ∧ _) := ⟨e1, e2⟩
  clear e1 e2
  go_enter Tryz.func104, Tryz.ntmps104
  go_wp2_with fail
  go_ret
  refine ⟨?_, rfl⟩
  show Ending.returned (.int .i64 (bits BinOp.or IntKind.i64 (bits BinOp.or IntKind.i64 (a : Int) ((b : Int) * 256)) ((c : Int) * 65536))) = _
  rw [HE.out.1, HE.out.2]
  rfl
set_option maxRecDepth 100000 in
set_option maxHeartbeats 2000000 in
theorem packedLiF (x : Nat) (w : World) : Calls Tryz.prog 199 #[.int .i64 (x : Nat)] w fun e w' => e = .returned (.int .i64 (x % 256 : Nat)) ∧ w' = w := by
  go_enter Tryz.func199, Tryz.ntmps199
  go_wp2_with fail
  go_ret
  exact ⟨rfl, rfl⟩
set_option maxRecDepth 100000 in
set_option maxHeartbeats 2000000 in
theorem packedLrF (x : Nat) (w : World) : Calls Tryz.prog 200 #[.int .i64 (x : Nat)] w fun e w' => e = .returned (.int .i64 (x / 256 % 256 : Nat)) ∧ w' = w := by
  go_enter Tryz.func200, Tryz.ntmps200
  go_wp2_with fail
  go_ret
  exact ⟨rfl, rfl⟩
set_option maxRecDepth 100000 in
set_option maxHeartbeats 2000000 in
theorem packedRbF (x : Nat) (w : World) : Calls Tryz.prog 201 #[.int .i64 (x : Nat)] w fun e w' => e = .returned (.int .i64 (x / 65536 : Nat)) ∧ w' = w := by
  go_enter Tryz.func201, Tryz.ntmps201
  go_wp2_with fail
  go_ret
  exact ⟨rfl, rfl⟩
set_option maxRecDepth 100000 in
set_option maxHeartbeats 2000000 in
theorem u16F {w : World} {cv : Value} {C : List Nat} (h : BAt w cv C) (hb : ∀ i, byteAt C i < 256) (hl : C.length ≤ 4096) (i : Nat) (hi : i + 2 ≤ C.length) : Calls Tryz.prog 43 #[cv, .int .i64 (i : Nat)] w fun e w' => e = .returned (.int .i64 (u16V C i : Nat)) ∧ ∃ m, w' = w.drewN m := by
  obtain ⟨b, c, e1, hlt, hc⟩ := h.all (by omega)
  have c0 := hc i (by omega)
  have c1 := hc (i + 1) (by omega)
  have hb0 := hb i
  have hb1 := hb (i + 1)
  have e8 := or8 (byteAt C i) (byteAt C (i + 1)) hb0 (by omega)
  have HE : Hid (_ = _) := e8
  have hil : (i : Int) ≤ (C.length : Int) - 2 := by omega
  have z1 : decide ((i : Int) < 0) = false := decide_eq_false (by omega)
  have z2 : decide ((i : Int) > (C.length : Int) - 2) = false := decide_eq_false (by omega)
  have z3 : decide ((C.length : Int) - 2 < (i : Int)) = false := decide_eq_false (by omega)
  subst e1
  clear h hc e8 hb
  unfold u16V
  generalize byteAt C i = x at *
  generalize byteAt C (i + 1) = y at *
  go_enter Tryz.func43, Tryz.ntmps43
  go_wp2_with fail
  go_quiet (fail)
  go_wp2_with fail
  go_ret
  refine ⟨?_, _, rfl⟩
  show Ending.returned (.int .i64 (bits BinOp.or IntKind.i64 (x : Int) ((y : Int) * 256))) = _
  rw [HE.out]
/-- The bytes from the highest on. -/
def hiV (C : List Nat) (i : Nat) : Nat → Nat
  | 0 => 0
  | k + 1 => hiV C i k * 256 + byteAt C (i + 7 - k)
theorem hi_lt (C : List Nat) (i : Nat) (hb : ∀ i, byteAt C i < 256) : ∀ k, hiV C i k < 256 ^ k
  | 0 => by simp [hiV]
  | k + 1 => by
    have := hi_lt C i hb k
    have := hb (i + 7 - k)
    simp only [hiV, Nat.pow_succ]
    omega
theorem hi_8 (C : List Nat) (i : Nat) : hiV C i 8 = u64V C i := by
  simp only [hiV, u64V, show i + 7 - 7 = i by omega, show i + 7 - 6 = i + 1 by omega, show i + 7 - 5 = i + 2 by omega, show i + 7 - 4 = i + 3 by omega, show i + 7 - 3 = i + 4 by omega, show i + 7 - 2 = i + 5 by omega, show i + 7 - 1 = i + 6 by omega, show i + 7 - 0 = i + 7 by omega]
  omega
theorem or_hi (u c : Nat) (hu : u < 2 ^ 56) (hc : c < 256) : bits .or .u64 (IntKind.u64.wrap ((u : Int) * 256)) (c : Int) = ((u * 256 + c : Nat) : Int) := by
  have e : IntKind.u64.wrap ((u : Int) * 256) = ((u * 2 ^ 8 : Nat) : Int) := by
    rw [show ((u : Int) * 256) = ((u * 2 ^ 8 : Nat) : Int) by omega]
    exact IntWalk.u64_in _ ⟨by omega, by omega⟩
  rw [e, bits_or_u64_nat _ _ (by omega) (by omega), Nat.or_comm, or_low c u 8 (by omega)]
  congr 1
  omega
set_option maxRecDepth 100000 in
set_option maxHeartbeats 2000000 in
theorem i64F {w : World} {cv : Value} {C : List Nat} (h : BAt w cv C) (hb : ∀ i, byteAt C i < 256) (hl : C.length ≤ 4096) (i : Nat) (hi : i + 8 ≤ C.length) : Calls Tryz.prog 108 #[cv, .int .i64 (i : Nat)] w fun e w' => e = .returned (.int .i64 (i64V C i)) ∧ w' = w := by
  obtain ⟨b, c, e1, hlt, hc⟩ := h.all (by omega)
  have z1 : decide ((i : Int) < 0) = false := decide_eq_false (by omega)
  have z2 : decide ((i : Int) > (C.length : Int) - 8) = false := decide_eq_false (by omega)
  have z3 : decide ((C.length : Int) - 8 < (i : Int)) = false := decide_eq_false (by omega)
  have hil : (i : Int) ≤ (C.length : Int) - 8 := by omega
  have HC : Hid _ := hc
  have HB : Hid _ := hb
  subst e1
  clear h hc hb
  go_enter Tryz.func108, Tryz.ntmps108
  go_wp2_with fail
  clear z1 z2 z3
  go_loopg [5, 6] 8 (fun g uv jv wr => ∃ k : Nat, k + g = 8 ∧ uv = .int .u64 (hiV C i k : Nat) ∧ jv = .int .i64 (7 - (k : Int)) ∧ wr = w)
  case atStart => exact ⟨0, rfl, rfl, rfl, rfl⟩
  case round =>
    obtain ⟨k, hkg, rfl, rfl, rfl⟩ := hrel
    have Hkg : Hid _ := hkg
    by_cases h8 : k < 8
    · have z4 : decide ((7 : Int) - (k : Int) ≥ 0) = true := decide_eq_true (by omega)
      have cj := HC.out (i + 7 - k) (by omega)
      have ej : (i : Int) + (7 - (k : Int)) = ((i + 7 - k : Nat) : Int) := by omega
      have hj : ((i + 7 - k : Nat) : Int) < C.length := by omega
      have hu := hi_lt C i HB.out k
      have hp : 256 ^ k ≤ 256 ^ 7 := Nat.pow_le_pow_right (by omega) (by omega)
      have e8 := or_hi (hiV C i k) (byteAt C (i + 7 - k)) (by omega) (HB.out _)
      have hcw : IntKind.u64.wrap ((byteAt C (i + 7 - k) : Nat) : Int) = ((byteAt C (i + 7 - k) : Nat) : Int) := IntWalk.u64_in _ ⟨by omega, by have := HB.out (i + 7 - k); omega⟩
      rw [← hcw] at e8
      have e9 : hiV C i (k + 1) = hiV C i k * 256 + byteAt C (i + 7 - k) := rfl
      rw [← e9] at e8
      have HE : Hid (_ = _) := e8
      clear e8 hu hp hkg e9 hcw
      go_wp2_with fail
      go_roundg (gk - 1)
      case measure => have := Hkg.out; omega
      case rel => exact ⟨k + 1, by have := Hkg.out; omega, by rw [HE.out], by congr 1; omega, rfl⟩
    · obtain rfl : k = 8 := by omega
      have z4 : decide ((7 : Int) - ((8 : Nat) : Int) ≥ 0) = false := by decide
      have e8 := hi_8 C i
      have HE : Hid (_ = _) := e8
      clear e8 hkg h8
      go_wp2_with fail
      go_ret
      refine ⟨?_, rfl⟩
      unfold i64V
      rw [← HE.out]
      rfl
end Go.Proofs.Qxb6500277aGreat
