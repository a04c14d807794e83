import Derived.Test.Qxb6500283aGreatSyn5
namespace Go.Proofs.Qxb6500283aGreat

/-! Sets as words. -/
def wdN (P : BSet) : Nat → Nat → Nat
  | _, 0 => 0
  | b, n + 1 => (if P b then 1 else 0) + 2 * wdN P (b + 1) n
/-- Word w of the set P. -/
def wd (P : BSet) (w : Nat) : Nat := wdN P (64 * w) 64
theorem wdN_lt (P : BSet) : ∀ n b, wdN P b n < 2 ^ n := by
  intro n
  induction n with
  | zero => intro b; simp [wdN]
  | succ n ih =>
    intro b
    have := ih (b + 1)
    rw [Nat.pow_succ]
    simp only [wdN]
    split <;> omega
theorem wdN_testBit (P : BSet) : ∀ n b i, (wdN P b n).testBit i = (decide (i < n) && P (b + i)) := by
  intro n
  induction n with
  | zero => intro b i; simp [wdN]
  | succ n ih =>
    intro b i
    cases i with
    | zero =>
      simp only [wdN, Nat.testBit_zero, Nat.add_zero]
      cases hb : P b
      · simp
      · simp
    | succ i =>
      rw [Nat.testBit_succ]
      have h2 : wdN P b (n + 1) / 2 = wdN P (b + 1) n := by
        simp only [wdN]; split <;> omega
      rw [h2, ih (b + 1) i, show b + 1 + i = b + (i + 1) by omega]
      simp
theorem wd_lt (P : BSet) (w : Nat) : wd P w < 18446744073709551616 := wdN_lt P 64 _
theorem wd_testBit (P : BSet) (w i : Nat) (h : i < 64) : (wd P w).testBit i = P (64 * w + i) := by
  unfold wd
  rw [wdN_testBit]
  simp [h]
theorem wd_eq {P : BSet} {w x : Nat} (hx : x < 18446744073709551616) (h : ∀ i, i < 64 → x.testBit i = P (64 * w + i)) : x = wd P w := by
  apply Nat.eq_of_testBit_eq
  intro i
  by_cases hi : i < 64
  · rw [wd_testBit _ _ _ hi, h i hi]
  · have h64 : (18446744073709551616 : Nat) ≤ 2 ^ i := Nat.pow_le_pow_right (n := 2) (by decide) (show 64 ≤ i by omega)
    rw [Nat.testBit_lt_two_pow (Nat.lt_of_lt_of_le hx h64), Nat.testBit_lt_two_pow (Nat.lt_of_lt_of_le (wd_lt P w) h64)]
theorem wd_or (P Q : BSet) (w : Nat) : wd P w ||| wd Q w = wd (joinP P Q) w := by
  refine wd_eq (Nat.or_lt_two_pow (n := 64) (wd_lt P w) (wd_lt Q w)) fun i hi => ?_
  rw [Nat.testBit_or, wd_testBit _ _ _ hi, wd_testBit _ _ _ hi]
  rfl
theorem wd_not (P : BSet) (w : Nat) : 18446744073709551615 - wd P w = wd (notP P) w := by
  have h := wd_lt P w
  refine wd_eq (by omega) fun i hi => ?_
  have := Nat.testBit_two_pow_sub_succ (n := 64) (x := wd P w) (by omega) i
  rw [show 18446744073709551615 - wd P w = 2 ^ 64 - (wd P w + 1) by omega, this, wd_testBit _ _ _ hi]
  simp [hi, notP]
theorem wd_zero (w : Nat) : wd noP w = 0 := by
  refine (wd_eq (P := noP) (w := w) (x := 0) (by omega) fun i hi => ?_).symm
  simp [noP]
theorem two64 : (18446744073709551615 : Nat) = 2 ^ 64 - 1 := by decide
theorem wd_btw (lo hi w a b : Nat) (ha : 64 * w + a = max lo (64 * w)) (hb : 64 * w + b = min hi (64 * w + 63)) (hab : a ≤ b) (hb63 : b ≤ 63) : (18446744073709551615 * 2 ^ a % 18446744073709551616) &&& (18446744073709551615 / 2 ^ (63 - b)) = wd (btw lo hi) w := by
  refine wd_eq (Nat.lt_of_le_of_lt Nat.and_le_left (Nat.mod_lt _ (by omega))) fun i hi => ?_
  rw [Nat.testBit_and, show (18446744073709551616 : Nat) = 2 ^ 64 by decide, Nat.testBit_mod_two_pow, Nat.testBit_mul_two_pow, Nat.testBit_div_two_pow, two64, Nat.testBit_two_pow_sub_one, Nat.testBit_two_pow_sub_one]
  simp only [btw, hi, decide_true, Bool.true_and]
  rw [Bool.eq_iff_iff]
  simp only [Bool.and_eq_true, decide_eq_true_eq]
  omega
theorem wd_none (lo hi w : Nat) (h : ∀ i, i < 64 → ¬ (lo ≤ 64 * w + i ∧ 64 * w + i ≤ hi)) : wd (btw lo hi) w = 0 := by
  refine (wd_eq (P := btw lo hi) (w := w) (x := 0) (by omega) fun i hi => ?_).symm
  have := h i hi
  simp only [Nat.zero_testBit, btw]
  symm
  rw [Bool.and_eq_false_iff]
  simp only [decide_eq_false_iff_not]
  omega
/-- One byte more. -/
theorem wd_bit (P Q : BSet) (c : Nat) (h : ∀ x, Q x = (P x || x == c)) : wd P (c / 64) ||| 2 ^ (c % 64) = wd Q (c / 64) := by
  refine wd_eq (Nat.or_lt_two_pow (n := 64) (wd_lt P _) (Nat.pow_lt_pow_right (by omega) (Nat.mod_lt _ (by omega)))) fun i hi => ?_
  rw [Nat.testBit_or, wd_testBit _ _ _ hi, h, Nat.testBit_two_pow]
  congr 1
  rw [Bool.eq_iff_iff]
  simp only [decide_eq_true_eq, beq_iff_eq]
  omega
theorem wd_same (P Q : BSet) (w : Nat) (h : ∀ i, i < 64 → P (64 * w + i) = Q (64 * w + i)) : wd P w = wd Q w := wd_eq (wd_lt P w) fun i hi => by rw [wd_testBit _ _ _ hi, h i hi]
/-- Has. -/
theorem wd_has (P : BSet) (c : Nat) : (wd P (c / 64) / 2 ^ (c % 64)) % 2 = if P c then 1 else 0 := by
  have h := wd_testBit P (c / 64) (c % 64) (Nat.mod_lt _ (by omega))
  rw [show 64 * (c / 64) + c % 64 = c by omega] at h
  rw [Nat.testBit_eq_decide_div_mod_eq] at h
  cases hp : P c
  · rw [hp] at h; simp at h ⊢; omega
  · rw [hp] at h; simp at h ⊢; exact h
end Go.Proofs.Qxb6500283aGreat
