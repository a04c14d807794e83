/- The plain law: the machine goes token by token as the model does. -/
import Derived.Test.Qxb6500277aGreatW13
namespace Go.Proofs.Qxb6500277aGreat
open Go Go.RowKit

theorem step_idle {src : ByteArray} {i : Nat} {r : R} (hs : r.state = 0) : stepR src i r = beginR i (bt src i) (classN (bt src i)) r := by
  have e : feedR src i (bt src i) (classN (bt src i)) r = (r, false) := by
    obtain ⟨a, b, c, d, e, f, g⟩ := r
    simp only at hs
    subst hs
    simp [feedR]
  simp [stepR, e]
theorem bt_out (s : ByteArray) (i : Nat) (h : s.size ≤ i) : bt s i = 0 := by simp [bt, show ¬ i < s.size by omega]
/-- The sort of the byte at a place; 7 behind the last byte. -/
def clsAt (src : ByteArray) (j : Nat) : Nat := if j < src.size then classN (bt src j) else 7
theorem fin_close {src : ByteArray} {j : Nat} {r r' : R} (hj : j ≤ src.size) (h0 : r.fail = 0) (h : feedR src j (bt src j) (clsAt src j) r = (r', false)) (hid : Idle r') : finR src j r = finR src j r' := by
  obtain ⟨hs, hf⟩ := hid
  by_cases hlt : j < src.size
  · rw [clsAt, if_pos hlt] at h
    rw [fin_step hlt h0, fin_step hlt hf, step_idle hs, stepR, h]
    simp
  · have e : j = src.size := by omega
    subst e
    rw [clsAt, if_neg hlt, bt_out _ _ (Nat.le_refl _)] at h
    rw [fin_end h0, fin_end hf, h]
    obtain ⟨a, b, c, d, e, f, g⟩ := r'
    simp only at hs
    subst hs
    simp [feedR]
theorem fin_stay {src : ByteArray} {j : Nat} {r r' : R} (hj : j < src.size) (h0 : r.fail = 0) (h : feedR src j (bt src j) (classN (bt src j)) r = (r', true)) : finR src j r = finR src (j + 1) r' := by
  rw [fin_step hj h0, stepR, h]
  simp
theorem class_le (c : Nat) : classN c ≤ 6 := by
  unfold classN
  (repeat' split) <;> omega

/-- What the machine has come to at i: nothing is open. -/
structure At (src : ByteArray) (i : Nat) (ts : List Tok) (G : R) : Prop where
  ex : ∃ r, Idle r ∧ r.toks = ts ∧ G = finR src i r

theorem at_space {src : ByteArray} {i : Nat} {ts : List Tok} {G : R} (h : At src i ts G) (hi : i < src.size) (hc : classN (bt src i) = 3) : At src (i + 1) ts G := by
  obtain ⟨r, hid, ht, hG⟩ := h.ex
  refine ⟨_, ?_, ?_, hG.trans (by rw [fin_step hi hid.2, step_idle hid.1])⟩
  · rw [hc]; simpa [Idle, beginR] using hid
  · rw [hc]; simpa [beginR] using ht
theorem note_run {src : ByteArray} {r : R} (h0 : r.fail = 0) (hs : r.state = 3) (a : Nat) : ∀ m, a + m ≤ src.size → (∀ j, a ≤ j → j < a + m → noteB (bt src j) = true) → finR src a r = finR src (a + m) r
  | 0, _, _ => rfl
  | m + 1, h1, h2 => by
    rw [note_run h0 hs a m (by omega) (fun j h3 h4 => h2 j h3 (by omega)), ← Nat.add_assoc]
    refine fin_stay (by omega) h0 ?_
    have := h2 (a + m) (by omega) (by omega)
    simp only [noteB, decide_eq_true_eq] at this
    have hcl := class_le (bt src (a + m))
    simp [feedR, hs, this, show classN (bt src (a + m)) ≠ 7 by omega]
theorem class35 : classN 35 = 4 := by decide
theorem at_note {src : ByteArray} {i n : Nat} {ts : List Tok} {G : R} (h : At src i ts G) (hi : i < src.size) (hc : bt src i = 35) (hr : Run noteB src i n) : At src (i + n) ts G := by
  obtain ⟨r, hid, ht, hG⟩ := h.ex
  have hn : 1 ≤ n := by
    rcases Nat.eq_zero_or_pos n with e | e
    · subst e
      rcases hr.stop with e | e
      · omega
      · rw [Nat.add_zero, hc] at e; simp [noteB] at e
    · exact e
  have e1 : stepR src i r = { r with start := i, first := 35, state := 3, opn := 4 } := by
    rw [step_idle hid.1, hc, class35]; simp [beginR]
  have e2 := note_run (src := src) (r := { r with start := i, first := 35, state := 3, opn := 4 }) hid.2 rfl (i + 1) (n - 1) (by have := hr.le; omega) (fun j h1 h2 => hr.all j (by omega) (by omega))
  rw [show i + 1 + (n - 1) = i + n by omega] at e2
  refine ⟨{ r with start := i, first := 35, state := 0, opn := 4 }, ⟨rfl, hid.2⟩, ht, ?_⟩
  rw [hG, fin_step hi hid.2, e1, e2]
  refine fin_close hr.le hid.2 ?_ ⟨rfl, hid.2⟩
  have : ¬ (clsAt src (i + n) ≠ 7 ∧ bt src (i + n) ≠ 10) := by
    rcases hr.stop with e | e
    · simp [clsAt, e]
    · simp [noteB] at e; simp [e]
  simp [feedR, this]

theorem cls_letter (c : Nat) : classN c = 1 ↔ letterB c = true := by
  unfold classN letterB
  constructor
  · intro h
    (repeat' split at h) <;> simp <;> omega
  · intro h
    simp at h
    rw [if_pos (by omega)]
theorem cls_digit (c : Nat) : classN c = 2 ↔ digitB c = true := by
  unfold classN digitB
  constructor
  · intro h
    (repeat' split at h) <;> simp <;> omega
  · intro h
    simp at h
    rw [if_neg (by omega), if_pos (by omega)]
theorem alnum_cls (c : Nat) : alnumB c = true ↔ classN c = 1 ∨ classN c = 2 := by
  rw [alnumB, Bool.or_eq_true, cls_letter, cls_digit]
theorem word_run {src : ByteArray} {r : R} (h0 : r.fail = 0) (hs : r.state = 1) (a : Nat) : ∀ m, a + m ≤ src.size → a + m ≤ r.start + 8 → (∀ j, a ≤ j → j < a + m → alnumB (bt src j) = true) → finR src a r = finR src (a + m) r
  | 0, _, _, _ => rfl
  | m + 1, h1, h3, h2 => by
    rw [word_run h0 hs a m (by omega) (by omega) (fun j h4 h5 => h2 j h4 (by omega)), ← Nat.add_assoc]
    refine fin_stay (by omega) h0 ?_
    have := (alnum_cls _).1 (h2 (a + m) (by omega) (by omega))
    simp [feedR, hs, this, show ¬ r.start + 8 ≤ a + m by omega]
theorem word_open {src : ByteArray} {i : Nat} {r : R} (hid : Idle r) (hl : letterB (bt src i) = true) : stepR src i r = { r with start := i, first := bt src i, state := 1, opn := 1 } := by
  rw [step_idle hid.1, (cls_letter _).2 hl]; simp [beginR]
theorem at_word {src : ByteArray} {i n : Nat} {ts : List Tok} {G : R} (h : At src i ts G) (hi : i < src.size) (hl : letterB (bt src i) = true) (hr : Run alnumB src i n) (h8 : n ≤ 8) :
    At src (i + n) (ts ++ [wordT ⟨[], 0, i, bt src i, 0, 0, 0⟩ (src.extract i (i + n))]) G := by
  obtain ⟨r, hid, ht, hG⟩ := h.ex
  have hn : 1 ≤ n := by
    rcases Nat.eq_zero_or_pos n with e | e
    · subst e
      rcases hr.stop with e | e
      · omega
      · rw [Nat.add_zero, alnumB, hl] at e; cases e
    · exact e
  have e2 := word_run (src := src) (r := { r with start := i, first := bt src i, state := 1, opn := 1 }) hid.2 rfl (i + 1) (n - 1) (by have := hr.le; omega) (by simp; omega) (fun j h1 h2 => hr.all j (by omega) (by omega))
  rw [show i + 1 + (n - 1) = i + n by omega] at e2
  refine ⟨{ r with toks := r.toks ++ [wordT ⟨[], 0, i, bt src i, 0, 0, 0⟩ (src.extract i (i + n))], start := i, first := bt src i, state := 0, opn := 1 }, ⟨rfl, hid.2⟩, by rw [← ht], ?_⟩
  rw [hG, fin_step hi hid.2, word_open hid hl, e2]
  refine fin_close hr.le hid.2 ?_ ⟨rfl, hid.2⟩
  have : ¬ (clsAt src (i + n) = 1 ∨ clsAt src (i + n) = 2) := by
    rcases hr.stop with e | e
    · simp [clsAt, e]
    · by_cases hlt : i + n < src.size
      · rw [clsAt, if_pos hlt, ← alnum_cls, e]; simp
      · rw [clsAt, if_neg hlt]; simp
  simp [feedR, this, pushR, wordT]
theorem word_long {src : ByteArray} {i n : Nat} {ts : List Tok} {G : R} (h : At src i ts G) (hi : i < src.size) (hl : letterB (bt src i) = true) (hr : Run alnumB src i n) (h8 : 8 < n) : G.fail = 9 ∧ G.start = i := by
  obtain ⟨r, hid, ht, hG⟩ := h.ex
  have hle := hr.le
  have e2 := word_run (src := src) (r := { r with start := i, first := bt src i, state := 1, opn := 1 }) hid.2 rfl (i + 1) 7 (by omega) (by simp) (fun j h1 h2 => hr.all j (by omega) (by omega))
  have e3 : finR src (i + 8) { r with start := i, first := bt src i, state := 1, opn := 1 } = finR src (i + 8 + 1) { r with start := i, first := bt src i, state := 1, opn := 1, fail := 9 } := by
    refine fin_stay (by omega) hid.2 ?_
    have := (alnum_cls _).1 (hr.all (i + 8) (by omega) (by omega))
    simp [feedR, this]
  rw [fin_step hi hid.2, word_open hid hl, e2, show i + 1 + 7 = i + 8 by omega, e3, fin_fail (by simp)] at hG
  rw [hG]
  exact ⟨rfl, rfl⟩
end Go.Proofs.Qxb6500277aGreat
