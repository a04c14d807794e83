import Derived.Test.Qxb6500282aD9
namespace Go.Proofs.Qxb6500282a
open Go Go.RowKit

theorem bt_at' (s : ByteArray) (i : Nat) (h : i < s.size) : bt s i = s[i].toNat := by simp [bt, h]
theorem bt_lt' (s : ByteArray) (i : Nat) : bt s i < 256 := by
  unfold bt
  split
  · exact UInt8.toNat_lt _
  · omega
theorem and_ne {a b : Nat} : a &&& b ≠ 0 ↔ ∃ q, a.testBit q = true ∧ b.testBit q = true := by
  constructor
  · intro h
    by_cases hq : ∃ q, (a &&& b).testBit q = true
    · obtain ⟨q, hq⟩ := hq
      rw [Nat.testBit_and, Bool.and_eq_true] at hq
      exact ⟨q, hq⟩
    · exfalso
      apply h
      apply Nat.eq_of_testBit_eq
      intro q
      rw [Nat.zero_testBit]
      cases hb : (a &&& b).testBit q with
      | false => rfl
      | true => exact absurd ⟨q, hb⟩ hq
  · rintro ⟨q, h1, h2⟩ e
    have : (a &&& b).testBit q = true := by rw [Nat.testBit_and, h1, h2]; rfl
    rw [e, Nat.zero_testBit] at this
    cases this
def MoveP (p : List In) (R : Nat → Prop) (c q : Nat) : Prop := q = 0 ∨ ∃ pc, q = pc + 1 ∧ R pc ∧ ∃ x, p[pc]? = some x ∧ x.op = 0 ∧ hasB x.s0 x.s1 x.s2 x.s3 c = true
theorem moveP_iff {p : List In} {S c : Nat} {R : Nat → Prop} (h : ∀ q, S.testBit q = true ↔ R q) (q : Nat) : MoveTo p S c p.length q ↔ MoveP p R c q := by
  unfold MoveTo MoveP
  constructor
  · rintro (e | ⟨pc, h1, h2, h3, h4⟩)
    · exact .inl e
    · exact .inr ⟨pc, h2, (h pc).1 h3, h4⟩
  · rintro (e | ⟨pc, h2, h3, x, hx, h4⟩)
    · exact .inl e
    · exact .inr ⟨pc, (List.getElem?_eq_some_iff.1 hx).1, h2, (h pc).2 h3, x, hx, h4⟩
/-- The places of the program that stand open k bytes behind the start; every place from the start on may begin a match. -/
def RD (p : List In) (str : ByteArray) (from_ : Nat) : Nat → Nat → Prop
  | 0 => Clo p (decide (from_ = 0)) false fun q => q < p.length ∧ q = 0
  | k + 1 => Clo p false false fun q => q < p.length ∧ MoveP p (RD p str from_ k) (bt str (from_ + k)) q
theorem IsStep.rd {p : List In} {str : ByteArray} {from_ k S T : Nat} (hS : ∀ q, S.testBit q = true ↔ RD p str from_ k q) (h : IsStep p S (bt str (from_ + k)) T) (q : Nat) : T.testBit q = true ↔ RD p str from_ (k + 1) q := by
  rw [h.2.1 q]
  have e : (fun q => q < p.length ∧ MoveTo p S (bt str (from_ + k)) p.length q) = fun q => q < p.length ∧ MoveP p (RD p str from_ k) (bt str (from_ + k)) q := by funext q; rw [moveP_iff hS q]
  rw [e]; rfl
def HitK (p : List In) (str : ByteArray) (from_ k : Nat) : Prop := ∃ q, RD p str from_ k q ∧ opAt p q 6
def HitE (p : List In) (str : ByteArray) (from_ : Nat) : Prop := ∃ q, Clo p (decide (str.size = 0)) true (fun q => q < p.length ∧ RD p str from_ (str.size - from_) q) q ∧ opAt p q 6
def AnsP (p : List In) (str : ByteArray) (from_ : Nat) : Prop := (∃ k, k ≤ str.size - from_ ∧ HitK p str from_ k) ∨ HitE p str from_
theorem hit_iff {p : List In} {str : ByteArray} {from_ k S H : Nat} (hS : ∀ q, S.testBit q = true ↔ RD p str from_ k q) (hH : IsMask p H 6) : S &&& H ≠ 0 ↔ HitK p str from_ k := by
  rw [and_ne]
  constructor
  · rintro ⟨q, h1, h2⟩; exact ⟨q, (hS q).1 h1, (hH.2 q).1 h2⟩
  · rintro ⟨q, h1, h2⟩; exact ⟨q, (hS q).2 h1, (hH.2 q).2 h2⟩

theorem last_iff {p : List In} {str : ByteArray} {from_ S T H : Nat} (hS : ∀ q, S.testBit q = true ↔ RD p str from_ (str.size - from_) q) (hT : ∀ q, T.testBit q = true ↔ Clo p ((str.size : Int) == 0) true (fun q => q < p.length ∧ S.testBit q = true) q) (hH : IsMask p H 6) :
    T &&& H ≠ 0 ↔ HitE p str from_ := by
  have eb : ((str.size : Int) == 0) = decide (str.size = 0) := by
    by_cases h : str.size = 0
    · simp [h]
    · rw [decide_eq_false h]; exact beq_eq_false_iff_ne.2 (by omega)
  have e : (fun q => q < p.length ∧ S.testBit q = true) = fun q => q < p.length ∧ RD p str from_ (str.size - from_) q := by funext q; rw [hS q]
  rw [eb, e] at hT
  rw [and_ne]
  constructor
  · rintro ⟨q, h1, h2⟩; exact ⟨q, (hT q).1 h1, (hH.2 q).1 h2⟩
  · rintro ⟨q, h1, h2⟩; exact ⟨q, (hT q).2 h1, (hH.2 q).2 h2⟩
structure RunP (p : List In) (s s' : DS) (n : Nat) : Prop where
  inv : CInv p s'
  us : 1 ≤ s'.used
  w0 : s.worked ≤ s'.worked
  w1 : s'.worked ≤ s.worked + n
  b0 : s.built ≤ s'.built
  b1 : s'.built + s.worked ≤ s.built + s'.worked
  b2 : s'.built ≤ s.built + n
  f0 : s.flushes ≤ s'.flushes
  f1 : s'.flushes ≤ s.flushes + n
  led : s'.built + s.used + 6 * s.flushes = s.built + s'.used + 6 * s'.flushes
theorem RunP.step {p : List In} {s s1 s' : DS} {n cell b to : Nat} (h : RunP p s s1 n) (hs : StepP p s1 cell b s' to) : RunP p s s' (n + 1) := by
  obtain ⟨_, _, a1, a2, a3, a4, a5, a6, a7, a8⟩ := h
  obtain ⟨c0, c1, _, c2, c3, c4, c5, c6, c7, c8⟩ := hs
  exact ⟨c0, by omega, by omega, by omega, by omega, by omega, by omega, by omega, by omega, by omega⟩
theorem RunP.sized {p : List In} {s s' : DS} {n : Nat} (h : RunP p s s' n) (hn : n ≤ 300) (h1 : s.built < 999999999999990000) (h2 : s.flushes < 999999999999990000) (h3 : s.worked < 999999999999990000) : Sized s' := by
  refine ⟨h.inv.used, fun c hc => ?_, by have := h.b2; omega, by have := h.f1; omega, by have := h.w1; omega⟩
  by_cases hu : c < s'.used
  · exact (h.inv.good c hu).lt
  · rw [h.inv.kz c (by omega) hc]; omega
/-- If no IEnd stands open the last closure adds nothing. -/
theorem no_end {p : List In} {str : ByteArray} {from_ : Nat} (hfrom : from_ ≤ str.size) (hn : ∀ q, RD p str from_ (str.size - from_) q → ¬ opAt p q 5) (h : HitE p str from_) : HitK p str from_ (str.size - from_) := by
  obtain ⟨q, h1, h2⟩ := h
  refine ⟨q, h1 (fun q => RD p str from_ (str.size - from_) q) (fun q h => h.2) (fun q r hq hs => ?_), h2⟩
  obtain ⟨x, hx, h⟩ := hs
  have ncl : ∀ b, (str.size - from_ = 0 → b = decide (from_ = 0)) → (str.size - from_ ≠ 0 → b = false) → eps p b false q r → RD p str from_ (str.size - from_) r := by
    intro b hb1 hb2 he
    cases hk : str.size - from_ with
    | zero =>
      rw [hk] at hq
      rw [hb1 hk] at he
      exact Clo.step hq he
    | succ k =>
      rw [hk] at hq
      rw [hb2 (by omega)] at he
      exact Clo.step hq he
  refine ncl (decide (str.size = 0)) (fun e => by have : from_ = str.size := by omega
                                                  rw [this]) (fun e => decide_eq_false (by omega)) ⟨x, hx, ?_⟩
  rcases h with h | h | h | h | h
  · exact .inl h
  · exact .inr (.inl h)
  · exact .inr (.inr (.inl h))
  · exact .inr (.inr (.inr (.inl h)))
  · exact absurd ⟨x, hx, h.1⟩ (hn q hq)

end Go.Proofs.Qxb6500282a
