import Derived.Test.Qxb6500283aGreatDfD10
namespace Go.Proofs.Qxb6500283aGreat
open Go Go.RowKit

theorem AdoptR.inv {K p : List In} {s s' : DS} (h : CInvD K s) (hr : AdoptR s p s') : CInvD p s' ∧ s'.used = 0 ∧ s'.built = s.built ∧ s'.flushes = s.flushes + 1 ∧ s'.worked = s.worked := by
  obtain ⟨C, E, H, mC, mE, mH, rfl⟩ := hr
  have hf := h.flush
  exact ⟨⟨hf.used, fun c hc => by simp [flushD] at hc, hf.kz, fun c d hc => by simp [flushD] at hc, hf.nlo, hf.nz, fun c b hc => by simp [flushD] at hc, mC, mE, mH⟩, rfl, rfl, rfl, rfl⟩
structure AnyG (p : List In) (s s' : DS) (n : Nat) (same : Bool) : Prop where
  inv : CInvD p s'
  us : 1 ≤ s'.used
  w0 : s.worked + 1 ≤ s'.worked
  w1 : s'.worked ≤ s.worked + n + 2
  b0 : s.built ≤ s'.built
  b1 : s'.built + s.worked ≤ s.built + s'.worked
  b2 : s'.built ≤ s.built + n + 1
  f0 : s.flushes ≤ s'.flushes
  f1 : s'.flushes ≤ s.flushes + n + 2
  led : same = true → s'.built + s.used + 6 * s.flushes = s.built + s'.used + 6 * s'.flushes
  led2 : same = false → s'.built + 6 * (s.flushes + 1) = s.built + s'.used + 6 * s'.flushes
  f2 : same = false → s.flushes + 1 ≤ s'.flushes
structure DInv (w : World) (x : Nat) (kv : Value) (K : List In) (s : DS) : Prop where
  mach : Mach w x kv s
  kv : KV w x kv K
  inv : CInvD K s
  bu : s.used ≤ s.built
  wk : s.built ≤ s.worked
  no : K = [] → s.used = 0
def dErr (p : List In) (str : ByteArray) (from_ : Int) : Int := if 256 < str.size then 12 else if progOK p = false then 9 else if from_ < 0 ∨ (str.size : Int) < from_ then 10 else 0
theorem first_rd {p : List In} {str : ByteArray} {from_ S : Nat} (hS : ∀ q, S.testBit q = true ↔ Clo p ((from_ : Int) == 0) false (fun q => q < p.length ∧ (1 : Nat).testBit q = true) q) (q : Nat) : S.testBit q = true ↔ RD p str from_ 0 q := by
  have eb : ((from_ : Int) == 0) = decide (from_ = 0) := by
    by_cases h : from_ = 0
    · simp [h]
    · rw [decide_eq_false h]; exact beq_eq_false_iff_ne.2 (by omega)
  have e : (fun q => q < p.length ∧ (1 : Nat).testBit q = true) = fun q => q < p.length ∧ q = 0 := by
    funext q
    rw [show (1 : Nat) = 2 ^ 0 by rfl, Nat.testBit_two_pow]
    simp only [decide_eq_true_eq]
    exact propext ⟨fun h => ⟨h.1, h.2.symm⟩, fun h => ⟨h.1, h.2.symm⟩⟩
  rw [hS q, eb, e]; rfl
/-- From the adopted program on. -/
theorem any_tail {p : List In} {str : ByteArray} {from_ : Nat} {s0 s1 s2 s3 s4 : DS} {S c : Nat} {stk' : Nat → Int} (hok : OkProg p) (hi : CInvD p s0) (hs1 : s1 = { s0 with stk := stk', worked := s0.worked + 1 })
    (hSl : S < 18446744073709551616) (hS : ∀ q, S.testBit q = true ↔ Clo p ((from_ : Int) == 0) false (fun q => q < p.length ∧ (1 : Nat).testBit q = true) q) (hSi : ∀ q, S.testBit q = true → q < p.length) (hc : CellR s1 S c s2)
    (hr : RunPD p s2 s3 (str.size - from_)) (h4 : s4 = s3 ∨ ∃ stk', s4 = { s3 with stk := stk', worked := s3.worked + 1 }) : AnyG p s0 s4 (str.size - from_) true ∧ s4.flushes ≤ s0.flushes + (str.size - from_) + 1 := by
  have g := good_clo hSl hS hSi ⟨hok.pos, rfl⟩
  have cp := CellR.p (hi.congr (t := s1) (by rw [hs1]) (by rw [hs1]) (by rw [hs1]) (by rw [hs1]) (by rw [hs1]) (by rw [hs1])) g hc
  have e1 : s1.worked = s0.worked + 1 := by rw [hs1]
  have e2 : s1.built = s0.built := by rw [hs1]
  have e3 : s1.flushes = s0.flushes := by rw [hs1]
  have e4 : s1.used = s0.used := by rw [hs1]
  have c1 := cp.b0; have c2 := cp.b1; have c3 := cp.f0; have c4 := cp.f1; have c5 := cp.wk; have c6 := cp.led
  obtain ⟨r1, r2, r3, r4, r5, r6, r7, r8, r9, r10⟩ := hr
  rcases h4 with rfl | ⟨stk', rfl⟩
  · exact ⟨⟨r1, r2, by omega, by omega, by omega, by omega, by omega, by omega, by omega, fun _ => by omega, (fun e => by cases e), fun e => by cases e⟩, by omega⟩
  · exact ⟨⟨r1.congr rfl rfl rfl rfl rfl rfl, r2, by simp only; omega, by simp only; omega, by simp only; omega, by simp only; omega, by simp only; omega, by simp only; omega, by simp only; omega, fun _ => by simp only; omega, (fun e => by cases e), fun e => by cases e⟩, by simp only; omega⟩
theorem AnyG.anew {K p : List In} {s s0 s4 : DS} {n : Nat} (hi : CInvD K s) (ha : AdoptR s p s0) (h : AnyG p s0 s4 n true) (hf : s4.flushes ≤ s0.flushes + n + 1) : AnyG p s s4 n false := by
  obtain ⟨_, a1, a2, a3, a4⟩ := ha.inv hi
  obtain ⟨r1, r2, r3, r4, r5, r6, r7, r8, r9, r10, _, _⟩ := h
  have := r10 rfl
  exact ⟨r1, r2, by omega, by omega, by omega, by omega, by omega, by omega, by omega, (fun e => by cases e), fun _ => by omega, fun _ => by omega⟩

theorem dErr_ok {p : List In} {str : ByteArray} {from_ : Int} (h : dErr p str from_ = 0) : str.size ≤ 256 ∧ OkProg p ∧ ∃ n : Nat, from_ = n ∧ n ≤ str.size := by
  unfold dErr at h
  split at h
  · cases h
  · split at h
    · cases h
    · split at h
      · cases h
      · rename_i h1 h2 h3
        refine ⟨by omega, (progOK_iff p).1 (by simpa using h2), from_.toNat, by omega, by omega⟩

set_option maxRecDepth 100000 in
set_option maxHeartbeats 8000000 in
theorem any_bad {w : World} {x : Nat} (p : List In) (pb pc : Nat) (hp : PAt w pb p) (hlen : p.length < 1000000) (str : ByteArray) (from_ : Int) (hbad : dErr p str from_ ≠ 0) :
    Calls Tryz.prog 74 #[.pointer (some ⟨x, 0, none⟩), .slice (some ⟨pb, 0, none⟩) p.length pc, .string str, .int .i64 from_] w fun e w' => e = .returned (.tuple #[.bool false, .int .i64 (dErr p str from_)]) ∧ Fr (fun _ => False) w w' := by
  unfold dErr at hbad ⊢
  by_cases h1 : 256 < str.size
  · rw [if_pos h1]
    have t1 : decide ((256 : Int) < (str.size : Int)) = true := by simp; omega
    clear h1 hbad
    go_enter Tryz.func74, Tryz.ntmps74
    go_wp2_with fail
    exact bodyPost_ret (v := .tuple #[.bool false, .int .i64 12]) (by simp [results, Tryz.results74, go_sem]) rfl ⟨rfl, Fr.refl _ _⟩
  · rw [if_neg h1] at hbad ⊢
    have t1 : decide ((256 : Int) < (str.size : Int)) = false := by simp; omega
    clear h1
    cases h2 : progOK p with
    | false =>
      rw [if_pos rfl]
      clear hbad
      go_enter Tryz.func74, Tryz.ntmps74
      go_wp2_with fail
      refine (progok_any p pb pc hp hlen).mono ?_
      rintro e w2 ⟨rfl, f2⟩
      rw [h2]
      go_wp2_with fail
      exact bodyPost_ret (v := .tuple #[.bool false, .int .i64 9]) (by simp [results, Tryz.results74, go_sem]) rfl ⟨rfl, f2⟩
    | true =>
      rw [h2, if_neg (by simp)] at hbad
      rw [if_neg (by simp)]
      by_cases h3 : from_ < 0 ∨ (str.size : Int) < from_
      · rw [if_pos h3]
        clear hbad
        rcases h3 with h3 | h3
        · have t2 : decide (from_ < 0) = true := by simp; omega
          clear h3
          go_enter Tryz.func74, Tryz.ntmps74
          go_wp2_with fail
          refine (progok_any p pb pc hp hlen).mono ?_
          rintro e w2 ⟨rfl, f2⟩
          rw [h2]
          go_wp2_with fail
          exact bodyPost_ret (v := .tuple #[.bool false, .int .i64 10]) (by simp [results, Tryz.results74, go_sem]) rfl ⟨rfl, f2⟩
        · have t2 : decide (from_ < 0) = false := by simp; omega
          have t3 : decide ((str.size : Int) < from_) = true := by simp; omega
          clear h3
          go_enter Tryz.func74, Tryz.ntmps74
          go_wp2_with fail
          refine (progok_any p pb pc hp hlen).mono ?_
          rintro e w2 ⟨rfl, f2⟩
          rw [h2]
          go_wp2_with fail
          exact bodyPost_ret (v := .tuple #[.bool false, .int .i64 10]) (by simp [results, Tryz.results74, go_sem]) rfl ⟨rfl, f2⟩
      · rw [if_neg h3] at hbad; exact absurd rfl hbad
end Go.Proofs.Qxb6500283aGreat
