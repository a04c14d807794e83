import Derived.Test.Qxb6500283aGreatDfD9
namespace Go.Proofs.Qxb6500283aGreat
open Go Go.RowKit

theorem bt_at' (s : ByteArray) (i : Nat) (h : i < s.size) : bt s i = s[i].toNat := by simp [bt, h]
theorem bt_lt' (s : ByteArray) (i : Nat) : bt s i < 256 := by
  unfold bt
  split
  · exact UInt8.toNat_lt _
  · omega
theorem and_ne {a b : Nat} : a &&& b ≠ 0 ↔ ∃ q, a.testBit q = true ∧ b.testBit q = true := by
  constructor
  · intro h
    by_cases hq : ∃ q, (a &&& b).testBit q = true
    · obtain ⟨q, hq⟩ := hq
      rw [Nat.testBit_and, Bool.and_eq_true] at hq
      exact ⟨q, hq⟩
    · exfalso
      apply h
      apply Nat.eq_of_testBit_eq
      intro q
      rw [Nat.zero_testBit]
      cases hb : (a &&& b).testBit q with
      | false => rfl
      | true => exact absurd ⟨q, hb⟩ hq
  · rintro ⟨q, h1, h2⟩ e
    have : (a &&& b).testBit q = true := by rw [Nat.testBit_and, h1, h2]; rfl
    rw [e, Nat.zero_testBit] at this
    cases this
def MoveP (p : List In) (R : Nat → Prop) (c q : Nat) : Prop := q = 0 ∨ ∃ pc, q = pc + 1 ∧ R pc ∧ ∃ x, p[pc]? = some x ∧ x.op = 0 ∧ hasB x.s0 x.s1 x.s2 x.s3 c = true
theorem moveP_iff {p : List In} {S c : Nat} {R : Nat → Prop} (h : ∀ q, S.testBit q = true ↔ R q) (q : Nat) : MoveTo p S c p.length q ↔ MoveP p R c q := by
  unfold MoveTo MoveP
  constructor
  · rintro (e | ⟨pc, h1, h2, h3, h4⟩)
    · exact .inl e
    · exact .inr ⟨pc, h2, (h pc).1 h3, h4⟩
  · rintro (e | ⟨pc, h2, h3, x, hx, h4⟩)
    · exact .inl e
    · exact .inr ⟨pc, (List.getElem?_eq_some_iff.1 hx).1, h2, (h pc).2 h3, x, hx, h4⟩
/-- The places of the program that stand open k bytes behind the start; every place from the start on may begin a match. -/
def RD (p : List In) (str : ByteArray) (from_ : Nat) : Nat → Nat → Prop
  | 0 => Clo p (decide (from_ = 0)) false fun q => q < p.length ∧ q = 0
  | k + 1 => Clo p false false fun q => q < p.length ∧ MoveP p (RD p str from_ k) (bt str (from_ + k)) q
theorem IsStep.rd {p : List In} {str : ByteArray} {from_ k S T : Nat} (hS : ∀ q, S.testBit q = true ↔ RD p str from_ k q) (h : IsStep p S (bt str (from_ + k)) T) (q : Nat) : T.testBit q = true ↔ RD p str from_ (k + 1) q := by
  rw [h.2.1 q]
  have e : (fun q => q < p.length ∧ MoveTo p S (bt str (from_ + k)) p.length q) = fun q => q < p.length ∧ MoveP p (RD p str from_ k) (bt str (from_ + k)) q := by funext q; rw [moveP_iff hS q]
  rw [e]; rfl
def HitK (p : List In) (str : ByteArray) (from_ k : Nat) : Prop := ∃ q, RD p str from_ k q ∧ opAt p q 6
def HitE (p : List In) (str : ByteArray) (from_ : Nat) : Prop := ∃ q, Clo p (decide (str.size = 0)) true (fun q => q < p.length ∧ RD p str from_ (str.size - from_) q) q ∧ opAt p q 6
def AnsP (p : List In) (str : ByteArray) (from_ : Nat) : Prop := (∃ k, k ≤ str.size - from_ ∧ HitK p str from_ k) ∨ HitE p str from_
theorem hit_iff {p : List In} {str : ByteArray} {from_ k S H : Nat} (hS : ∀ q, S.testBit q = true ↔ RD p str from_ k q) (hH : IsMask p H 6) : S &&& H ≠ 0 ↔ HitK p str from_ k := by
  rw [and_ne]
  constructor
  · rintro ⟨q, h1, h2⟩; exact ⟨q, (hS q).1 h1, (hH.2 q).1 h2⟩
  · rintro ⟨q, h1, h2⟩; exact ⟨q, (hS q).2 h1, (hH.2 q).2 h2⟩

theorem last_iff {p : List In} {str : ByteArray} {from_ S T H : Nat} (hS : ∀ q, S.testBit q = true ↔ RD p str from_ (str.size - from_) q) (hT : ∀ q, T.testBit q = true ↔ Clo p ((str.size : Int) == 0) true (fun q => q < p.length ∧ S.testBit q = true) q) (hH : IsMask p H 6) :
    T &&& H ≠ 0 ↔ HitE p str from_ := by
  have eb : ((str.size : Int) == 0) = decide (str.size = 0) := by
    by_cases h : str.size = 0
    · simp [h]
    · rw [decide_eq_false h]; exact beq_eq_false_iff_ne.2 (by omega)
  have e : (fun q => q < p.length ∧ S.testBit q = true) = fun q => q < p.length ∧ RD p str from_ (str.size - from_) q := by funext q; rw [hS q]
  rw [eb, e] at hT
  rw [and_ne]
  constructor
  · rintro ⟨q, h1, h2⟩; exact ⟨q, (hT q).1 h1, (hH.2 q).1 h2⟩
  · rintro ⟨q, h1, h2⟩; exact ⟨q, (hT q).2 h1, (hH.2 q).2 h2⟩
structure RunPD (p : List In) (s s' : DS) (n : Nat) : Prop where
  inv : CInvD p s'
  us : 1 ≤ s'.used
  w0 : s.worked ≤ s'.worked
  w1 : s'.worked ≤ s.worked + n
  b0 : s.built ≤ s'.built
  b1 : s'.built + s.worked ≤ s.built + s'.worked
  b2 : s'.built ≤ s.built + n
  f0 : s.flushes ≤ s'.flushes
  f1 : s'.flushes ≤ s.flushes + n
  led : s'.built + s.used + 6 * s.flushes = s.built + s'.used + 6 * s'.flushes
theorem RunPD.step {p : List In} {s s1 s' : DS} {n cell b to : Nat} (h : RunPD p s s1 n) (hs : StepPD p s1 cell b s' to) : RunPD p s s' (n + 1) := by
  obtain ⟨_, _, a1, a2, a3, a4, a5, a6, a7, a8⟩ := h
  obtain ⟨c0, c1, _, c2, c3, c4, c5, c6, c7, c8⟩ := hs
  exact ⟨c0, by omega, by omega, by omega, by omega, by omega, by omega, by omega, by omega, by omega⟩
theorem RunPD.sized {p : List In} {s s' : DS} {n : Nat} (h : RunPD p s s' n) (hn : n ≤ 300) (h1 : s.built < 999999999999990000) (h2 : s.flushes < 999999999999990000) (h3 : s.worked < 999999999999990000) : Sized s' := by
  refine ⟨h.inv.used, fun c hc => ?_, by have := h.b2; omega, by have := h.f1; omega, by have := h.w1; omega⟩
  by_cases hu : c < s'.used
  · exact (h.inv.good c hu).lt
  · rw [h.inv.kz c (by omega) hc]; omega
/-- If no IEnd stands open the last closure adds nothing. -/
theorem no_end {p : List In} {str : ByteArray} {from_ : Nat} (hfrom : from_ ≤ str.size) (hn : ∀ q, RD p str from_ (str.size - from_) q → ¬ opAt p q 5) (h : HitE p str from_) : HitK p str from_ (str.size - from_) := by
  obtain ⟨q, h1, h2⟩ := h
  refine ⟨q, h1 (fun q => RD p str from_ (str.size - from_) q) (fun q h => h.2) (fun q r hq hs => ?_), h2⟩
  obtain ⟨x, hx, h⟩ := hs
  have ncl : ∀ b, (str.size - from_ = 0 → b = decide (from_ = 0)) → (str.size - from_ ≠ 0 → b = false) → eps p b false q r → RD p str from_ (str.size - from_) r := by
    intro b hb1 hb2 he
    cases hk : str.size - from_ with
    | zero =>
      rw [hk] at hq
      rw [hb1 hk] at he
      exact Clo.step hq he
    | succ k =>
      rw [hk] at hq
      rw [hb2 (by omega)] at he
      exact Clo.step hq he
  refine ncl (decide (str.size = 0)) (fun e => by have : from_ = str.size := by omega
                                                  rw [this]) (fun e => decide_eq_false (by omega)) ⟨x, hx, ?_⟩
  rcases h with h | h | h | h | h
  · exact .inl h
  · exact .inr (.inl h)
  · exact .inr (.inr (.inl h))
  · exact .inr (.inr (.inr (.inl h)))
  · exact absurd ⟨x, hx, h.1⟩ (hn q hq)

set_option maxRecDepth 100000 in
set_option maxHeartbeats 8000000 in
theorem run_any {w : World} {x : Nat} {kv : Value} {s : DS} {kb cap : Nat} {p : List In} (h : Mach w x kv s) (hk : KeptD w x kv kb cap p) (hi : CInvD p s) (str : ByteArray) (hsz : str.size ≤ 256) (from_ : Nat) (hfrom : from_ ≤ str.size) (cell : Nat) (hcell : cell < s.used)
    (hkey : ∀ q, (s.keys cell).testBit q = true ↔ RD p str from_ 0 q) (h1 : s.built < 999999999999990000) (h2 : s.flushes < 999999999999990000) (h3 : s.worked < 999999999999990000) :
    Calls Tryz.prog 98 #[.pointer (some ⟨x, 0, none⟩), .int .i64 cell, .string str, .int .i64 from_] w fun e w' => ∃ (ans : Bool) (s1 s' : DS), e = .returned (.bool ans) ∧ (ans = true ↔ AnsP p str from_) ∧ RunPD p s s1 (str.size - from_) ∧ (s' = s1 ∨ ∃ stk', s' = { s1 with stk := stk', worked := s1.worked + 1 }) ∧ Mach w' x kv s' ∧ Fr (mOwn x) w w' := by
  go_enter Tryz.func98, Tryz.ntmps98
  go_wp2_with fail
  go_loopg [1, 9] (str.size - from_) (fun g cv iv wr => ∃ (k c : Nat) (s1 : DS), cv = .int .i64 c ∧ iv = .int .i64 (from_ + k : Nat) ∧ k + g = str.size - from_ ∧ RunPD p s s1 k ∧ c < s1.used ∧ (∀ q, (s1.keys c).testBit q = true ↔ RD p str from_ k q) ∧ (∀ j, j < k → ¬ HitK p str from_ j) ∧ Mach wr x kv s1 ∧ Fr (mOwn x) w wr)
  case atStart => exact ⟨0, cell, s, rfl, by simp, by omega, ⟨hi, by omega, Nat.le_refl _, by omega, Nat.le_refl _, by omega, by omega, Nat.le_refl _, by omega, rfl⟩, hcell, hkey, fun j hj => by omega, h, Fr.refl _ _⟩
  case round =>
    obtain ⟨k, c, s1, rfl, rfl, hg, hr, hc, hq, hno, hM, hfr⟩ := hrel
    have hg' : k + gk = str.size - from_ := hg
    have hu := hr.inv.used
    have hc6 : c < 6 := by omega
    have ck := hM.key c hc6
    have d3 : wr.cell? ⟨x, 3, none⟩ = some (.int .u64 s1.hits) := hM.main.cell (by omega)
    have d2 : wr.cell? ⟨x, 2, none⟩ = some (.int .u64 s1.ends) := hM.main.cell (by omega)
    have hsd := hr.sized (by omega) h1 h2 h3
    have a1 := bits_and_u64_nat (s1.keys c) s1.hits (hsd.keys c hc6) hr.inv.mH.1
    have hit := hit_iff hq hr.inv.mH
    have hk1 := hk.frame hfr hk.far
    obtain ⟨HH, hHH⟩ : ∃ HH, HH = s1.keys c &&& s1.hits := ⟨_, rfl⟩
    rw [← hHH] at a1 hit
    have Hno : Hid _ := hno
    have Hhit : Hid _ := hit
    have Hq : Hid _ := hq
    clear hg hno hit hq hHH
    by_cases hlt : from_ + k < str.size
    · have tlt : (from_ : Int) + k < str.size := by omega
      by_cases hh : HH = 0
      · rw [hh] at a1
        have hbt := bt_at' str (from_ + k) hlt
        have Hbt : Hid _ := hbt
        have Hh : Hid (¬ HitK p str from_ k) := fun e => (Hhit.out.2 e) hh
        have t0 : (0 : Int) ≤ (from_ : Int) + k := by omega
        clear hh hbt
        go_wp2_with fail
        refine wp_region_text (by kernel_rfl) (by kernel_rfl) ?_
        go_wp2_with fail
        refine ⟨by kernel_rfl, ?_⟩
        go_wp2_with fail
        rw [← Hbt.out]
        refine (stepD_any hM.drew (hk1.frame ((Fr.refl (fun _ => False) wr).drew) (fun h => h)) hr.inv.mC hsd c _ hc6 (bt_lt' _ _)).mono ?_
        rintro e w3 ⟨to, s2, rfl, hst, hM3, f3⟩
        have sp := hst.p hk.ok hr.inv hc (bt_lt' _ _)
        go_wp2_with fail
        go_roundg (gk - 1)
        case measure => omega
        case rel =>
          refine ⟨k + 1, to, s2, rfl, by simp; omega, by omega, hr.step sp, sp.lt, sp.key.rd Hq.out, fun j hj => ?_, hM3, (hfr.drew).trans f3 (fun _ _ h => h)⟩
          rcases Nat.lt_or_ge j k with h4 | h4
          · exact Hno.out j h4
          · rw [show j = k by omega]; exact Hh.out
      · have t1 : ((HH : Int) != 0) = true := by simp; omega
        have t2 : (HH : Int) ≠ 0 := by omega
        have Hh : Hid _ := Hhit.out.1 hh
        clear hh
        go_wp2_with fail
        refine wp_region_text (by kernel_rfl) (by kernel_rfl) ?_
        go_wp2_with fail
        refine ⟨by kernel_rfl, ?_⟩
        go_wp2_with fail
        go_ret
        refine ⟨true, s1, s1, rfl, ⟨fun _ => .inl ⟨k, by omega, Hh.out⟩, fun _ => rfl⟩, ?_, .inl rfl, hM.drew, hfr.drew⟩
        obtain ⟨r1, r2, r3, r4, r5, r6, r7, r8, r9, r10⟩ := hr
        exact ⟨r1, r2, r3, by omega, r5, r6, by omega, r8, by omega, r10⟩
    · have hke : k = str.size - from_ := by omega
      by_cases hh : HH = 0
      · rw [hh] at a1
        have Hh : Hid (¬ HitK p str from_ k) := fun e => (Hhit.out.2 e) hh
        have HnoK : Hid (∀ j, j ≤ str.size - from_ → ¬ HitK p str from_ j) := fun j hj => by
          rcases Nat.lt_or_ge j k with h4 | h4
          · exact Hno.out j h4
          · rw [show j = k by omega]; exact Hh.out
        have a2 := bits_and_u64_nat (s1.keys c) s1.ends (hsd.keys c hc6) hr.inv.mE.1
        obtain ⟨EE, hEE⟩ : ∃ EE, EE = s1.keys c &&& s1.ends := ⟨_, rfl⟩
        have hne : EE = 0 → ∀ q, RD p str from_ (str.size - from_) q → ¬ opAt p q 5 := fun e q h4 h5 => by
          rw [← hke] at h4
          exact (and_ne.2 ⟨q, (Hq.out q).2 h4, (hr.inv.mE.2 q).2 h5⟩ : s1.keys c &&& s1.ends ≠ 0) (by rw [← hEE, e])
        have Hne : Hid _ := hne
        rw [← hEE] at a2
        have Hr : Hid (RunPD p s s1 (str.size - from_)) := by rw [← hke]; exact hr
        clear hh hEE hne
        by_cases he : EE = 0
        · rw [he] at a2
          have He : Hid _ := he
          clear he
          go_wp2_with fail
          refine wp_region_text (by kernel_rfl) (by kernel_rfl) ?_
          go_wp2_with fail
          refine ⟨by kernel_rfl, ?_⟩
          go_wp2_with fail
          refine wp_region_text (by kernel_rfl) (by kernel_rfl) ?_
          go_wp2_with fail
          refine ⟨by kernel_rfl, ?_⟩
          go_wp2_with fail
          go_ret
          refine ⟨false, s1, s1, rfl, ⟨(fun e => by cases e), fun e => ?_⟩, Hr.out, .inl rfl, hM.drew.drew, hfr.drew.drew⟩
          exfalso
          rcases e with ⟨j, hj, e⟩ | e
          · exact HnoK.out j hj e
          · exact HnoK.out _ (Nat.le_refl _) (no_end hfrom (Hne.out He.out) e)
        · have t1 : ((EE : Int) == 0) = false := by simp; omega
          have hM2 := hM.drew.drew
          have f0 : Fr (fun _ => False) wr wr.drew.drew := ((Fr.refl (fun _ => False) wr).drew).drew
          have hk3 := hk1.frame f0 (fun h => h)
          clear he
          go_wp2_with fail
          refine wp_region_text (by kernel_rfl) (by kernel_rfl) ?_
          go_wp2_with fail
          refine ⟨by kernel_rfl, ?_⟩
          go_wp2_with fail
          refine wp_region_text (by kernel_rfl) (by kernel_rfl) ?_
          go_wp2_with fail
          refine ⟨by kernel_rfl, ?_⟩
          go_wp2_with fail
          refine (closure_any hM2 hk3 (s1.keys c) (hsd.keys c hc6) (by have := hsd.wk; omega) _ true).mono ?_
          rintro e w3 ⟨T, stk', rfl, hTl, hTq, hTi, h4, f4⟩
          have e3 : w3.cell? ⟨x, 3, none⟩ = some (.int .u64 s1.hits) := h4.main.cell (by omega)
          have a3 := bits_and_u64_nat T s1.hits hTl hr.inv.mH.1
          have hlast := last_iff (str := str) (from_ := from_) (by rw [← hke]; exact Hq.out) hTq hr.inv.mH
          obtain ⟨GG, hGG⟩ : ∃ GG, GG = T &&& s1.hits := ⟨_, rfl⟩
          rw [← hGG] at a3 hlast
          have Hlast : Hid _ := hlast
          have fr4 := (hfr.drew.drew).trans f4 (fun _ _ h => h)
          clear hGG hlast
          by_cases hg0 : GG = 0
          · rw [hg0] at a3
            have Hg : Hid _ := hg0
            clear hg0
            go_wp2_with fail
            go_ret
            refine ⟨false, s1, _, rfl, ⟨(fun e => by cases e), fun e => ?_⟩, Hr.out, .inr ⟨stk', rfl⟩, h4, fr4⟩
            exfalso
            rcases e with ⟨j, hj, e⟩ | e
            · exact HnoK.out j hj e
            · exact Hlast.out.2 e Hg.out
          · have t3 : ((GG : Int) != 0) = true := by simp; omega
            have t4 : (GG : Int) ≠ 0 := by omega
            have Hg : Hid _ := hg0
            clear hg0
            go_wp2_with fail
            go_ret
            exact ⟨true, s1, _, rfl, ⟨fun _ => .inr (Hlast.out.1 Hg.out), fun _ => rfl⟩, Hr.out, .inr ⟨stk', rfl⟩, h4, fr4⟩
      · have t1 : ((HH : Int) != 0) = true := by simp; omega
        have t2 : (HH : Int) ≠ 0 := by omega
        have Hh : Hid _ := Hhit.out.1 hh
        clear hh
        go_wp2_with fail
        refine wp_region_text (by kernel_rfl) (by kernel_rfl) ?_
        go_wp2_with fail
        refine ⟨by kernel_rfl, ?_⟩
        go_wp2_with fail
        go_ret
        refine ⟨true, s1, s1, rfl, ⟨fun _ => .inl ⟨k, by omega, Hh.out⟩, fun _ => rfl⟩, by rw [← hke]; exact hr, .inl rfl, hM.drew, hfr.drew⟩
end Go.Proofs.Qxb6500283aGreat
