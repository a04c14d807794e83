/- The meaning is kept. -/
import Derived.Test.Qxb6500283aGreatT3
namespace Go.Proofs.Qxb6500283aGreat

theorem setE_none {P : BSet} (h : setE P = true) {c : Nat} (hc : c < 256) : P c = false := by
  unfold setE at h
  simp only [Bool.and_eq_true, decide_eq_true_eq] at h
  have h0 : wd P (c / 64) = 0 := by
    obtain e | e | e | e : c / 64 = 0 ∨ c / 64 = 1 ∨ c / 64 = 2 ∨ c / 64 = 3 := by omega
    · rw [e]; exact h.1.1.1
    · rw [e]; exact h.1.1.2
    · rw [e]; exact h.1.2
    · rw [e]; exact h.2
  have h1 := wd_testBit P (c / 64) (c % 64) (by omega)
  rw [h0, show 64 * (c / 64) + c % 64 = c by omega] at h1
  simpa using h1.symm
section
variable {n : Nat} {f g : Wf}
theorem must_stop : ∀ m, EqF n (mustF stopF m stopF) stopF
  | 0 => EqF.refl _ _
  | m + 1 => (catF_congr Good.stop (EqF.refl _ _) (must_stop m)).trans (catF_stop_l Good.stop)
theorem join_self (i : Nat) (c : Cp) : joinL [(i, c)] [(i, c)] = [(i, c)] := by simp [joinL, ddS, ends]
theorem lzJ_self (lz : Bool) (i : Nat) (c : Cp) : lzJ lz [(i, c)] [(i, c)] = [(i, c)] := by
  unfold lzJ
  split <;> exact join_self i c
theorem lzJ_nil (lz : Bool) (i : Nat) (c : Cp) : lzJ lz [] [(i, c)] = [(i, c)] := by
  unfold lzJ
  split
  · exact join_nil _
  · exact nil_join (by simp [ends])
theorem opt_stop (lz : Bool) : ∀ k, EqF n (optF stopF lz k) stopF
  | 0 => EqF.refl _ _
  | k + 1 => fun i c hi => by
    show lzJ lz (catF stopF (optF stopF lz k) i c) [(i, c)] = _
    rw [catF_congr Good.stop (EqF.refl _ _) (opt_stop lz k) i c hi, catF_stop_l Good.stop i c hi]
    exact lzJ_self lz i c
theorem star_stop (lz : Bool) : EqF n (starF n stopF lz) stopF := fun i c hi => by
  rw [starF_eq Good.stop lz hi]
  simp only [stopF, List.filter_cons, Nat.lt_irrefl, decide_false, Bool.false_eq_true, if_false, List.filter_nil]
  exact lzJ_nil lz i c
theorem rest_stop (lz : Bool) (mn : Nat) (mx : Int) : EqF n (restF n stopF lz mn mx) stopF := by
  unfold restF
  split
  · exact star_stop lz
  · exact opt_stop lz _
theorem rest_congr (hf : Good n f) (e : EqF n f g) (lz : Bool) (mn : Nat) (mx : Int) : EqF n (restF n f lz mn mx) (restF n g lz mn mx) := by
  unfold restF
  split
  · exact starF_congr hf e lz
  · exact optF_congr hf e lz _
def noF : Wf := fun _ _ => []
theorem Good.no : Good n noF := ⟨fun i c _ w hw => (by cases hw), fun i c _ => (by simp [noF, ends]), fun _ _ _ _ => rfl⟩
theorem cat_no : EqF n (catF noF g) noF := fun _ _ _ => rfl
theorem no_cat : EqF n (catF f noF) noF := fun i c _ => by
  unfold catF
  rw [joinAll_eq]
  exact ddS_all _ _ (fun x hx => by
    obtain ⟨y, _, h⟩ := List.mem_flatMap.1 hx
    cases h)
theorem rest_no (lz : Bool) (mn : Nat) (mx : Int) : EqF n (restF n noF lz mn mx) stopF := by
  unfold restF
  split
  · intro i c hi
    rw [starF_eq Good.no lz hi]
    exact lzJ_nil lz i c
  · intro i c hi
    cases mx.toNat - mn with
    | zero => rfl
    | succ k => exact lzJ_nil lz i c
end
/-- The core form means the same. -/
structure Kept (s : ByteArray) (r : Rx) : Prop where
  k0 : sh r = 0 → EqF s.size (wy s r) stopF
  k1 : sh r = 1 → EqF s.size (wy s r) noF
  k2 : sh r = 2 → EqF s.size (wy s r) (wy s (co r))
theorem wy_noP (s : ByteArray) : EqF s.size (wy s (.set noP)) noF := fun i c hi => by simp [wy, noP, noF]
theorem Kept.ch {s : ByteArray} {r : Rx} (h : Kept s r) : EqF s.size (wy s r) (wy s (chR (sh r) (co r))) := by
  unfold chR
  by_cases h2 : sh r = 2
  · rw [if_pos h2]; exact h.k2 h2
  · rw [if_neg h2]
    by_cases h0 : sh r = 0
    · rw [if_pos h0]; exact h.k0 h0
    · rw [if_neg h0]
      have := sh_le r
      exact (h.k1 (by omega)).trans (wy_noP s).symm
theorem kept (s : ByteArray) : ∀ r, RxB r → Kept s r
  | .emp, _ => ⟨fun _ => EqF.refl _ _, fun h => (by cases h), fun h => (by cases h)⟩
  | .set P, _ => by
    refine ⟨fun h => ?_, fun h => ?_, fun _ => EqF.refl _ _⟩
    · simp only [sh] at h
      split at h <;> cases h
    · simp only [sh] at h
      by_cases he : setE P = true
      · intro i c hi
        simp [wy, noF, setE_none he (bt_lt s i)]
      · rw [if_neg he] at h; cases h
  | .bol, _ => ⟨fun h => (by cases h), fun h => (by cases h), fun _ => EqF.refl _ _⟩
  | .eol, _ => ⟨fun h => (by cases h), fun h => (by cases h), fun _ => EqF.refl _ _⟩
  | .cat a b, hb => by
    have ka := kept s a hb.1
    have kb := kept s b hb.2
    have ga := wy_good s a
    have gb := wy_good s b
    by_cases h1 : sh a = 1 ∨ sh b = 1
    · have hs : sh (.cat a b) = 1 := if_pos h1
      refine ⟨fun h => absurd (hs.symm.trans h) (by decide), fun _ => ?_, fun h => absurd (hs.symm.trans h) (by decide)⟩
      rcases h1 with h1 | h1
      · exact (catF_congr ga (ka.k1 h1) (EqF.refl _ _)).trans cat_no
      · exact (catF_congr ga (EqF.refl _ _) (kb.k1 h1)).trans no_cat
    · by_cases h0 : sh a = 0
      · have hs : sh (.cat a b) = sh b := by simp only [sh]; rw [if_neg h1, if_pos h0]
        have hc : co (.cat a b) = co b := by simp only [co]; rw [if_pos h0]
        have e : EqF s.size (wy s (.cat a b)) (wy s b) := (catF_congr ga (ka.k0 h0) (EqF.refl _ _)).trans (catF_stop_l gb)
        exact ⟨fun h => e.trans (kb.k0 (hs.symm.trans h)), fun h => e.trans (kb.k1 (hs.symm.trans h)), fun h => by rw [hc]; exact e.trans (kb.k2 (hs.symm.trans h))⟩
      · have hs : sh (.cat a b) = 2 := by simp only [sh]; rw [if_neg h1, if_neg h0]
        refine ⟨fun h => absurd (hs.symm.trans h) (by decide), fun h => absurd (hs.symm.trans h) (by decide), fun _ => ?_⟩
        have la := sh_le a
        have lb := sh_le b
        simp only [co]
        rw [if_neg h0]
        by_cases hb0 : sh b = 0
        · rw [if_pos hb0]
          exact ((catF_congr ga (EqF.refl _ _) (kb.k0 hb0)).trans (catF_stop_r ga)).trans (ka.k2 (by omega))
        · rw [if_neg hb0]
          exact catF_congr ga (ka.k2 (by omega)) (kb.k2 (by omega))
  | .alt a b, hb => by
    have ka := kept s a hb.1
    have kb := kept s b hb.2
    have ga := wy_good s a
    have gb := wy_good s b
    by_cases h1 : sh a = 1
    · have hs : sh (.alt a b) = sh b := by simp only [sh]; rw [if_pos h1]
      have hc : co (.alt a b) = co b := by simp only [co]; rw [if_pos h1]
      have e : EqF s.size (wy s (.alt a b)) (wy s b) := fun i c hi => by
        show joinL (wy s a i c) (wy s b i c) = _
        rw [ka.k1 h1 i c hi]
        exact nil_join (gb.nd i c hi)
      exact ⟨fun h => e.trans (kb.k0 (hs.symm.trans h)), fun h => e.trans (kb.k1 (hs.symm.trans h)), fun h => by rw [hc]; exact e.trans (kb.k2 (hs.symm.trans h))⟩
    · by_cases h2 : sh b = 1
      · have hs : sh (.alt a b) = sh a := by simp only [sh]; rw [if_neg h1, if_pos h2]
        have hc : co (.alt a b) = co a := by simp only [co]; rw [if_neg h1, if_pos h2]
        have e : EqF s.size (wy s (.alt a b)) (wy s a) := fun i c hi => by
          show joinL (wy s a i c) (wy s b i c) = _
          rw [kb.k1 h2 i c hi]
          exact join_nil _
        exact ⟨fun h => e.trans (ka.k0 (hs.symm.trans h)), fun h => e.trans (ka.k1 (hs.symm.trans h)), fun h => by rw [hc]; exact e.trans (ka.k2 (hs.symm.trans h))⟩
      · by_cases h3 : sh a = 0 ∧ sh b = 0
        · have hs : sh (.alt a b) = 0 := by simp only [sh]; rw [if_neg h1, if_neg h2, if_pos h3]
          refine ⟨fun _ => fun i c hi => ?_, fun h => absurd (hs.symm.trans h) (by decide), fun h => absurd (hs.symm.trans h) (by decide)⟩
          show joinL (wy s a i c) (wy s b i c) = _
          rw [ka.k0 h3.1 i c hi, kb.k0 h3.2 i c hi]
          exact join_self i c
        · have hs : sh (.alt a b) = 2 := by simp only [sh]; rw [if_neg h1, if_neg h2, if_neg h3]
          refine ⟨fun h => absurd (hs.symm.trans h) (by decide), fun h => absurd (hs.symm.trans h) (by decide), fun _ => fun i c hi => ?_⟩
          simp only [co]
          rw [if_neg h1, if_neg h2]
          show joinL (wy s a i c) (wy s b i c) = joinL (wy s (chR (sh a) (co a)) i c) (wy s (chR (sh b) (co b)) i c)
          rw [ka.ch i c hi, kb.ch i c hi]
  | .grp a k, hb => by
    have ka := kept s a hb
    by_cases h1 : sh a = 1
    · have hs : sh (.grp a k) = 1 := if_pos h1
      refine ⟨fun h => absurd (hs.symm.trans h) (by decide), fun _ => fun i c hi => ?_, fun h => absurd (hs.symm.trans h) (by decide)⟩
      show grpF (wy s a) k i c = []
      unfold grpF
      rw [ka.k1 h1 i c hi]
      rfl
    · have hs : sh (.grp a k) = 2 := if_neg h1
      refine ⟨fun h => absurd (hs.symm.trans h) (by decide), fun h => absurd (hs.symm.trans h) (by decide), fun _ => fun i c hi => ?_⟩
      show grpF (wy s a) k i c = grpF (wy s (chR (sh a) (co a))) k i c
      unfold grpF
      rw [ka.ch i c hi]
  | .rep a mn mx lz, hb => by
    have ka := kept s a hb.1
    have ga := wy_good s a
    by_cases h1 : sh a = 1 ∧ 0 < mn
    · have hs : sh (.rep a mn mx lz) = 1 := if_pos h1
      refine ⟨fun h => absurd (hs.symm.trans h) (by decide), fun _ => ?_, fun h => absurd (hs.symm.trans h) (by decide)⟩
      obtain ⟨m, rfl⟩ : ∃ m, mn = m + 1 := ⟨mn - 1, by omega⟩
      exact (catF_congr ga (ka.k1 h1.1) (EqF.refl _ _)).trans cat_no
    · by_cases h2 : sh a ≠ 2 ∨ mx = 0
      · have hs : sh (.rep a mn mx lz) = 0 := by simp only [sh]; rw [if_neg h1, if_pos h2]
        refine ⟨fun _ => ?_, fun h => absurd (hs.symm.trans h) (by decide), fun h => absurd (hs.symm.trans h) (by decide)⟩
        show EqF s.size (mustF (wy s a) mn (restF s.size (wy s a) lz mn mx)) stopF
        have la := sh_le a
        by_cases h3 : mx = 0
        · subst h3
          have hm : mn = 0 := by have := hb.2 (by omega); omega
          subst hm
          exact EqF.refl _ _
        · by_cases h4 : sh a = 0
          · exact (mustF_congr ga (ka.k0 h4) ((rest_congr ga (ka.k0 h4) lz mn mx).trans (rest_stop lz mn mx)) mn).trans (must_stop mn)
          · have h5 : sh a = 1 := by omega
            have hm : mn = 0 := by omega
            subst hm
            exact (rest_congr ga (ka.k1 h5) lz 0 mx).trans (rest_no lz 0 mx)
      · have hs : sh (.rep a mn mx lz) = 2 := by simp only [sh]; rw [if_neg h1, if_neg h2]
        refine ⟨fun h => absurd (hs.symm.trans h) (by decide), fun h => absurd (hs.symm.trans h) (by decide), fun _ => ?_⟩
        have h3 : sh a = 2 := by omega
        have e := ka.k2 h3
        refine EqF.trans ?_ (unroll_wy (x := co a) lz (by omega) hb.2)
        exact mustF_congr ga e (rest_congr ga e lz mn mx) mn
end Go.Proofs.Qxb6500283aGreat
