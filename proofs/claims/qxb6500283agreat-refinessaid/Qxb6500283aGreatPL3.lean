/- The search over the code of a core tree goes the tree's own ways. -/
import Derived.Test.Qxb6500283aGreatPL2
namespace Go.Proofs.Qxb6500283aGreat

section
variable {p : List In} {s : ByteArray}
theorem unsave {pc m : Nat} {j : In} (h : p[pc]? = some j) (ho : j.op = 3) (hx : j.x = (m : Nat)) (S : List Sst) : ∀ (L : List Wy) r, ExR p s (stL (pc + 1) (L.map (fun w => (w.1, setC w.2 m w.1))) ++ S) r → ExR p s (stL pc L ++ S) r
  | [], _, h => h
  | w :: L, r, hh => by
    have h' : ExR p s ([(pc + 1, w.1, setC w.2 m w.1)] ++ (stL (pc + 1) (L.map (fun w => (w.1, setC w.2 m w.1))) ++ S)) r := hh
    have h2 := h'.under (fun r' h'' => unsave h ho hx S L r' h'')
    refine ExR.go (isM_of h (by omega)) ?_
    have e : succ p s pc w.1 w.2 = [(pc + 1, w.1, setC w.2 m w.1)] := by
      unfold succ
      rw [h]
      simp [ho, hx, setC_upd]
    rw [e]
    exact h2
theorem succ_split {pc a b : Nat} {x : In} (h : p[pc]? = some x) (ho : x.op = 1) (ha : x.x = (a : Nat)) (hb : x.y = (b : Nat)) (i : Nat) (c : Nat → Int) : succ p s pc i c = [(a, i, c), (b, i, c)] := by
  unfold succ
  rw [h]
  simp [ho, ha, hb]
theorem block {pc pc' : Nat} {t : Rx} (h : CdAt p pc t pc') : RxC t → ∀ i c S r, i ≤ s.size → ExR p s (stL pc' (wy s t i c) ++ S) r → ExR p s ((pc, i, c) :: S) r := by
  induction h with
  | emp => intro _ i c S r _ h; exact h
  | @set pc x P hx ho hP =>
    intro _ i c S r hi h
    refine ExR.go (isM_of hx (by omega)) ?_
    have e : succ p s pc i c = stL (pc + 1) (wy s (.set P) i c) := by
      unfold succ
      rw [hx]
      simp only [ho, if_true, wy]
      rw [hP _ (bt_lt s i)]
      by_cases hc : i < s.size ∧ P (bt s i) = true
      · rw [if_pos hc, if_pos hc]; rfl
      · rw [if_neg hc, if_neg hc]; rfl
    rw [e]
    exact h
  | @bol pc x hx ho =>
    intro _ i c S r hi h
    refine ExR.go (isM_of hx (by omega)) ?_
    have e : succ p s pc i c = stL (pc + 1) (wy s .bol i c) := by
      unfold succ
      rw [hx]
      simp only [ho, wy]
      by_cases hc : i = 0
      · simp [hc, stL]
      · simp [hc, stL]
    rw [e]
    exact h
  | @eol pc x hx ho =>
    intro _ i c S r hi h
    refine ExR.go (isM_of hx (by omega)) ?_
    have e : succ p s pc i c = stL (pc + 1) (wy s .eol i c) := by
      unfold succ
      rw [hx]
      simp only [ho, wy]
      by_cases hc : i = s.size
      · simp [hc, stL]
      · simp [hc, stL]
    rw [e]
    exact h
  | @cat pc pm pc' a b _ _ ih1 ih2 =>
    rintro ⟨h1, h2⟩ i c S r hi h
    have ga := wy_good s a
    refine ih1 h1 i c S r hi (unflat (pc' := pc') (g := fun w => wy s b w.1 w.2) S _ r (fun w hw S' r' h' => ih2 h2 w.1 w.2 S' r' (ga.lo i c hi w hw).2 h') ?_)
    refine undd pc' S _ [] r (fun e he => by cases he) ?_
    rw [← joinAll_eq]
    exact h
  | @alt pc pj pc' x j a b hx ho hxx hxy _ hj hjo hjx _ ih1 ih2 =>
    rintro ⟨h1, h2⟩ i c S r hi h
    have hA := unjoin pc' S (wy s a i c) (wy s b i c) h
    have hB := hA.under (fun r' h' => ih2 h2 i c S r' hi h')
    have hC := unjmp hj hjo hjx _ _ r hB
    have hD := ih1 h1 i c _ r hi hC
    refine ExR.go (isM_of hx (by omega)) ?_
    rw [succ_split hx ho hxx hxy]
    exact hD
  | @star pc pj x j a lz hx ho hxx hxy _ hj hjo hjx ih1 =>
    rintro ⟨h1, hn⟩
    have ga := wy_good s a
    have hst : wy s (.rep a 0 (-1) lz) = starF s.size (wy s a) lz := star_wy lz
    have key : ∀ d i c S r, s.size - i ≤ d → i ≤ s.size → ExR p s (stL (pj + 1) (starF s.size (wy s a) lz i c) ++ S) r → ExR p s ((pc, i, c) :: S) r := by
      intro d
      induction d using Nat.strongRecOn with
      | ind d ih =>
        intro i c S r hd hi h
        have hflt : (wy s a i c).filter (fun w => decide (i < w.1)) = wy s a i c := List.filter_eq_self.2 (fun w hw => decide_eq_true (wy_byte s a hn i c hi w hw))
        rw [starF_eq ga lz hi, hflt] at h
        -- the body, then the jump back
        have body : ∀ S' r', ExR p s (stL (pj + 1) (joinAll (wy s a i c) (fun w => starF s.size (wy s a) lz w.1 w.2)) ++ S') r' → ExR p s ((pc + 1, i, c) :: S') r' := fun S' r' h' => by
          rw [joinAll_eq] at h'
          have h2 := undd (pj + 1) S' _ [] r' (fun e he => by cases he) h'
          refine ih1 h1 i c S' r' hi (unflat (pc' := pj + 1) (g := fun w => starF s.size (wy s a) lz w.1 w.2) S' _ r' (fun w hw S2 r2 h3 => ?_) h2)
          have hw1 := wy_byte s a hn i c hi w hw
          have hw2 := (ga.lo i c hi w hw).2
          have h4 := ih (s.size - w.1) (by omega) w.1 w.2 S2 r2 (Nat.le_refl _) hw2 h3
          refine ExR.go (isM_of hj (by omega)) ?_
          have e : succ p s pj w.1 w.2 = [(pc, w.1, w.2)] := by
            unfold succ
            rw [hj]
            simp [hjo, hjx]
          rw [e]
          exact h4
        refine ExR.go (isM_of hx (by omega)) ?_
        rw [succ_split hx ho hxx hxy]
        cases lz with
        | true =>
          have h2 := unjoin (pj + 1) S [(i, c)] _ h
          exact h2.under (fun r' h' => body S r' h')
        | false =>
          have h2 := unjoin (pj + 1) S _ [(i, c)] h
          exact body _ r h2
    intro i c S r hi h
    rw [hst] at h
    exact key _ i c S r (Nat.le_refl _) hi h
  | @grp pc pj k x j a hx ho hxx _ hj hjo hjx ih1 =>
    rintro ⟨h1, hn⟩ i c S r hi h
    refine ExR.go (isM_of hx (by omega)) ?_
    have e : succ p s pc i c = [(pc + 1, i, setC c (2 * k) i)] := by
      have hk : x.x.toNat = 2 * k := by omega
      unfold succ
      rw [hx]
      simp [ho, hk, setC_upd]
    rw [e]
    refine ih1 h1 i (setC c (2 * k) i) S r hi ?_
    rw [wy_set s (2 * k) a hn i c i hi]
    refine unsave hj hjo hjx S _ r ?_
    rw [List.map_map]
    exact h
/-- The search over a whole program. -/
theorem run_code {e : Nat} {t : Rx} {x : In} (hC : CdAt p 0 t e) (hR : RxC t) (hx : p[e]? = some x) (ho : x.op = 6) (i : Nat) (c : Nat → Int) (hi : i ≤ s.size) :
    ExR p s [(0, i, c)] (match wy s t i c with | [] => none | w :: _ => some (w.2, w.1)) := by
  refine block hC hR i c [] _ hi ?_
  rw [List.append_nil]
  cases wy s t i c with
  | nil => exact ExR.nil
  | cons w l =>
    have hm : isM p e = true := by
      unfold isM
      rw [hx]
      simp [ho]
    exact ⟨1, .hit hm⟩
end
end Go.Proofs.Qxb6500283aGreat
