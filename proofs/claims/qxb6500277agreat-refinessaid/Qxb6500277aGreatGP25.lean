/- A checked program is one to be compiled. -/
import Derived.Test.Qxb6500277aGreatGP24
namespace Go.Proofs.Qxb6500277aGreat
open Go Go.RowKit

theorem ckH_eight : ∀ (gs : List Fnc) (b : Nat) (X0 X : Cx), ckH b gs X0 = .ok X → (∀ j, (fAt X0.fs j).pi ≤ 4 ∧ (fAt X0.fs j).pr ≤ 4) → ∀ j, (fAt X.fs j).pi ≤ 4 ∧ (fAt X.fs j).pr ≤ 4
  | [], b, X0, X, h, hx => by
    simp only [ckH] at h
    injection h with h
    subst h
    exact hx
  | f :: r, b, X0, X, h, hx => by
    simp only [ckH] at h
    split at h
    · cases h
    · split at h
      · cases h
      · split at h
        · cases h
        · rename_i hq
          refine ckH_eight r _ _ _ h fun j => ?_
          have hl : f.ps.length ≤ 4 := by have := List.getElem?_eq_none_iff.1 hq; omega
          have h1 : cI (f.ps.map (·.t)) ≤ 4 := Nat.le_trans List.countP_le_length (by simpa using hl)
          have h2 : cR (f.ps.map (·.t)) ≤ 4 := Nat.le_trans List.countP_le_length (by simpa using hl)
          rcases Nat.lt_trichotomy j X0.fs.length with e | e | e
          · simp only []
            rw [fAt_app e]
            exact hx j
          · subst e
            simp only []
            rw [fAt_last]
            exact ⟨h1, h2⟩
          · simp only []
            have : fAt (X0.fs ++ [⟨rtF b f, f.t, cI (f.ps.map (·.t)), cR (f.ps.map (·.t)), f.s⟩]) j = ⟨0, 0, 0, 0, ⟨#[]⟩⟩ := by
              unfold fAt
              rw [List.getD_eq_getElem?_getD, List.getElem?_eq_none (by simp; omega)]
              rfl
            rw [this]
            exact ⟨Nat.zero_le _, Nat.zero_le _⟩
theorem ckFs_lim {X : Cx} : ∀ (gs : List Fnc) (cur b : Nat) (s : Ck) (x : Unit) (s' : Ck), ckFs X cur b gs s = .ok x s' → (∀ f ∈ gs, OkF f) → s'.lim.length = s.lim.length
  | [], cur, b, s, x, s', h, _ => by
    simp only [ckFs] at h
    injection h with _ h
    subst h
    rfl
  | f :: r, cur, b, s, x, s', h, ho => by
    simp only [ckFs] at h
    obtain ⟨_, s1, h1, h2⟩ := Rc.bind_eq h
    rw [ckFs_lim r _ _ _ _ _ h2 (fun g hg => ho g (by simp [hg])), ckF_lim h1 (ho f (by simp))]
/-- What a checked program gives. -/
structure Chk (gs : List Fnc) (X : Cx) (s : Ck) (m : Nat) : Prop where
  ok : ∀ I, ProgOk (mkP X s gs I) (codeP (mkP X s gs I) m) (enP (mkP X s gs I) m) m
  cm : ∀ I hd g, Cmp ⟨mkP X s gs I, hd, flFs 0 gs, X.fs.zip s.lim, g, 0, 0⟩ m
  tl : s.ty.length = (flFs 0 gs).length
  rl : s.rf.length = (flFs 0 gs).length
theorem cmp_ok {gs : List Fnc} {len : Int} {X : Cx} {s : Ck} {m : Nat} (h : ckAll gs len = .ok X s m) (ho : ∀ f ∈ gs, OkF f) (hn : ∀ f ∈ gs, NmSs f.ss) (hz : szFs gs ≤ 200) : Chk gs X s m := by
  obtain ⟨h1, ⟨x, h2⟩, h3, h4, h5⟩ := ckAll_ok h
  have hct := hds_ct gs 0 ⟨[], []⟩ X h1 rfl (fun j hj => by simp at hj)
  have h8 := ckH_eight gs 0 ⟨[], []⟩ X h1 (fun j => by simp [fAt])
  have hP := fun I => prog_ok h ho hn hz hct I
  have hH : HdsAt X 0 0 gs := (ckH_ok gs 0 ⟨[], []⟩ X h1 rfl).1
  have hlen : gs.length = X.fs.length := by have := HdsAt.pre gs 0 0 hH; omega
  have hll : s.lim.length = gs.length := by rw [ckFs_lim gs 0 0 _ _ _ h2 ho]; simp
  have hl12 : L12 s := l12Fs gs 0 0 _ _ _ h2 (fun j => by
    unfold lAt
    rw [List.getD_eq_getElem?_getD, List.getElem?_replicate]
    split <;> simp)
  have hK := ckFs_keep gs 0 0 _ x s h2 ho hn (by simp) (fun _ _ => trivial)
  have hfl : ∀ I, (mkP X s gs I).fns.length = gs.length := fun I => mkF_len X s.lim gs 0 0
  have hg8 : gs.length ≤ szFs gs := by
    clear h h1 h2 hct h8 hP hH hlen hll hl12 hK hfl ho hn hz h3 h4 h5
    induction gs with
    | nil => simp
    | cons f r ih =>
      simp only [szFs, List.length_cons]
      have := szF_pos f
      omega
  refine ⟨hP, fun I hd g => ⟨by rw [show (Ge.P0 _) = mkP X s gs I from rfl, hfl]; omega, ?_, (hP I).mn, fun i hi => ?_, (hP I).len⟩, ?_, ?_⟩
  · show (X.fs.zip s.lim).length = (mkP X s gs I).fns.length
    rw [hfl, List.length_zip]
    omega
  · have hi' : i < gs.length := by rw [← hfl I]; exact hi
    obtain ⟨f, b', q1, q2, q3, nx, q4⟩ := fns_at (lim := s.lim) gs 0 0 hH (show Lie (flFs 0 gs) 0 (flFs 0 gs) from ⟨[], [], by simp, rfl⟩) i hi'
    rw [Nat.zero_add] at q2 q3
    obtain ⟨_, l1, l2, l3⟩ := q4.fn
    have e : fiA (mkP X s gs I) i = ⟨(fAt X.fs i).pi, (fAt X.fs i).pr, (lAt s.lim i).1, (lAt s.lim i).2, (fAt X.fs i).ret, b' + f.ps.length, f.ss⟩ := by
      unfold fiA
      rw [List.getD_eq_getElem?_getD, show (mkP X s gs I).fns[i]? = _ from q2]
      rfl
    obtain ⟨_, _, _, w4⟩ := (hP I).ok.fn i (by rw [hfl]; exact hi')
    rw [e] at w4
    show ∃ r, FnAt ⟨mkP X s gs I, hd, flFs 0 gs, X.fs.zip s.lim, g, 0, 0⟩ i (fiA (mkP X s gs I) i) r
    rw [e]
    have r1 : X.fs[i]? = some (fAt X.fs i) := by
      unfold fAt
      rw [List.getD_eq_getElem?_getD, List.getElem?_eq_getElem (show i < X.fs.length by omega)]
      rfl
    have r2 : s.lim[i]? = some (lAt s.lim i) := by
      unfold lAt
      rw [List.getD_eq_getElem?_getD, List.getElem?_eq_getElem (show i < s.lim.length by omega)]
      rfl
    refine ⟨(fAt X.fs i, lAt s.lim i), ?_, rfl, rfl, rfl, rfl, rfl, ⟨b' + szF f - 1, b' + f.ps.length + szSs f.ss, _, f.bp, ?_, l3, rfl, l2⟩, l1, tySs_of f.ss _ (ho f q1).2.2, w4, ?_⟩
    · show (X.fs.zip s.lim)[i]? = _
      rw [List.getElem?_zip_eq_some]
      exact ⟨r1, r2⟩
    · rw [q3, rtF_nat]
    · have := h8 i
      have := hl12 i
      exact ⟨by show (fAt X.fs i).pi ≤ 12; omega, by show (fAt X.fs i).pr ≤ 12; omega, this.1, this.2⟩
  · rw [hK.tl, flFs_len]; simp
  · rw [hK.rl, flFs_len]; simp
end Go.Proofs.Qxb6500277aGreat
