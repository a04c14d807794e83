import Derived.Test.Qxb6500283aGreatPmSim2
namespace Go.Proofs.Qxb6500283aGreat
open Go Go.RowKit

section
variable {p : List In} {str : ByteArray} {i W : Nat}
theorem Rel.run (hp : OkProg p) (hW : W < 2) : ∀ (k : Nat) (s : PS) (S V : List (Nat × (Nat → Int))), AInv p W s → amu W s ≤ k → Rel p W s S V →
    ∃ f V', cloRun p str i f S V = some V' ∧ Rel p W (addRun p str.size W i k s) [] V'
  | 0, s, S, V, h, hk, hr => by
    have h0 := h.s.h0
    have n1 := h.l.n1
    have hm := hp.max
    unfold amu at hk
    have hS : S = [] := by rw [← hr.st, show (s.f 261).toNat = 0 by omega]; rfl
    subst hS
    exact ⟨1, V, rfl, hr⟩
  | k + 1, s, S, V, h, hk, hr => by
    simp only [addRun]
    split
    · rename_i hpos
      obtain ⟨t1, t2⟩ := h.turn hp hW str.size i hpos
      rcases hr.turn (str := str) (i := i) hp hW h hpos with hr' | ⟨pc, c, S0, rfl, ⟨hv, hr'⟩ | ⟨hv, hr'⟩⟩
      · exact Rel.run hp hW k _ S V t1 (by omega) hr'
      · obtain ⟨f, V', e1, e2⟩ := Rel.run hp hW k _ S0 V t1 (by omega) hr'
        exact ⟨f + 1, V', by rw [cloRun, if_pos hv]; exact e1, e2⟩
      · obtain ⟨f, V', e1, e2⟩ := Rel.run hp hW k _ _ _ t1 (by omega) hr'
        exact ⟨f + 1, V', by rw [cloRun, if_neg (by simp [hv])]; exact e1, e2⟩
    · rename_i hpos
      have h0 := h.s.h0
      have hS : S = [] := by rw [← hr.st, show (s.f 261).toNat = 0 by omega]; rfl
      subst hS
      exact ⟨1, V, rfl, hr⟩
theorem Rel.add (hp : OkProg p) (hW : W < 2) {pc : Nat} (hpc : pc < p.length) {s : PS} {V : List (Nat × (Nat → Int))} (hl : LInv s.f W p.length) (hvs : listOf s.f W = V.map Prod.fst) (hnv : ∀ t ∈ V, Norm t.2)
    (hrow : ∀ idx (h : idx < V.length), isLeaf p V[idx].1 = true → ∀ j, j < 8 → s.g W (idx * 8 + j) = V[idx].2 j) :
    ∃ f V', cloRun p str i f [(pc, nm s.r)] V = some V' ∧ Rel p W (addSM p str.size W pc i s) [] V' := by
  obtain ⟨s1, s2⟩ := AInv.start (s := s) hp hW hl hpc
  have hm := hp.max
  have n1 := hl.n1
  refine Rel.run hp hW 300 _ _ _ s1 s2 ⟨?_, ?_, hnv, hrow⟩
  · rw [pushAbs (t := { s with f := upd s.f 261 0 }) 0 (by simp [upd])]
    simp [absSt]
  · rw [← hvs]
    exact listOf_congr (by omega) fun o h1 h2 => by rw [pushS_f _ _ _ _ _ (by omega)]; simp [upd, show o ≠ 261 by omega]

def gau (W : Nat) (s : PS) : Int := s.f 265 + 2 * (64 - s.f (W * 130 + 128)) + s.f 261
theorem gau_turn {s : PS} {size at_ : Int} (hp : OkProg p) (hW : W < 2) (h : AInv p W s) (hpos : 0 < s.f 261) : gau W (addTurn p size W at_ s) ≤ gau W s := by
  have hm := hp.max
  have n0 := h.l.n0
  have n1 := h.l.n1
  obtain ⟨j, hj⟩ : ∃ j : Nat, s.f 261 = (j : Int) + 1 := ⟨(s.f 261 - 1).toNat, by omega⟩
  have hj' : (s.f 261 - 1).toNat = j := by omega
  have hfr := h.s.fr j (by omega)
  have e5 := addTurn_steps (size := size) (at_ := at_) hp hW h hpos
  unfold gau
  rw [e5]
  unfold addTurn
  simp only [hj']
  have n128 : upd (upd s.f 265 (s.f 265 + 1)) 261 (s.f 261 - 1) (W * 130 + 128) = s.f (W * 130 + 128) := by simp [upd, show W * 130 + 128 ≠ 261 by omega, show W * 130 + 128 ≠ 265 by omega]
  have sp1 : upd (upd s.f 265 (s.f 265 + 1)) 261 (s.f 261 - 1) 261 = s.f 261 - 1 := by simp [upd]
  split
  · simp only [n128, sp1]; omega
  · split
    · simp only [n128, sp1]; omega
    · rename_i hh
      have hpc' : (s.k (j * 3)).toNat < p.length := by unfold frOK at hfr; omega
      have l1 : LInv (upd (upd s.f 265 (s.f 265 + 1)) 261 (s.f 261 - 1)) W p.length := h.l.congr hm fun o h1 h2 => by simp [upd, show o ≠ 261 by omega, show o ≠ 265 by omega]
      have hn2 := n_lt l1 hm hpc' (by simpa using hh)
      rw [n128] at hn2
      have m1 := putF_n (upd (upd s.f 265 (s.f 265 + 1)) 261 (s.f 261 - 1)) W (s.k (j * 3)).toNat
      rw [n128] at m1
      have m2 := putF_261 (upd (upd s.f 265 (s.f 265 + 1)) 261 (s.f 261 - 1)) W (s.k (j * 3)).toNat hW (by omega) (by rw [n128]; omega)
      rw [sp1] at m2
      have np : ∀ (t : PS) (a b c : Int), (pushS t a b c).f (W * 130 + 128) = t.f (W * 130 + 128) := fun t a b c => pushS_f t a b c _ (by omega)
      refine followS_cases p size W (s.k (j * 3)).toNat at_ _ hp hpc' (fun t => s.f 265 + 1 + 2 * (64 - t.f (W * 130 + 128)) + t.f 261 ≤ s.f 265 + 2 * (64 - s.f (W * 130 + 128)) + s.f 261) ?_ ?_ ?_ ?_ ?_
      · intro a _ _; simp only [np, pushS_sp, m1, m2]; omega
      · intro a b _ _ _ _; simp only [np, pushS_sp, m1, m2]; omega
      · intro k _ _ _; simp only [np, pushS_sp, m1, m2]; omega
      · simp only [m1, m2]; omega
      · simp only [m1, m2]; omega
theorem gau_run {size at_ : Int} (hp : OkProg p) (hW : W < 2) : ∀ (k : Nat) (s : PS), AInv p W s → gau W (addRun p size W at_ k s) ≤ gau W s
  | 0, s, _ => Int.le_refl _
  | k + 1, s, h => by
    simp only [addRun]
    split
    · rename_i hpos
      exact Int.le_trans (gau_run hp hW k _ (h.turn hp hW size at_ hpos).1) (gau_turn hp hW h hpos)
    · exact Int.le_refl _
theorem gau_add {size at_ : Int} (hp : OkProg p) (hW : W < 2) {pc : Nat} (hpc : pc < p.length) {s : PS} (hl : LInv s.f W p.length) :
    (addSM p size W pc at_ s).f 265 ≤ s.f 265 + 1 + 2 * ((addSM p size W pc at_ s).f (W * 130 + 128) - s.f (W * 130 + 128)) := by
  obtain ⟨s1, _⟩ := AInv.start (s := s) hp hW hl hpc
  have g := gau_run (size := size) (at_ := at_) hp hW 300 _ s1
  have e := (addS_spec (V := 1 - W) (size := size) (at_ := at_) (s := s) hp hW (by omega) (by omega) hl hpc).2.1
  unfold addSM at e ⊢
  unfold gau at g
  rw [e, pushS_sp, pushS_f _ _ _ _ _ (by omega), pushS_f _ _ _ _ _ (by omega)] at g
  simp [upd, show W * 130 + 128 ≠ 261 by omega] at g
  omega
end
end Go.Proofs.Qxb6500283aGreat
