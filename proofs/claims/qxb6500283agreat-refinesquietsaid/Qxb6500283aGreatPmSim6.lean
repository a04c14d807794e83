import Derived.Test.Qxb6500283aGreatPmSim5
namespace Go.Proofs.Qxb6500283aGreat
open Go Go.RowKit

section
variable {p : List In} {str : ByteArray}
structure SSt (p : List In) (W : Nat) (st : PS) (V : List (Nat × (Nat → Int))) : Prop where
  w : LInv st.f W p.length
  o : LInv st.f (1 - W) p.length
  sp : st.f 261 = 0
  rel : LRel p W st V
/-- One step: what it leaves. -/
theorem step_round (hp : OkProg p) {W i : Nat} (hW : W < 2) {st : PS} {V : List (Nat × (Nat → Int))} (h : SSt p W st V) :
    ∃ f VO, cloRun p str (i + 1) f (cut p str i V).1 [] = some VO ∧ SSt p (1 - W) (stepS p str W i st).2 VO ∧ (stepS p str W i st).1 = (cut p str i V).2.isSome ∧
      (∀ c, (cut p str i V).2 = some c → ∀ j, j < 8 → (stepS p str W i st).2.b j = upd c 1 i j) ∧ ((cut p str i V).2 = none → (stepS p str W i st).2.b = st.b) ∧
      st.f 265 ≤ (stepS p str W i st).2.f 265 ∧ (stepS p str W i st).2.f 265 - 2 * (stepS p str W i st).2.f ((1 - W) * 130 + 128) + 1 ≤ st.f 265 - 2 * st.f (W * 130 + 128) + 4 * p.length := by
  have hm := hp.max
  obtain ⟨t, ht⟩ : ∃ t : PS, t = { st with f := upd st.f ((1 - W) * 130 + 128) 0 } := ⟨_, rfl⟩
  have hf : ∀ o, o ≠ (1 - W) * 130 + 128 → t.f o = st.f o := fun o ho => by rw [ht]; simp [upd, ho]
  have hlW : LInv t.f W p.length := h.w.congr hm fun o h1 h2 => hf o (by omega)
  have tO : t.f ((1 - W) * 130 + 128) = 0 := by rw [ht]; simp [upd]
  have hlO : LInv t.f (1 - W) p.length := ⟨by rw [tO]; omega, by rw [tO]; omega, fun pc hpc => by rw [hf _ (by omega)]; exact h.o.sp pc hpc, fun k hk => by rw [tO] at hk; omega⟩
  have hrW : LRel p W t V := h.rel.congr h.w hm (fun o h1 h2 => hf o (by omega)) (by rw [ht])
  obtain ⟨hV1, hV2⟩ := nW_le h.w h.rel
  have hnc := nchar_le hp h.w h.rel
  have hn : (st.f (W * 130 + 128)).toNat = V.length := by omega
  obtain ⟨f, VO, b1, b2, b3, b4, b5, b6, b7, b8, b9, b10⟩ := step_sim (str := str) (i := i) hp hW V V.length 0 t [] (by omega) hlW hlO hrW (LRel.empty tO) (by rw [hf _ (by omega)]; exact h.sp)
  have e : stepS p str W i st = stepFrom p str W i V.length 0 t := by unfold stepS; rw [hn, ht]
  rw [List.drop_zero] at b1 b6 b7 b8 b10
  rw [e]
  have t5 : t.f 265 = st.f 265 := hf _ (by omega)
  rw [t5] at b9 b10
  rw [tO] at b10
  exact ⟨f, VO, b1, ⟨b4, by rw [show 1 - (1 - W) = W by omega]; exact b3, b5, b2⟩, b6, b7, fun hh => by rw [b8 hh, ht], b9, by omega⟩

structure Fin (p : List In) (m W : Nat) (st fin : PS) : Prop where
  l0 : LInv fin.f 0 p.length
  l1 : LInv fin.f 1 p.length
  sp : fin.f 261 = 0
  up : st.f 265 ≤ fin.f 265
  g : fin.f 265 ≤ st.f 265 - 2 * st.f (W * 130 + 128) + 4 * p.length * m + 2 * p.length
theorem SSt.fin {W : Nat} (hW : W < 2) {st : PS} {V : List (Nat × (Nat → Int))} (h : SSt p W st V) (m : Nat) : Fin p m W st st := by
  obtain ⟨h1, h2⟩ := nW_le h.w h.rel
  have h3 : (0 : Int) ≤ 4 * p.length * m := Int.mul_nonneg (by omega) (by omega)
  have h4 : st.f 265 ≤ st.f 265 - 2 * st.f (W * 130 + 128) + 4 * p.length * m + 2 * p.length := by omega
  rcases (show W = 0 ∨ W = 1 by omega) with rfl | rfl
  · exact ⟨h.w, h.o, h.sp, Int.le_refl _, h4⟩
  · exact ⟨h.o, h.w, h.sp, Int.le_refl _, h4⟩

theorem scan_hit (hp : OkProg p) : ∀ (m at_ W : Nat) (st : PS) (V S : List (Nat × (Nat → Int))) (f : Nat), at_ + m = str.size + 1 → W < 2 → SSt p W st V → cloRun p str at_ f S [] = some V → (m = 0 → S = []) →
    ∃ r, AnsM p str at_ S r ∧ (scanFrom p str m at_ W true st).1 = true ∧ (∀ q, r = some q → ∀ j, j < 8 → (scanFrom p str m at_ W true st).2.b j = endC q j) ∧ (r = none → (scanFrom p str m at_ W true st).2.b = st.b) ∧
      Fin p m W st (scanFrom p str m at_ W true st).2
  | 0, at_, W, st, V, S, f, hm, hW, h, hc, hS => by
    rw [hS rfl]
    exact ⟨none, AnsM.nil, rfl, (fun q h => by cases h), (fun _ => rfl), h.fin hW 0⟩
  | m + 1, at_, W, st, V, S, f, hm, hW, h, hc, _ => by
    simp only [scanFrom, if_true, Bool.true_or]
    obtain ⟨hV1, hV2⟩ := nW_le h.w h.rel
    by_cases h0 : st.f (W * 130 + 128) = 0
    · rw [if_pos h0]
      have hV : V = [] := List.eq_nil_of_length_eq_zero (by omega)
      subst hV
      exact ⟨none, by simpa using AnsM.step hc (show cut p str at_ [] = ([], none) from rfl) AnsM.nil, rfl, (fun q h => by cases h), (fun _ => rfl), h.fin hW (m + 1)⟩
    · rw [if_neg h0]
      obtain ⟨g, VO, b1, b2, b3, b4, b5, b6, b7⟩ := step_round (str := str) (i := at_) hp hW h
      obtain ⟨r, c1, c2, c3, c4, c5⟩ := scan_hit hp m (at_ + 1) (1 - W) (stepS p str W at_ st).2 VO _ g (by omega) (by omega) b2 b1 (fun h => cut_last V (by omega))
      refine ⟨_, AnsM.step hc rfl c1, c2, ?_, ?_, ⟨c5.l0, c5.l1, c5.sp, Int.le_trans b6 c5.up, ?_⟩⟩
      · intro q hq j hj
        cases hr : r with
        | some q' =>
          rw [hr] at hq
          simp at hq
          subst hq
          exact c3 q' hr j hj
        | none =>
          rw [hr] at hq
          simp at hq
          obtain ⟨c, hc1, rfl⟩ := hq
          rw [c4 hr]
          exact b4 c hc1 j hj
      · intro hq
        cases hr : r with
        | some q' => rw [hr] at hq; simp at hq
        | none =>
          rw [hr] at hq
          simp at hq
          rw [c4 hr, b5 hq]
      · have := c5.g
        have e : (4 * (p.length : Int) * ((m + 1 : Nat) : Int)) = 4 * p.length * m + 4 * p.length := by rw [Int.natCast_add, Int.mul_add]; simp
        rw [e]
        omega
end
end Go.Proofs.Qxb6500283aGreat
