/- The real machine: a new frame, plain side. -/
import Derived.Test.Qxb6500277aGreatVR22
namespace Go.Proofs.Qxb6500277aGreat
open Go Go.RowKit

/-- Words a to b are zero. -/
def zst (st : Nat → Int) (a b : Nat) : Nat → Int := fun k => if a ≤ k ∧ k < b then 0 else st k
theorem zst_zero (st : Nat → Int) (a : Nat) : zst st a a = st := by
  funext o; unfold zst; rw [if_neg (by omega)]
theorem zst_succ {st : Nat → Int} {a b : Nat} (h : a ≤ b) : upd (zst st a b) b 0 = zst st a (b + 1) := by
  funext o
  unfold upd zst
  by_cases e : o = b
  · subst e; rw [if_pos rfl, if_pos (by omega)]
  · rw [if_neg e]
    by_cases h2 : a ≤ o ∧ o < b
    · rw [if_pos h2, if_pos (by omega)]
    · rw [if_neg h2, if_neg (by omega)]
/-- The stack behind a call. -/
def est (st : Nat → Int) (G : Gx) (sp b : Nat) (ret : Int) : Nat → Int := upd (upd (upd (zst st sp b) b ret) (b + 1) G.fp) (b + 2) (packI G.li G.lr G.rb)
section
variable {w w' : World} {A : Va} {C : List Nat} {I : List Int} {V : Vs} {S S' : HS} {M : MS} {st st' : Nat → Int} {G : Gx} {nf : Nat} {cv iv ov : Value} {f : Fm} {r : List Fm}
theorem est_low {sp b i : Nat} {ret : Int} (h : i < sp) (hb : i < b) : est st G sp b ret i = st i := by
  unfold est
  rw [upd_other _ _ _ _ (by omega), upd_other _ _ _ _ (by omega), upd_other _ _ _ _ (by omega)]
  unfold zst
  rw [if_neg (by omega)]
theorem est_z {sp b i : Nat} {ret : Int} (h : sp ≤ i) (hb : i < b) : est st G sp b ret i = 0 := by
  unfold est
  rw [upd_other _ _ _ _ (by omega), upd_other _ _ _ _ (by omega), upd_other _ _ _ _ (by omega)]
  unfold zst
  rw [if_pos (by omega)]
theorem upd_same' {α : Type} (g : Nat → α) (i : Nat) (v : α) : upd g i v i = v := by unfold upd; rw [if_pos rfl]
theorem est_0 {sp b : Nat} {ret : Int} : est st G sp b ret b = ret := by
  unfold est
  rw [upd_other _ _ _ _ (by omega), upd_other _ _ _ _ (by omega), upd_same']
theorem est_1 {sp b : Nat} {ret : Int} : est st G sp b ret (b + 1) = G.fp := by
  unfold est
  rw [upd_other _ _ _ _ (by omega), upd_same']
theorem est_2 {sp b : Nat} {ret : Int} : est st G sp b ret (b + 2) = packI G.li G.lr G.rb := by
  unfold est
  rw [upd_same']
theorem Lay.enter (h : Lay st V.fs G) {pi pr li lr ret b : Nat} (hp : pi ≤ (topO V).length) (hpl : pi ≤ li) (hb : b + pi = G.sp + li) (hl : G.li < 256) (hG : G.lr < 256 ∧ G.rb ≤ 24) (k : Nat) (hk : k + pi = G.sp) :
    Lay (est st G G.sp b ret) (newF V M pi pr li lr ret :: (dropO V pi).fs) ⟨b + 3, k, li, lr, M.rt.length - pr⟩ := by
  have hlow : Lay (est st G G.sp b ret) (dropO V pi).fs { G with sp := k } := by
    cases hf : V.fs with
    | nil =>
      have e : topO V = [] := by unfold topO; rw [hf]
      rw [e] at hp
      have hp0 : pi = 0 := by simpa using hp
      have e2 : (dropO V pi).fs = [] := by unfold dropO setO; rw [hf]; exact hf
      rw [e2]
      rw [hf] at h
      have h' : G = ⟨0, 0, 0, 0, 0⟩ := h
      subst h'
      have : k = 0 := by simpa [hp0] using hk
      subst this
      rfl
    | cons f r =>
      have e : topO V = f.ops := by unfold topO; rw [hf]
      have e2 : (dropO V pi).fs = { f with ops := f.ops.take (f.ops.length - pi) } :: r := by unfold dropO setO; rw [hf]; rw [e]
      rw [e2]
      rw [hf] at h
      rw [e] at hp
      have h0 := h
      obtain ⟨h1, h2, h3, h4, h5, h6, h7, _⟩ := h
      have := h0.ops (st' := est st G G.sp b ret) (f.ops.take (f.ops.length - pi)) (fun i hi => est_low (by omega) (by omega)) (fun i hi => by
        rw [List.length_take] at hi
        rw [est_low (by omega) (by omega), getD_take _ _ _ (by omega)]
        exact h7 i (by omega))
      rw [List.length_take, show G.fp + G.li + 3 + min (f.ops.length - pi) f.ops.length = k by omega] at this
      exact this
  refine ⟨?_, rfl, rfl, ?_, ?_, ?_, ?_, { G with sp := k }, rfl, hl, hG.1, hG.2, ?_, ?_, hlow⟩
  · simp [newF]; omega
  · simp [newF]; omega
  · intro i hi
    show est st G G.sp b ret (k + i) = _
    simp only [newF]
    by_cases hi2 : i < pi
    · rw [est_low (by omega) (by simp at hi; omega)]
      cases hf : V.fs with
      | nil =>
        have e : topO V = [] := by unfold topO; rw [hf]
        rw [e] at hp
        simp at hp; omega
      | cons f r =>
        have e : topO V = f.ops := by unfold topO; rw [hf]
        rw [e] at hp ⊢
        rw [hf] at h
        obtain ⟨h1, h2, h3, h4, h5, h6, h7, _⟩ := h
        have h8 := h7 (f.ops.length - pi + i) (by omega)
        rw [show G.fp + G.li + 3 + (f.ops.length - pi + i) = k + i by omega] at h8
        rw [h8]
        simp only [List.getD_eq_getElem?_getD]
        rw [List.getElem?_append_left (by simp; omega), List.getElem?_drop]
    · simp only at hi
      rw [est_z (by omega) (by omega)]
      simp only [List.getD_eq_getElem?_getD]
      rw [List.getElem?_append_right (by simp; omega)]
      rw [List.getElem?_replicate]
      split <;> rfl
  · show est st G G.sp b ret (k + li) = _
    rw [show k + li = b by omega, est_0]; rfl
  · intro i hi; simp [newF] at hi
  · show est st G G.sp b ret (k + li + 1) = _
    rw [show k + li + 1 = b + 1 by omega, est_1]
  · show est st G G.sp b ret (k + li + 2) = _
    rw [show k + li + 2 = b + 2 by omega, est_2]
end
end Go.Proofs.Qxb6500277aGreat
