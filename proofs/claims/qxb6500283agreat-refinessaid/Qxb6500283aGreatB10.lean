/- A step eats a byte; the parser at rest. -/
import Derived.Test.Qxb6500283aGreatB9
namespace Go.Proofs.Qxb6500283aGreat
open Go Go.RowKit

theorem setAtom_i {T T1 : Rs} {r : Res} {n : Nat} (hr : ∀ y s, r = .ok (y, s) → n < s.i) (e : setAtom T r = .ok T1) : n < T1.s.i := by
  unfold setAtom at e
  split at e
  · cases e
  · cases e; exact hr _ _ rfl
theorem foldR_i {T T1 : Rs} (e : foldR T = .ok T1) : T1.s.i = T.s.i := by
  unfold foldR at e
  split at e
  · cases e
  · rename_i he
    split at e
    · cases e
    · rename_i ha
      cases e
      simp only
      rw [altN_i ha, emptyN_i he]
theorem StepR.lt {p : ByteArray} {T T1 : Rs} (h : StepR p T (.ok T1)) (hi : T.s.i < p.size) : T.s.i < T1.s.i := by
  generalize hr : (Except.ok T1 : Except Er Rs) = r at h
  cases h with
  | sign =>
    have hr := hr.symm
    unfold signR at hr
    split at hr
    · cases hr
    · split at hr
      · cases hr
      · rename_i hc
        split at hr
        · cases hr
        · have h1 := count_le hi hc
          exact setAtom_i (fun y s e => by have := (addS_grow e).1; have := lazyEnd_le h1.1; simp only at *; omega) hr
  | joinE => cases hr
  | bar _ hj =>
    split at hr
    · cases hr
    · rename_i hf
      cases hr
      have := foldR_i hf
      have := (joinR_ok hj).1
      simp only
      omega
  | shut _ hj =>
    have hr := hr.symm
    have hji := (joinR_ok hj).1
    unfold shutR at hr
    split at hr
    · cases hr
    · rename_i hf
      have hfi := foldR_i hf
      split at hr
      · cases hr
      · split at hr
        · cases hr
        · rename_i hs
          cases hr
          simp only
          unfold shutS at hs
          split at hs
          · cases hs; simp only; omega
          · have := (addS_grow hs).1; simp only at this; omega
  | open_ _ hj =>
    have hr := hr.symm
    have hji := (joinR_ok hj).1
    unfold openR at hr
    split at hr
    · cases hr
    · split at hr
      · cases hr
      · rename_i ho
        cases hr
        simp only
        unfold openS at ho
        split at ho
        · cases ho; simp only; omega
        split at ho
        · cases ho
        · cases ho; simp only; omega
  | leafE => cases hr
  | leaf _ _ _ _ hj hl =>
    have h3 := hl.le hi
    simp only at h3
    exact setAtom_i (fun y s e => by have := (addS_grow e).1; simp only at this; omega) hr.symm
/-- The parser between two calls. -/
def RAny (w : World) (x : Nat) (p : ByteArray) : Prop := ∃ f iv ns g t r e q, Blk w x 325 f ∧ Lay f p iv ns g t r e q ∧ WF ns ∧ ns.length ≤ 24 ∧ g ≤ 3 ∧ r.length ≤ 5
theorem RErr.any {w : World} {x : Nat} {p : ByteArray} {e q : Int} (h : RErr w x p e q) : RAny w x p := by
  obtain ⟨f, iv, ns, g, t, r, hb, hL, h2⟩ := h
  exact ⟨f, iv, ns, g, t, r, e, q, hb, hL, h2⟩
theorem Lay.setP {f : Nat → Value} {p p' : ByteArray} {iv : Int} {ns : List Nd} {g : Nat} {t : Frm} {r : List Frm} {e q : Int} (h : Lay f p iv ns g t r e q) : Lay (upd f 0 (.string p')) p' iv ns g t r e q :=
  ⟨upd_same _ _ _, by rw [upd_other _ _ _ _ (by omega)]; exact h.i1, fun k hk j hj => by rw [upd_other _ _ _ _ (by omega)]; exact h.nd k hk j hj, fun k hk => by rw [upd_other _ _ _ _ (by omega)]; exact h.nl k hk, by rw [upd_other _ _ _ _ (by omega)]; exact h.n,
   h.st.same (fun o h1 h2 => upd_other _ _ _ _ (by omega)), by rw [upd_other _ _ _ _ (by omega)]; exact h.dp, by rw [upd_other _ _ _ _ (by omega)]; exact h.gr, by rw [upd_other _ _ _ _ (by omega)]; exact h.er, by rw [upd_other _ _ _ _ (by omega)]; exact h.ps⟩
/-- A fresh start. -/
theorem Lay.fresh {f : Nat → Value} {p : ByteArray} (h0 : f 0 = .string p) (h1 : f 1 = .int .i64 0) (h2 : f 290 = .int .i64 0) (h3 : ∀ j, j < 5 → f (291 + j) = frCell fr0 j) (h4 : f 321 = .int .i64 0) (h5 : f 322 = .int .i64 0) (h6 : f 323 = .int .i64 0) (h7 : f 324 = .int .i64 0) : Lay f p ((0 : Nat) : Int) [] 0 fr0 [] 0 0 :=
  ⟨h0, h1, fun k hk => by simp at hk, fun k hk => by simp at hk, h2, ⟨fun j hj => by simpa using h3 j hj, trivial⟩, h4, h5, h6, h7⟩
end Go.Proofs.Qxb6500283aGreat
