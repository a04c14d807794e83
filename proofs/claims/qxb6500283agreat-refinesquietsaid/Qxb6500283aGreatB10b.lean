/- Errors have codes. -/
import Derived.Test.Qxb6500283aGreatB10
namespace Go.Proofs.Qxb6500283aGreat
open Go Go.RowKit

theorem addS_ne {s : Sg} {n : Nd} {e : Er} (h : addS s n = .error e) : e.1 ≠ 0 := by
  unfold addS at h
  split at h
  · cases h; simp
  · cases h
theorem setAtom_ne {T : Rs} {r : Res} {e : Er} (hr : ∀ e, r = .error e → e.1 ≠ 0) (h : setAtom T r = .error e) : e.1 ≠ 0 := by
  unfold setAtom at h
  split at h
  · cases h; exact hr _ rfl
  · cases h
theorem StepR.ne {p : ByteArray} {T : Rs} {e : Er} (h : StepR p T (.error e)) (hi : T.s.i < p.size) : e.1 ≠ 0 := by
  generalize hr : (Except.error e : Except Er Rs) = r at h
  cases h with
  | sign =>
    have hr := hr.symm
    unfold signR at hr
    split at hr
    · cases hr; simp
    · split at hr
      · cases hr; simp
      · split at hr
        · cases hr; simp
        · exact setAtom_ne (fun e h => addS_ne h) hr
  | joinE _ hj => cases hr; have := joinR_err hj; omega
  | bar _ hj =>
    split at hr
    · rename_i hf
      cases hr
      have := foldR_err hf
      omega
    · cases hr
  | shut _ hj =>
    have hr := hr.symm
    unfold shutR at hr
    split at hr
    · rename_i hf; cases hr; have := foldR_err hf; omega
    · split at hr
      · cases hr; simp
      · split at hr
        · rename_i hs
          cases hr
          unfold shutS at hs
          split at hs
          · cases hs
          · exact addS_ne hs
        · cases hr
  | open_ _ hj =>
    have hr := hr.symm
    unfold openR at hr
    split at hr
    · cases hr; simp
    · split at hr
      · cases hr; simp
      · cases hr
  | leafE _ _ _ _ _ hl => cases hr; exact (hl.le hi).1
  | leaf => exact setAtom_ne (fun e h => addS_ne h) hr.symm
end Go.Proofs.Qxb6500283aGreat
