/- The code does not look at the input; the functions out of the checker's rows. -/
import Derived.Test.Qxb6500277aGreatGE21
namespace Go.Proofs.Qxb6500277aGreat
open Go Go.RowKit

/-- The program with other input. -/
def Pg.of (P : Pg) (I : List Int) : Pg := ⟨P.ty, P.rf, P.fns, I⟩
section
variable (P : Pg) (I : List Int) (en : Nat → Nat)
theorem tyA_inp (x : Nat) : tyA (P.of I) x = tyA P x := rfl
theorem rfA_inp (x : Nat) : rfA (P.of I) x = rfA P x := rfl
theorem fiA_inp (x : Nat) : fiA (P.of I) x = fiA P x := rfl
mutual
theorem cE_inp : (e : Exp) → ∀ (a b : Nat), cE (P.of I) en a b e = cE P en a b e
  | .num .., a, b | .boo .., a, b | .rd .., a, b => rfl
  | .var .., a, b => by simp only [cE, tyA_inp, rfA_inp]
  | .un _ _ e, a, b | .new _ _ e, a, b | .len _ e, a, b => by simp only [cE, cE_inp e]
  | .bin _ _ l r, a, b => by simp only [cE, cE_inp l, cE_inp r]
  | .idx _ x i, a, b => by simp only [cE, cE_inp x, cE_inp i, tyA_inp]
  | .call _ _ gs, a, b => by simp only [cE, cEs_inp gs, rfA_inp]
theorem cEs_inp : (e : Exps) → ∀ (a b : Nat), cEs (P.of I) en a b e = cEs P en a b e
  | .nil, a, b => rfl
  | .cons e es, a, b => by simp only [cEs, cE_inp e, cEs_inp es]
end
mutual
theorem cS_inp : (x : Stm) → ∀ (a b : Nat), cS (P.of I) en a b x = cS P en a b x
  | .vd .., a, b => by simp only [cS, cE_inp, rfA_inp]
  | .asg _ x c, a, b => by cases x <;> simp only [cS, cE_inp, tyA_inp, rfA_inp]
  | .iff _ e _ ss, a, b => by simp only [cS, cE_inp, cSs_inp ss]
  | .ife _ e _ ss _ cs, a, b => by simp only [cS, cE_inp, cSs_inp ss, cSs_inp cs]
  | .whl _ e _ ss, a, b => by simp only [cS, cE_inp, cSs_inp ss]
  | .ret .., a, b | .prt .., a, b | .exp .., a, b => by simp only [cS, cE_inp, tyA_inp]
theorem cSs_inp : (x : Stms) → ∀ (a b : Nat), cSs (P.of I) en a b x = cSs P en a b x
  | .nil, a, b => rfl
  | .cons x xs, a, b => by simp only [cSs, cS_inp x, cSs_inp xs]
end
theorem cF_inp (a : Nat) (F : Fi) : cF (P.of I) en a F = cF P en a F := by unfold cF; rw [cSs_inp]
theorem enO_inp : ∀ (l : List Nat) (a i : Nat), enO (P.of I) l a i = enO P l a i
  | [], _, _ => rfl
  | j :: l, a, i => by simp only [enO, fiA_inp, enO_inp l]
theorem cdL_inp : ∀ (l : List Nat) (a : Nat), cdL (P.of I) en l a = cdL P en l a
  | [], _ => rfl
  | j :: l, a => by simp only [cdL, fiA_inp, cF_inp, cdL_inp l]
theorem enP_inp (m : Nat) : enP (P.of I) m = enP P m := funext fun _ => enO_inp P I _ _ _
theorem codeP_inp (m : Nat) : codeP (P.of I) m = codeP P m := by
  unfold codeP
  rw [enP_inp, cdL_inp]
  rfl
end
/-- The i-th function: its head, its nodes. -/
theorem fns_at {X : Cx} {ns : List Nd} {lim : List (Nat × Nat)} : ∀ (gs : List Fnc) (b c : Nat), HdsAt X b c gs → Lie ns b (flFs b gs) → ∀ i, i < gs.length → ∃ (f : Fnc) (b' : Nat), f ∈ gs ∧ (mkF X lim c b gs)[i]? = some ⟨(fAt X.fs (c + i)).pi, (fAt X.fs (c + i)).pr, (lAt lim (c + i)).1, (lAt lim (c + i)).2, (fAt X.fs (c + i)).ret, b' + f.ps.length, f.ss⟩ ∧ (fAt X.fs (c + i)).node = rtF b' f ∧ ∃ nx, Lie ns b' (flF b' nx f)
  | [], _, _, _, _, i, hi => by simp at hi
  | f :: r, b, c, h, L, 0, _ => by
    simp only [HdsAt] at h
    obtain ⟨La, _⟩ := L.fns
    exact ⟨f, b, by simp, rfl, h.2.1, _, La⟩
  | f :: r, b, c, h, L, i + 1, hi => by
    simp only [HdsAt] at h
    obtain ⟨_, Lb⟩ := L.fns
    obtain ⟨g, b', h1, h2, h3, h4⟩ := fns_at (lim := lim) r (b + szF f) (c + 1) h.2.2.2.2.2 Lb i (by simpa using hi)
    refine ⟨g, b', by simp [h1], ?_, ?_, h4⟩
    · rw [show c + (i + 1) = c + 1 + i by omega]; exact h2
    · rw [show c + (i + 1) = c + 1 + i by omega]; exact h3
/-- The heads' counts are those of the parameters. -/
theorem hds_ct : ∀ (gs : List Fnc) (b : Nat) (X0 X : Cx), ckH b gs X0 = .ok X → X0.pt.length = X0.fs.length → (∀ j, j < X0.fs.length → (fAt X0.fs j).pi = cI (pAt X0.pt j) ∧ (fAt X0.fs j).pr = cR (pAt X0.pt j)) → ∀ j, j < X.fs.length → (fAt X.fs j).pi = cI (pAt X.pt j) ∧ (fAt X.fs j).pr = cR (pAt X.pt j)
  | [], b, X0, X, h, hp, hx => by
    simp only [ckH] at h
    injection h with h
    subst h
    exact hx
  | f :: r, b, X0, X, h, hp, hx => by
    simp only [ckH] at h
    split at h
    · cases h
    · split at h
      · cases h
      · split at h
        · cases h
        · refine hds_ct r _ _ _ h (by simp [hp]) fun j hj => ?_
          simp only [List.length_append, List.length_cons, List.length_nil] at hj
          by_cases e : j = X0.fs.length
          · subst e
            have e1 := fAt_last X0.fs (⟨rtF b f, f.t, cI (f.ps.map (·.t)), cR (f.ps.map (·.t)), f.s⟩ : Fh)
            have e2 := pAt_last X0.pt (f.ps.map (·.t))
            rw [hp] at e2
            simp only []
            rw [e1, e2]
            exact ⟨rfl, rfl⟩
          · have hj' : j < X0.fs.length := by omega
            have e1 : fAt (X0.fs ++ [⟨rtF b f, f.t, cI (f.ps.map (·.t)), cR (f.ps.map (·.t)), f.s⟩]) j = fAt X0.fs j := fAt_app hj'
            have e2 : pAt (X0.pt ++ [f.ps.map (·.t)]) j = pAt X0.pt j := pAt_app (by omega)
            simp only []
            rw [e1, e2]
            exact hx j hj'
end Go.Proofs.Qxb6500277aGreat
