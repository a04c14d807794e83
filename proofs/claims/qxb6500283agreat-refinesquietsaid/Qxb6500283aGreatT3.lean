/- Trees, their meaning, their core form; the meaning is kept. -/
import Derived.Test.Qxb6500283aGreatT2
import Derived.Test.Qxb6500283aGreatS1
namespace Go.Proofs.Qxb6500283aGreat

inductive Rx where
  | emp
  | set (P : BSet)
  | bol
  | eol
  | cat (a b : Rx)
  | alt (a b : Rx)
  | rep (a : Rx) (mn : Nat) (mx : Int) (lz : Bool)
  | grp (a : Rx) (k : Nat)
def setC (c : Cp) (k : Nat) (v : Int) : Cp := fun j => if j = k then v else c j
def grpF (f : Wf) (k : Nat) : Wf := fun i c => (f i c).map (fun w => (w.1, setC (setC w.2 (2 * k) i) (2 * k + 1) w.1))
def restF (n : Nat) (f : Wf) (lz : Bool) (mn : Nat) (mx : Int) : Wf := if mx < 0 then starF n f lz else optF f lz (mx.toNat - mn)
/-- THE DEFINITION: the ways of a tree over the subject s. -/
def wy (s : ByteArray) : Rx → Wf
  | .emp => stopF
  | .set P => fun i c => if i < s.size ∧ P (bt s i) = true then [(i + 1, c)] else []
  | .bol => fun i c => if i = 0 then [(i, c)] else []
  | .eol => fun i c => if i = s.size then [(i, c)] else []
  | .cat a b => catF (wy s a) (wy s b)
  | .alt a b => fun i c => joinL (wy s a i c) (wy s b i c)
  | .rep a mn mx lz => mustF (wy s a) mn (restF s.size (wy s a) lz mn mx)
  | .grp a k => grpF (wy s a) k
theorem ends_grp (l : List Wy) (k i : Nat) : ends (l.map (fun w => (w.1, setC (setC w.2 (2 * k) i) (2 * k + 1) w.1))) = ends l := by
  simp [ends, Function.comp_def]
theorem Good.grp {n : Nat} {f : Wf} (hf : Good n f) (k : Nat) : Good n (grpF f k) where
  lo i c hi w hw := by
    obtain ⟨x, hx, rfl⟩ := List.mem_map.1 hw
    exact hf.lo i c hi x hx
  nd i c hi := by unfold grpF; rw [ends_grp]; exact hf.nd i c hi
  ind i c c' hi := by unfold grpF; rw [ends_grp, ends_grp]; exact hf.ind i c c' hi
theorem Good.rest {n : Nat} {f : Wf} (hf : Good n f) (lz : Bool) (mn : Nat) (mx : Int) : Good n (restF n f lz mn mx) := by
  unfold restF
  split
  · exact hf.star lz
  · exact hf.opt lz _
theorem Good.leaf {n : Nat} (P : Nat → Prop) [DecidablePred P] (d : Nat → Nat) (h : ∀ i, i ≤ n → P i → i ≤ d i ∧ d i ≤ n) : Good n (fun i c => if P i then [(d i, c)] else []) where
  lo i c hi w hw := by
    by_cases hp : P i
    · rw [if_pos hp] at hw
      simp only [List.mem_singleton] at hw
      subst hw
      exact h i hi hp
    · rw [if_neg hp] at hw
      cases hw
  nd i c _ := by
    by_cases hp : P i
    · rw [if_pos hp]; simp [ends]
    · rw [if_neg hp]; simp [ends]
  ind i c c' _ := by
    by_cases hp : P i
    · rw [if_pos hp, if_pos hp]; rfl
    · rw [if_neg hp, if_neg hp]
theorem wy_good (s : ByteArray) : ∀ r, Good s.size (wy s r)
  | .emp => Good.stop
  | .set P => Good.leaf (fun i => i < s.size ∧ P (bt s i) = true) (fun i => i + 1) (fun _ _ h => ⟨Nat.le_succ _, h.1⟩)
  | .bol => Good.leaf (fun i => i = 0) (fun i => i) (fun _ hi _ => ⟨Nat.le_refl _, hi⟩)
  | .eol => Good.leaf (fun i => i = s.size) (fun i => i) (fun _ hi _ => ⟨Nat.le_refl _, hi⟩)
  | .cat a b => (wy_good s a).cat (wy_good s b)
  | .alt a b => (wy_good s a).alt (wy_good s b)
  | .rep a mn mx lz => Good.must (wy_good s a) ((wy_good s a).rest lz mn mx) mn
  | .grp a k => (wy_good s a).grp k
/-- The shape of the core form. -/
def sh : Rx → Nat
  | .emp => 0
  | .set P => if setE P then 1 else 2
  | .bol => 2
  | .eol => 2
  | .cat a b => if sh a = 1 ∨ sh b = 1 then 1 else if sh a = 0 then sh b else 2
  | .alt a b => if sh a = 1 then sh b else if sh b = 1 then sh a else if sh a = 0 ∧ sh b = 0 then 0 else 2
  | .grp a _ => if sh a = 1 then 1 else 2
  | .rep a mn mx _ => if sh a = 1 ∧ 0 < mn then 1 else if sh a ≠ 2 ∨ mx = 0 then 0 else 2
theorem sh_le : ∀ r, sh r ≤ 2
  | .emp => by simp [sh]
  | .set P => by simp only [sh]; split <;> omega
  | .bol => by simp [sh]
  | .eol => by simp [sh]
  | .cat a b => by have := sh_le a; have := sh_le b; simp only [sh]; split; omega; split <;> omega
  | .alt a b => by have := sh_le a; have := sh_le b; simp only [sh]; split; omega; split; omega; split <;> omega
  | .grp a k => by simp only [sh]; split <;> omega
  | .rep a mn mx lz => by simp only [sh]; split; omega; split <;> omega
def chR (z : Nat) (r : Rx) : Rx := if z = 2 then r else if z = 0 then .emp else .set noP
def repsR (x : Rx) : Nat → Rx
  | 0 => .emp
  | 1 => x
  | k + 2 => .cat (repsR x (k + 1)) x
def optXR (x o : Rx) (k : Nat) : Rx := if k = 0 then x else .cat x o
def optR (x : Rx) (lz : Bool) : Nat → Rx
  | 0 => .emp
  | k + 1 => if lz then .alt .emp (optXR x (optR x lz k) k) else .alt (optXR x (optR x lz k) k) .emp
def starR (x : Rx) (lz : Bool) : Rx := .rep x 0 (-1) lz
def unrollR (x : Rx) (mn : Nat) (mx : Int) (lz : Bool) : Rx :=
  if mx < 0 then (if mn = 0 then starR x lz else .cat (repsR x mn) (starR x lz))
  else if (mn : Int) < mx then (if mn = 0 then optR x lz (mx.toNat - mn) else .cat (repsR x mn) (optR x lz (mx.toNat - mn)))
  else repsR x mn
/-- The core form of a whole tree. -/
def co : Rx → Rx
  | .emp => .emp
  | .set P => .set P
  | .bol => .bol
  | .eol => .eol
  | .cat a b => if sh a = 0 then co b else if sh b = 0 then co a else .cat (co a) (co b)
  | .alt a b => if sh a = 1 then co b else if sh b = 1 then co a else .alt (chR (sh a) (co a)) (chR (sh b) (co b))
  | .grp a k => .grp (chR (sh a) (co a)) k
  | .rep a mn mx lz => unrollR (co a) mn mx lz
/-- The bounds of the repeats. -/
def RxB : Rx → Prop
  | .cat a b => RxB a ∧ RxB b
  | .alt a b => RxB a ∧ RxB b
  | .grp a _ => RxB a
  | .rep a mn mx _ => RxB a ∧ (0 ≤ mx → (mn : Int) ≤ mx)
  | _ => True
section
variable {n : Nat} {f f' : Wf}
theorem must_reps_aux {s : ByteArray} {x : Rx} : ∀ m (r : Wf), Good s.size r → EqF s.size (mustF (wy s x) (m + 1) r) (catF (wy s (repsR x (m + 1))) r)
  | 0, r, _ => fun _ _ _ => rfl
  | m + 1, r, hr => by
    have hx := wy_good s x
    have h1 := must_reps_aux (x := x) m r hr
    -- move the last copy to the front
    have key : ∀ m, EqF s.size (catF (wy s x) (wy s (repsR x (m + 1)))) (wy s (repsR x (m + 2))) := by
      intro m
      induction m with
      | zero => exact fun _ _ _ => rfl
      | succ m ih =>
        refine (catF_congr hx (EqF.refl _ _) (show EqF s.size (wy s (repsR x (m + 2))) (catF (wy s (repsR x (m + 1))) (wy s x)) from EqF.refl _ _)).trans ?_
        refine (catF_assoc hx (wy_good s _) hx).symm.trans ?_
        exact catF_congr (hx.cat (wy_good s _)) ih (EqF.refl _ _)
    show EqF s.size (catF (wy s x) (mustF (wy s x) (m + 1) r)) _
    refine (catF_congr hx (EqF.refl _ _) h1).trans ?_
    refine (catF_assoc hx (wy_good s _) hr).symm.trans ?_
    exact catF_congr (hx.cat (wy_good s _)) (key m) (EqF.refl _ _)
theorem opt_wy {s : ByteArray} {x : Rx} (lz : Bool) : ∀ k, EqF s.size (optF (wy s x) lz (k + 1)) (wy s (optR x lz (k + 1)))
  | 0 => fun i c hi => by
    have hx := wy_good s x
    show lzJ lz (catF (wy s x) stopF i c) [(i, c)] = _
    rw [catF_stop_r hx i c hi]
    cases lz <;> rfl
  | k + 1 => fun i c hi => by
    have hx := wy_good s x
    show lzJ lz (catF (wy s x) (optF (wy s x) lz (k + 1)) i c) [(i, c)] = _
    rw [catF_congr hx (EqF.refl _ _) (opt_wy lz k) i c hi]
    cases lz <;> rfl
theorem star_wy {s : ByteArray} {x : Rx} (lz : Bool) : wy s (starR x lz) = starF s.size (wy s x) lz := by
  simp [starR, wy, mustF, restF]
/-- A repeat unrolled. -/
theorem unroll_wy {s : ByteArray} {x : Rx} {mn : Nat} {mx : Int} (lz : Bool) (h0 : mx ≠ 0) (h1 : 0 ≤ mx → (mn : Int) ≤ mx) : EqF s.size (wy s (.rep x mn mx lz)) (wy s (unrollR x mn mx lz)) := by
  have hx := wy_good s x
  unfold unrollR
  show EqF s.size (mustF (wy s x) mn (restF s.size (wy s x) lz mn mx)) _
  by_cases hm : mx < 0
  · rw [if_pos hm]
    have e : restF s.size (wy s x) lz mn mx = starF s.size (wy s x) lz := if_pos hm
    rw [e]
    by_cases hz : mn = 0
    · rw [if_pos hz, hz, star_wy]; exact EqF.refl _ _
    · rw [if_neg hz]
      obtain ⟨m, rfl⟩ : ∃ m, mn = m + 1 := ⟨mn - 1, by omega⟩
      refine (must_reps_aux m _ (hx.star lz)).trans ?_
      rw [← star_wy]
      exact EqF.refl _ _
  · rw [if_neg hm]
    have e : restF s.size (wy s x) lz mn mx = optF (wy s x) lz (mx.toNat - mn) := if_neg hm
    rw [e]
    by_cases hlt : (mn : Int) < mx
    · rw [if_pos hlt]
      obtain ⟨k, hk⟩ : ∃ k, mx.toNat - mn = k + 1 := ⟨mx.toNat - mn - 1, by omega⟩
      rw [hk]
      by_cases hz : mn = 0
      · rw [if_pos hz, hz]; exact opt_wy lz k
      · rw [if_neg hz]
        obtain ⟨m, rfl⟩ : ∃ m, mn = m + 1 := ⟨mn - 1, by omega⟩
        refine (must_reps_aux m _ (hx.opt lz _)).trans ?_
        exact catF_congr (wy_good s _) (EqF.refl _ _) (opt_wy lz k)
    · rw [if_neg hlt]
      obtain ⟨m, rfl⟩ : ∃ m, mn = m + 1 := ⟨mn - 1, by omega⟩
      rw [show mx.toNat - (m + 1) = 0 by omega]
      exact (must_reps_aux m _ Good.stop).trans (catF_stop_r (wy_good s _))
end
end Go.Proofs.Qxb6500283aGreat
