import Derived.Test.Qxb6500283aGreatS1
namespace Go.Proofs.Qxb6500283aGreat

/-! The core form: the nodes. -/
abbrev Run := Nat → List Nd
def joinW (mk : Nat → Nat → Nd) (f g : Run) : Run := fun b => f b ++ g (b + (f b).length) ++ [mk (b + (f b).length - 1) (b + (f b).length + (g (b + (f b).length)).length - 1)]
def repsW (f : Run) : Nat → Run
  | 0 => fun _ => []
  | 1 => f
  | k + 2 => joinW catNd (repsW f (k + 1)) f
def starW (f : Run) (lz : Bool) : Run := fun b => f b ++ [repNd (b + (f b).length - 1) 0 (-1) lz]
def optX (f o : Run) (k : Nat) : Run := if k = 0 then f else joinW catNd f o
def optC (lz : Bool) (x : Run) : Run := fun b =>
  if lz then leafNd 0 noP :: (x (b + 1) ++ [altNd b (b + 1 + (x (b + 1)).length - 1)])
  else x b ++ [leafNd 0 noP, altNd (b + (x b).length - 1) (b + (x b).length)]
def optW (f : Run) (lz : Bool) : Nat → Run
  | 0 => fun _ => []
  | k + 1 => optC lz (optX f (optW f lz k) k)
def unrollW (f : Run) (mn : Nat) (mx : Int) (lz : Bool) : Run :=
  if mx < 0 then (if mn = 0 then starW f lz else joinW catNd (repsW f mn) (starW f lz))
  else if (mn : Int) < mx then (if mn = 0 then optW f lz (mx.toNat - mn) else joinW catNd (repsW f mn) (optW f lz (mx.toNat - mn)))
  else repsW f mn
def chdW (z : SZ) (f : Run) : Run := fun b => if z.1 = 2 then f b else if z.1 = 0 then [leafNd 0 noP] else [leafNd 1 noP]
def grpW (c : Nat) (f : Run) : Run := fun b => f b ++ [grpNd (b + (f b).length - 1) c]
def bldB (ns : List Nd) (B : Nat → Run) (n : Nd) : Run :=
  if n.kind = 4 then (if (zAt (zL ns) n.a).1 = 0 then B n.b.toNat else if (zAt (zL ns) n.b).1 = 0 then B n.a.toNat else joinW catNd (B n.a.toNat) (B n.b.toNat))
  else if n.kind = 5 then (if (zAt (zL ns) n.a).1 = 1 then B n.b.toNat else if (zAt (zL ns) n.b).1 = 1 then B n.a.toNat else joinW altNd (chdW (zAt (zL ns) n.a) (B n.a.toNat)) (chdW (zAt (zL ns) n.b) (B n.b.toNat)))
  else if n.kind = 7 then grpW n.cap.toNat (chdW (zAt (zL ns) n.a) (B n.a.toNat))
  else if n.kind = 6 then unrollW (B n.a.toNat) n.mn.toNat n.mx n.lz
  else fun _ => [n]
def bldF (ns : List Nd) : Nat → Nat → Run
  | 0, _ => fun _ => []
  | f + 1, x => bldB ns (bldF ns f) (ns.getD x nd00)
where nd00 : Nd := ⟨0, 0, 0, 0, 0, 0, false, noP⟩
def bld (ns : List Nd) (x : Nat) : Run := bldF ns (x + 1) x
theorem bldB_congr {ns : List Nd} {f g : Nat → Run} {n : Nd} {k : Nat} (hn : okNd k n) (h : ∀ a, a < k → f a = g a) : bldB ns f n = bldB ns g n := by
  unfold bldB
  rcases hn with ⟨hk, _, _⟩ | ⟨hk, h1, h2, h3, h4⟩ | ⟨hk, h1, h2, _⟩
  · rcases hk with hk | hk | hk | hk <;> simp [hk]
  · rw [h n.a.toNat (by omega), h n.b.toNat (by omega)]
  · rw [h n.a.toNat (by omega)]
    rcases hk with hk | hk <;> simp [hk]
theorem bldF_fuel {ns : List Nd} (hwf : WF ns) : ∀ x, x < ns.length → ∀ f, x < f → bldF ns f x = bld ns x := by
  intro x
  induction x using Nat.strongRecOn with
  | ind x ih =>
    intro hx f hf
    cases f with
    | zero => omega
    | succ f =>
      unfold bld
      have hok := hwf x hx
      have hg : ns.getD x bldF.nd00 = ns[x] := by simp [hx]
      simp only [bldF, hg]
      exact bldB_congr hok fun a ha => by rw [ih a ha (by omega) f (by omega), ih a ha (by omega) x ha]
theorem bld_eq {ns : List Nd} (hwf : WF ns) {x : Nat} (hx : x < ns.length) : bld ns x = bldB ns (bld ns) ns[x] := by
  have hok := hwf x hx
  have hg : ns.getD x bldF.nd00 = ns[x] := by simp [hx]
  conv => lhs; unfold bld
  simp only [bldF, hg]
  exact bldB_congr hok fun a ha => bldF_fuel hwf a (by omega) x ha
/-! Runs may be moved. -/
def shiftI (o : Nat) (i : Int) : Int := if 0 ≤ i then i + o else i
def shift (o : Nat) (n : Nd) : Nd := ⟨n.kind, shiftI o n.a, shiftI o n.b, n.mn, n.mx, n.cap, n.lz, n.st⟩
structure Mv (f : Run) : Prop where
  mv : ∀ b o, f (b + o) = (f b).map (shift o)
  ne : 1 ≤ (f 0).length
theorem Mv.len {f : Run} (h : Mv f) (b : Nat) : (f b).length = (f 0).length := by
  have := h.mv 0 b
  rw [Nat.zero_add] at this
  rw [this, List.length_map]
theorem shift_leaf (o : Nat) (k : Int) (P : BSet) : shift o (leafNd k P) = leafNd k P := by simp [shift, leafNd, shiftI]
theorem shift_cat (o a b : Nat) : shift o (catNd a b) = catNd (a + o) (b + o) := by
  simp [shift, catNd, shiftI]
theorem shift_alt (o a b : Nat) : shift o (altNd a b) = altNd (a + o) (b + o) := by
  simp [shift, altNd, shiftI]
theorem shift_rep (o a : Nat) (lo hi : Int) (z : Bool) : shift o (repNd a lo hi z) = repNd (a + o) lo hi z := by
  simp [shift, repNd, shiftI]
theorem shift_grp (o a c : Nat) : shift o (grpNd a c) = grpNd (a + o) c := by
  simp [shift, grpNd, shiftI]
theorem joinW_len {mk : Nat → Nat → Nd} {f g : Run} (hf : Mv f) (hg : Mv g) (b : Nat) : (joinW mk f g b).length = (f 0).length + (g 0).length + 1 := by
  unfold joinW
  simp only [List.length_append, List.length_cons, List.length_nil, hf.len, hg.len]
theorem Mv.join {mk : Nat → Nat → Nd} (hmk : ∀ o a b, shift o (mk a b) = mk (a + o) (b + o)) {f g : Run} (hf : Mv f) (hg : Mv g) : Mv (joinW mk f g) := by
  refine ⟨fun b o => ?_, by rw [joinW_len hf hg]; omega⟩
  have h1 := hf.ne
  have h2 := hg.ne
  unfold joinW
  rw [hf.mv b o]
  simp only [List.length_map, List.map_append, List.map_cons, List.map_nil, hmk]
  have e1 : b + o + (f b).length = b + (f b).length + o := by omega
  rw [e1, hg.mv]
  simp only [List.length_map, hf.len, hg.len]
  have e2 : b + (f 0).length + o - 1 = b + (f 0).length - 1 + o := by omega
  have e3 : b + (f 0).length + o + (g 0).length - 1 = b + (f 0).length + (g 0).length - 1 + o := by omega
  rw [e2, e3]
theorem Mv.reps {f : Run} (hf : Mv f) : ∀ k, 1 ≤ k → Mv (repsW f k)
  | 1, _ => hf
  | k + 2, _ => (Mv.reps hf (k + 1) (by omega)).join shift_cat hf
theorem repsW_len {f : Run} (hf : Mv f) : ∀ k, 1 ≤ k → (repsW f k 0).length + 1 = k * ((f 0).length + 1)
  | 1, _ => by simp [repsW]
  | k + 2, _ => by
    have ih := repsW_len hf (k + 1) (by omega)
    show (joinW catNd (repsW f (k + 1)) f 0).length + 1 = _
    rw [joinW_len (Mv.reps hf (k + 1) (by omega)) hf]
    have : (k + 2) * ((f 0).length + 1) = (k + 1) * ((f 0).length + 1) + ((f 0).length + 1) := by rw [show k + 2 = (k + 1) + 1 by omega, Nat.succ_mul]
    omega
theorem Mv.star {f : Run} (hf : Mv f) (lz : Bool) : Mv (starW f lz) := by
  refine ⟨fun b o => ?_, by simp [starW]⟩
  have h1 := hf.ne
  unfold starW
  rw [hf.mv b o]
  simp only [List.length_map, List.map_append, List.map_cons, List.map_nil, shift_rep, hf.len]
  rw [show b + o + (f 0).length - 1 = b + (f 0).length - 1 + o by omega]
theorem starW_len {f : Run} (hf : Mv f) (lz : Bool) (b : Nat) : (starW f lz b).length = (f 0).length + 1 := by simp [starW, hf.len]
theorem Mv.optC {x : Run} (hx : Mv x) (lz : Bool) : Mv (optC lz x) := by
  have h1 := hx.ne
  refine ⟨fun b o => ?_, by unfold Go.Proofs.Qxb6500283aGreat.optC; split <;> simp⟩
  unfold Go.Proofs.Qxb6500283aGreat.optC
  cases lz with
  | true =>
    simp only [if_true, List.map_cons, List.map_append, List.map_nil, shift_leaf, shift_alt]
    rw [show b + o + 1 = b + 1 + o by omega, hx.mv]
    simp only [List.length_map, hx.len]
    rw [show b + 1 + o + (x 0).length - 1 = b + 1 + (x 0).length - 1 + o by omega]
  | false =>
    simp only [Bool.false_eq_true, if_false, List.map_cons, List.map_append, List.map_nil, shift_leaf, shift_alt]
    rw [hx.mv]
    simp only [List.length_map, hx.len]
    rw [show b + o + (x 0).length - 1 = b + (x 0).length - 1 + o by omega, show b + o + (x 0).length = b + (x 0).length + o by omega]
theorem optC_len {x : Run} (hx : Mv x) (lz : Bool) (b : Nat) : (optC lz x b).length = (x 0).length + 2 := by
  unfold optC
  split
  · simp [hx.len]
  · simp [hx.len]
theorem Mv.opt {f : Run} (hf : Mv f) (lz : Bool) : ∀ k, 1 ≤ k → Mv (optW f lz k)
  | 1, _ => by
    show Mv (Go.Proofs.Qxb6500283aGreat.optC lz (optX f _ 0))
    exact Mv.optC (by simp only [optX, if_true]; exact hf) lz
  | k + 2, _ => by
    show Mv (Go.Proofs.Qxb6500283aGreat.optC lz (optX f _ (k + 1)))
    refine Mv.optC ?_ lz
    unfold optX
    rw [if_neg (by omega)]
    exact hf.join shift_cat (Mv.opt hf lz (k + 1) (by omega))
theorem optW_len {f : Run} (hf : Mv f) (lz : Bool) : ∀ k, 1 ≤ k → (optW f lz k 0).length + 1 = k * ((f 0).length + 3)
  | 1, _ => by
    show (optC lz (optX f _ 0) 0).length + 1 = _
    have hm : Mv (optX f (optW f lz 0) 0) := by simp only [optX, if_true]; exact hf
    rw [optC_len hm]
    simp [optX]
  | k + 2, _ => by
    have ih := optW_len hf lz (k + 1) (by omega)
    have ho := Mv.opt hf lz (k + 1) (by omega)
    show (optC lz (optX f _ (k + 1)) 0).length + 1 = _
    have hm : Mv (optX f (optW f lz (k + 1)) (k + 1)) := by
      unfold optX
      rw [if_neg (by omega)]
      exact hf.join shift_cat ho
    rw [optC_len hm]
    have hl : (optX f (optW f lz (k + 1)) (k + 1) 0).length = (f 0).length + (optW f lz (k + 1) 0).length + 1 := by
      unfold optX
      rw [if_neg (by omega), joinW_len hf ho]
    rw [hl]
    have : (k + 2) * ((f 0).length + 3) = (k + 1) * ((f 0).length + 3) + ((f 0).length + 3) := by rw [show k + 2 = (k + 1) + 1 by omega, Nat.succ_mul]
    omega
theorem Mv.unroll {f : Run} (hf : Mv f) {mn : Nat} {mx : Int} (lz : Bool) (h0 : mx ≠ 0) (h1 : 0 ≤ mx → (mn : Int) ≤ mx) : Mv (unrollW f mn mx lz) := by
  unfold unrollW
  split
  · split
    · exact hf.star lz
    · exact (hf.reps mn (by omega)).join shift_cat (hf.star lz)
  · split
    · split
      · exact hf.opt lz _ (by omega)
      · exact (hf.reps mn (by omega)).join shift_cat (hf.opt lz _ (by omega))
    · exact hf.reps mn (by omega)
theorem unrollW_len {f : Run} (hf : Mv f) {mn : Nat} {mx : Int} (lz : Bool) (h0 : mx ≠ 0) (h1 : 0 ≤ mx → (mn : Int) ≤ mx) : (unrollW f mn mx lz 0).length = repN (f 0).length mn mx := by
  have hL := hf.ne
  unfold unrollW repN sumN tailN
  generalize hl : (f 0).length = L at *
  by_cases hx : mx < 0
  · rw [if_pos hx, if_pos hx]
    by_cases hm : mn = 0
    · subst hm
      rw [if_pos rfl, starW_len hf, hl]
      simp
    · rw [if_neg hm, joinW_len (hf.reps mn (by omega)) (hf.star lz), starW_len hf, hl]
      have := repsW_len hf mn (by omega)
      rw [hl] at this
      have e : mn * (L + 1) = mn * L + mn := by rw [Nat.mul_succ]
      have : 1 ≤ mn * L := Nat.mul_pos (by omega) hL
      rw [if_pos (show (0 : Int) < mn by omega)]
      simp only [Int.toNat_natCast]
      generalize mn * L = u at *
      split <;> omega
  · rw [if_neg hx, if_neg hx]
    by_cases hlt : (mn : Int) < mx
    · rw [if_pos hlt, if_pos hlt]
      have ho := optW_len hf lz (mx.toNat - mn) (by omega)
      rw [hl] at ho
      rw [show (mx - (mn : Int)).toNat = mx.toNat - mn by omega]
      have hge : 1 * (L + 3) ≤ (mx.toNat - mn) * (L + 3) := Nat.mul_le_mul_right _ (by omega)
      by_cases hm : mn = 0
      · subst hm
        rw [if_pos rfl, if_neg (by simp)]
        simp only [Nat.sub_zero] at ho hge ⊢
        generalize mx.toNat * (L + 3) = u at *
        simp
        omega
      · rw [if_neg hm, joinW_len (hf.reps mn (by omega)) (hf.opt lz _ (by omega))]
        have := repsW_len hf mn (by omega)
        rw [hl] at this
        have e : mn * (L + 1) = mn * L + mn := by rw [Nat.mul_succ]
        have : 1 ≤ mn * L := Nat.mul_pos (by omega) hL
        rw [if_pos (show (0 : Int) < mn by omega)]
        simp only [Int.toNat_natCast]
        generalize mn * L = u at *
        generalize (mx.toNat - mn) * (L + 3) = v at *
        split <;> omega
    · rw [if_neg hlt, if_neg hlt]
      have := repsW_len hf mn (by omega)
      rw [hl] at this
      have e : mn * (L + 1) = mn * L + mn := by rw [Nat.mul_succ]
      have : 1 ≤ mn * L := Nat.mul_pos (by omega) hL
      rw [if_pos (show (0 : Int) < mn by omega)]
      simp only [Int.toNat_natCast]
      generalize mn * L = u at *
      simp
      omega
end Go.Proofs.Qxb6500283aGreat
