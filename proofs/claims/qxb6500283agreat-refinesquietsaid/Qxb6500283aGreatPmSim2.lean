import Derived.Test.Qxb6500283aGreatPmSim
namespace Go.Proofs.Qxb6500283aGreat
open Go Go.RowKit

def isLeaf (p : List In) (pc : Nat) : Bool := match p[pc]? with | none => false | some x => decide (x.op = 0 ∨ x.op = 6)
structure Rel (p : List In) (W : Nat) (s : PS) (S V : List (Nat × (Nat → Int))) : Prop where
  st : absSt s.k (s.f 261).toNat s.r = S
  vs : listOf s.f W = V.map Prod.fst
  nv : ∀ t ∈ V, Norm t.2
  row : ∀ idx (h : idx < V.length), isLeaf p V[idx].1 = true → ∀ j, j < 8 → s.g W (idx * 8 + j) = V[idx].2 j

theorem listOf_congr {f f' : Nat → Int} {W : Nat} (hn : f (W * 130 + 128) ≤ 64) (e : ∀ o, W * 130 ≤ o → o < W * 130 + 129 → f' o = f o) : listOf f' W = listOf f W := by
  unfold listOf
  rw [e _ (by omega) (by omega)]
  refine List.map_congr_left fun k hk => ?_
  simp only [List.mem_range] at hk
  rw [e _ (by omega) (by omega)]

theorem pushAbs {t : PS} {a b c : Int} (j : Nat) (h : t.f 261 = (j : Int)) : absSt (pushS t a b c).k ((pushS t a b c).f 261).toNat (pushS t a b c).r = if b ≠ -1 then absSt t.k j (upd t.r b.toNat c) else (a.toNat, nm t.r) :: absSt t.k j t.r := by
  rw [pushS_sp, h, show ((j : Int) + 1).toNat = j + 1 by omega]
  simp only [pushS, h, Int.toNat_natCast]
  exact absSt_push _ _ _ _ _ _
section
variable {p : List In} {str : ByteArray} {i W : Nat}
theorem Rel.turn (hp : OkProg p) (hW : W < 2) {s : PS} {S V : List (Nat × (Nat → Int))} (h : AInv p W s) (hpos : 0 < s.f 261) (hr : Rel p W s S V) :
    Rel p W (addTurn p str.size W i s) S V ∨ ∃ pc c S0, S = (pc, c) :: S0 ∧ ((vis V pc = true ∧ Rel p W (addTurn p str.size W i s) S0 V) ∨
      (vis V pc = false ∧ Rel p W (addTurn p str.size W i s) (esucc p str pc i c ++ S0) (V ++ [(pc, c)]))) := by
  have hm := hp.max
  have n0 := h.l.n0
  have n1 := h.l.n1
  obtain ⟨j, hj⟩ : ∃ j : Nat, s.f 261 = (j : Int) + 1 := ⟨(s.f 261 - 1).toNat, by omega⟩
  have hj' : (s.f 261 - 1).toNat = j := by omega
  have hfr := h.s.fr j (by omega)
  have hst := hr.st
  rw [show (s.f 261).toNat = j + 1 by omega] at hst
  have lf : ∀ o, W * 130 ≤ o → o < W * 130 + 129 → upd (upd s.f 265 (s.f 265 + 1)) 261 (s.f 261 - 1) o = s.f o := fun o h1 h2 => by
    simp [upd, show o ≠ 261 by omega, show o ≠ 265 by omega]
  have l1 : LInv (upd (upd s.f 265 (s.f 265 + 1)) 261 (s.f 261 - 1)) W p.length := h.l.congr hm lf
  have n128 : upd (upd s.f 265 (s.f 265 + 1)) 261 (s.f 261 - 1) (W * 130 + 128) = s.f (W * 130 + 128) := lf _ (by omega) (by omega)
  have sp1 : upd (upd s.f 265 (s.f 265 + 1)) 261 (s.f 261 - 1) 261 = j := by simp [upd]; omega
  have lo1 : listOf (upd (upd s.f 265 (s.f 265 + 1)) 261 (s.f 261 - 1)) W = V.map Prod.fst := by rw [listOf_congr (by omega) lf, hr.vs]
  unfold addTurn
  simp only [hj']
  by_cases hk : s.k (j * 3 + 1) ≠ -1
  · rw [if_pos hk]
    left
    simp only [absSt, if_pos hk] at hst
    exact ⟨by simp only [sp1, Int.toNat_natCast]; exact hst, lo1, hr.nv, hr.row⟩
  · rw [if_neg hk]
    right
    simp only [absSt, if_neg hk] at hst
    refine ⟨(s.k (j * 3)).toNat, nm s.r, absSt s.k j s.r, hst.symm, ?_⟩
    have hpc : (s.k (j * 3)).toNat < p.length := by unfold frOK at hfr; omega
    have hiff := hasF_iff l1 hm hpc
    rw [lo1] at hiff
    generalize hpcd : (s.k (j * 3)).toNat = pc at hpc hiff
    cases hh : hasF (upd (upd s.f 265 (s.f 265 + 1)) 261 (s.f 261 - 1)) W pc with
    | true =>
      left
      refine ⟨by unfold vis; exact decide_eq_true (hiff.1 hh), ?_⟩
      simp only [if_true]
      exact ⟨by simp only [sp1, Int.toNat_natCast], lo1, hr.nv, hr.row⟩
    | false =>
      right
      refine ⟨by unfold vis; exact decide_eq_false (fun h => by rw [hiff.2 h] at hh; cases hh), ?_⟩
      simp only [Bool.false_eq_true, if_false]
      have hn2 := n_lt l1 hm hpc hh
      rw [n128] at hn2
      have tl := listOf_put l1 hm hpc hh
      rw [lo1] at tl
      have t261 := putF_261 (upd (upd s.f 265 (s.f 265 + 1)) 261 (s.f 261 - 1)) W pc hW (by omega) (by rw [n128]; omega)
      rw [sp1] at t261
      have tn := putF_n (upd (upd s.f 265 (s.f 265 + 1)) 261 (s.f 261 - 1)) W pc
      rw [n128] at tn
      have hVn : V.length = (s.f (W * 130 + 128)).toNat := by
        have := congrArg List.length hr.vs
        rw [listOf_length, List.length_map] at this
        exact this.symm
      generalize hF : putF (upd (upd s.f 265 (s.f 265 + 1)) 261 (s.f 261 - 1)) W pc = F at tl t261 tn
      have pl : ∀ (t : PS) (a b c : Int), t.f (W * 130 + 128) ≤ 64 → listOf (pushS t a b c).f W = listOf t.f W := fun t a b c ht => listOf_congr ht fun o h1 h2 => pushS_f t a b c o (by omega)
      have nv' : ∀ t ∈ V ++ [(pc, nm s.r)], Norm t.2 := fun t ht => by
        rcases List.mem_append.1 ht with h1 | h1
        · exact hr.nv t h1
        · simp at h1; subst h1; exact nm_norm _
      have rowOld : ∀ (g' : Nat → Nat → Int), (∀ o, o < V.length * 8 → g' W o = s.g W o) → isLeaf p pc = false → ∀ idx (hi : idx < (V ++ [(pc, nm s.r)]).length), isLeaf p (V ++ [(pc, nm s.r)])[idx].1 = true → ∀ j, j < 8 → g' W (idx * 8 + j) = (V ++ [(pc, nm s.r)])[idx].2 j := by
        intro g' hg hl idx hi hlf q hq
        by_cases hlt : idx < V.length
        · rw [List.getElem_append_left hlt] at hlf ⊢
          rw [hg _ (by omega)]
          exact hr.row idx hlt hlf q hq
        · have : idx = V.length := by simp at hi; omega
          subst this
          simp at hlf
          rw [hl] at hlf; cases hlf
      have hx : p[pc]? = some p[pc] := by simp [hpc]
      have ho := hp.all pc hpc
      unfold okIn at ho
      have none_ : isLeaf p pc = false → esucc p str pc i (nm s.r) = [] → Rel p W { s with f := F } (esucc p str pc i (nm s.r) ++ absSt s.k j s.r) (V ++ [(pc, nm s.r)]) := by
        intro hl he
        exact ⟨by rw [he]; simp only [t261, Int.toNat_natCast, List.nil_append], by rw [tl]; simp, nv', rowOld s.g (fun _ _ => rfl) hl⟩
      have one : ∀ a : Int, isLeaf p pc = false → esucc p str pc i (nm s.r) = [(a.toNat, nm s.r)] → Rel p W (pushS { s with f := F } a (-1) 0) (esucc p str pc i (nm s.r) ++ absSt s.k j s.r) (V ++ [(pc, nm s.r)]) := by
        intro a hl he
        refine ⟨?_, by rw [pl _ _ _ _ (by simp only [tn]; omega), tl]; simp, nv', rowOld _ (fun _ _ => rfl) hl⟩
        rw [pushAbs (t := { s with f := F }) j t261, he]; simp
      unfold followS
      simp only [hx, hF]
      by_cases o2 : p[pc].op = 2
      · rw [if_pos o2]
        exact one p[pc].x (by simp [isLeaf, hx, o2]) (by simp [esucc, hx, o2])
      rw [if_neg o2]
      by_cases o1 : p[pc].op = 1
      · rw [if_pos o1]
        refine ⟨?_, ?_, nv', rowOld _ (fun _ _ => rfl) (by simp [isLeaf, hx, o1])⟩
        · rw [pushAbs (t := pushS { s with f := F } p[pc].y (-1) 0) (j + 1) (by rw [pushS_sp]; simp only [t261]; rfl)]
          have := pushAbs (t := { s with f := F }) (a := p[pc].y) (b := -1) (c := 0) j t261
          rw [pushS_sp] at this
          simp only [t261] at this
          rw [show ((j : Int) + 1).toNat = j + 1 by omega] at this
          rw [this]
          simp [esucc, hx, o1, pushS]
        · rw [pl _ _ _ _ (by rw [pushS_f _ _ _ _ _ (by omega)]; simp only [tn]; omega), pl _ _ _ _ (by simp only [tn]; omega), tl]; simp
      rw [if_neg o1]
      by_cases o3 : p[pc].op = 3
      · rw [if_pos o3]
        have hx3 : 2 ≤ p[pc].x ∧ p[pc].x < 8 := by omega
        refine ⟨?_, ?_, nv', rowOld _ (fun _ _ => rfl) (by simp [isLeaf, hx, o3])⟩
        · rw [pushAbs (t := { (pushS { s with f := F } 0 p[pc].x (s.r p[pc].x.toNat)) with r := upd (pushS { s with f := F } 0 p[pc].x (s.r p[pc].x.toNat)).r p[pc].x.toNat i }) (j + 1) (by simp only [pushS_sp, t261]; rfl)]
          have hk : (pushS { s with f := F } 0 p[pc].x (s.r p[pc].x.toNat)).k = pushK s.k j 0 p[pc].x (s.r p[pc].x.toNat) := by simp [pushS, t261]
          have hrr : (pushS { s with f := F } 0 p[pc].x (s.r p[pc].x.toNat)).r = s.r := rfl
          simp only [hk, hrr, absSt_push]
          rw [if_neg (by simp), if_pos (by omega), upd_back, nm_upd _ _ _ (by omega)]
          simp [esucc, hx, o3]
        · rw [pl _ _ _ _ (by simp only; rw [pushS_f _ _ _ _ _ (by omega)]; simp only [tn]; omega)]
          simp only
          rw [pl _ _ _ _ (by simp only [tn]; omega), tl]; simp
      rw [if_neg o3]
      by_cases o4 : p[pc].op = 4
      · rw [if_pos o4]
        by_cases hc : i = 0
        · rw [if_pos (by omega)]
          exact one (pc + 1) (by simp [isLeaf, hx, o4]) (by simp [esucc, hx, o4, hc])
        · rw [if_neg (by omega)]
          exact none_ (by simp [isLeaf, hx, o4]) (by simp [esucc, hx, o4, hc])
      rw [if_neg o4]
      by_cases o5 : p[pc].op = 5
      · rw [if_pos o5]
        by_cases hc : i = str.size
        · rw [if_pos (by omega)]
          exact one (pc + 1) (by simp [isLeaf, hx, o5]) (by simp [esucc, hx, o5, hc])
        · rw [if_neg (by omega)]
          exact none_ (by simp [isLeaf, hx, o5]) (by simp [esucc, hx, o5, hc])
      rw [if_neg o5]
      have he : esucc p str pc i (nm s.r) = [] := by
        have : p[pc].op = 0 ∨ p[pc].op = 6 := by omega
        rcases this with h6 | h6 <;> simp [esucc, hx, h6]
      refine ⟨by rw [he]; simp only [t261, Int.toNat_natCast, List.nil_append], by rw [tl]; simp, nv', ?_⟩
      intro idx hi hlf q hq
      simp only [updG, if_true, n128, ← hVn]
      by_cases hlt : idx < V.length
      · rw [List.getElem_append_left hlt] at hlf ⊢
        rw [cpy, if_neg (by omega)]
        exact hr.row idx hlt hlf q hq
      · have : idx = V.length := by simp at hi; omega
        subst this
        rw [cpy, if_pos (by omega)]
        simp [nm, hq]
end
end Go.Proofs.Qxb6500283aGreat
