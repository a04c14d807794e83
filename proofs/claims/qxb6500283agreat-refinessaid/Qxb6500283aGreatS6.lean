import Derived.Test.Qxb6500283aGreatS5
namespace Go.Proofs.Qxb6500283aGreat

/-! Options: laid downward, closed upward. -/
def segW (f : Run) (lz : Bool) : Run := fun b => if lz then leafNd 0 noP :: f (b + 1) else f b
def segN (f : Run) (lz : Bool) : Nat := (f 0).length + (if lz then 1 else 0)
def segsW (f : Run) (lz : Bool) : Nat → Run
  | 0 => fun _ => []
  | c + 1 => fun b => segsW f lz c b ++ segW f lz (b + c * segN f lz)
section
variable {f : Run} (hf : Mv f) (lz : Bool)
include hf
theorem segW_len (b : Nat) : (segW f lz b).length = segN f lz := by
  unfold segW segN
  cases lz <;> simp [hf.len]
theorem segsW_len : ∀ c b, (segsW f lz c b).length = c * segN f lz
  | 0, _ => by simp [segsW]
  | c + 1, b => by
    show (segsW f lz c b ++ segW f lz (b + c * segN f lz)).length = _
    rw [List.length_append, segsW_len c b, segW_len hf, Nat.succ_mul]
theorem optW_len' {k : Nat} (hk : 1 ≤ k) (b : Nat) : (optW f lz k b).length = (optW f lz k 0).length := (Mv.opt hf lz k hk).len b
/-- The innermost option closes. -/
theorem optW_one (b : Nat) : optW f lz 1 b = segW f lz b ++ (if lz then [altNd b (b + segN f lz - 1)] else [leafNd 0 noP, altNd (b + segN f lz - 1) (b + segN f lz)]) := by
  show optC lz (optX f _ 0) b = _
  unfold optC optX segW segN
  simp only [if_true]
  have h1 := hf.ne
  cases lz with
  | true =>
    simp only [if_true, List.cons_append, hf.len]
    rw [show b + 1 + (f 0).length - 1 = b + ((f 0).length + 1) - 1 by omega]
  | false => simp [hf.len]
/-- The next one closes over it. -/
theorem optW_more {k : Nat} (hk : 1 ≤ k) (b : Nat) : optW f lz (k + 1) b = segW f lz b ++ optW f lz k (b + segN f lz) ++ [catNd (b + segN f lz - 1) (b + segN f lz + (optW f lz k 0).length - 1)] ++
    (if lz then [altNd b (b + segN f lz + (optW f lz k 0).length)] else [leafNd 0 noP, altNd (b + segN f lz + (optW f lz k 0).length) (b + segN f lz + (optW f lz k 0).length + 1)]) := by
  have ho := Mv.opt hf lz k hk
  have h1 := hf.ne
  have h2 := ho.ne
  have e : optX f (optW f lz k) k = joinW catNd f (optW f lz k) := by unfold optX; rw [if_neg (by omega)]
  show optC lz (optX f (optW f lz k) k) b = _
  rw [e]
  unfold optC joinW segW segN
  cases lz with
  | true =>
    simp only [if_true, hf.len, List.length_append, List.length_cons, List.length_nil]
    rw [show b + 1 + (f 0).length = b + ((f 0).length + 1) by omega]
    simp only [ho.len]
    simp only [List.cons_append, List.append_assoc]
    rw [show b + 1 + ((f 0).length + (optW f true k 0).length + (0 + 1)) - 1 = b + ((f 0).length + 1) + (optW f true k 0).length by omega]
  | false =>
    simp only [Bool.false_eq_true, if_false, hf.len, List.length_append, List.length_cons, List.length_nil, Nat.add_zero]
    simp only [ho.len]
    simp only [List.append_assoc]
    rw [show b + ((f 0).length + (optW f false k 0).length + (0 + 1)) - 1 = b + (f 0).length + (optW f false k 0).length by omega, show b + ((f 0).length + (optW f false k 0).length + (0 + 1)) = b + (f 0).length + (optW f false k 0).length + 1 by omega]
end
/-! The indices of a run. -/
def Bd (f : Run) : Prop := ∀ b, ∀ n ∈ f b, n.a < (b : Int) + (f 0).length ∧ n.b < (b : Int) + (f 0).length
theorem Bd.one {n : Nd} (h : n.a < 1 ∧ n.b < 1) : Bd (fun _ => [n]) := fun b m hm => by
  rw [List.mem_singleton.1 hm]
  simp only [List.length_cons, List.length_nil]
  omega
theorem Bd.join {mk : Nat → Nat → Nd} (hmk : ∀ a b, (mk a b).a = a ∧ (mk a b).b = b) {f g : Run} (hf : Mv f) (hg : Mv g) (bf : Bd f) (bg : Bd g) : Bd (joinW mk f g) := fun b n hn => by
  rw [joinW_len hf hg]
  have h1 := hf.ne
  have h2 := hg.ne
  unfold joinW at hn
  simp only [hf.len, hg.len] at hn
  rcases List.mem_append.1 hn with hn | hn
  · rcases List.mem_append.1 hn with hn | hn
    · have := bf b n hn; omega
    · have := bg _ n hn; omega
  · rw [List.mem_singleton.1 hn, (hmk _ _).1, (hmk _ _).2]
    omega
theorem catNd_ab (a b : Nat) : (catNd a b).a = a ∧ (catNd a b).b = b := ⟨rfl, rfl⟩
theorem altNd_ab (a b : Nat) : (altNd a b).a = a ∧ (altNd a b).b = b := ⟨rfl, rfl⟩
theorem Bd.reps {f : Run} (hf : Mv f) (bf : Bd f) : ∀ k, 1 ≤ k → Bd (repsW f k)
  | 1, _ => bf
  | k + 2, _ => Bd.join catNd_ab (hf.reps (k + 1) (by omega)) hf (Bd.reps hf bf (k + 1) (by omega)) bf
theorem Bd.star {f : Run} (hf : Mv f) (bf : Bd f) (lz : Bool) : Bd (starW f lz) := fun b n hn => by
  rw [starW_len hf]
  have h1 := hf.ne
  unfold starW at hn
  simp only [hf.len] at hn
  rcases List.mem_append.1 hn with hn | hn
  · have := bf b n hn; omega
  · rw [List.mem_singleton.1 hn]
    simp only [repNd]
    omega
theorem Bd.optC {x : Run} (hx : Mv x) (bx : Bd x) (lz : Bool) : Bd (optC lz x) := fun b n hn => by
  rw [optC_len hx]
  have h1 := hx.ne
  unfold Go.Proofs.Qxb6500283aGreat.optC at hn
  simp only [hx.len] at hn
  split at hn
  · rcases List.mem_cons.1 hn with rfl | hn
    · simp only [leafNd]; omega
    · rcases List.mem_append.1 hn with hn | hn
      · have := bx _ n hn; omega
      · rw [List.mem_singleton.1 hn]
        simp only [altNd]
        omega
  · rcases List.mem_append.1 hn with hn | hn
    · have := bx _ n hn; omega
    · rcases List.mem_cons.1 hn with rfl | hn
      · simp only [leafNd]; omega
      · rw [List.mem_singleton.1 hn]
        simp only [altNd]
        omega
theorem Bd.opt {f : Run} (hf : Mv f) (bf : Bd f) (lz : Bool) : ∀ k, 1 ≤ k → Bd (optW f lz k)
  | 1, _ => by
    show Bd (Go.Proofs.Qxb6500283aGreat.optC lz (optX f _ 0))
    exact Bd.optC (by simp only [optX, if_true]; exact hf) (by simp only [optX, if_true]; exact bf) lz
  | k + 2, _ => by
    show Bd (Go.Proofs.Qxb6500283aGreat.optC lz (optX f _ (k + 1)))
    have ho := Mv.opt hf lz (k + 1) (by omega)
    unfold optX
    rw [if_neg (by omega)]
    exact Bd.optC (hf.join shift_cat ho) (Bd.join catNd_ab hf ho bf (Bd.opt hf bf lz (k + 1) (by omega))) lz
theorem Bd.unroll {f : Run} (hf : Mv f) (bf : Bd f) {mn : Nat} {mx : Int} (lz : Bool) (h0 : mx ≠ 0) (h1 : 0 ≤ mx → (mn : Int) ≤ mx) : Bd (unrollW f mn mx lz) := by
  unfold unrollW
  split
  · split
    · exact bf.star hf lz
    · exact Bd.join catNd_ab (hf.reps mn (by omega)) (hf.star lz) (bf.reps hf mn (by omega)) (bf.star hf lz)
  · split
    · split
      · exact bf.opt hf lz _ (by omega)
      · exact Bd.join catNd_ab (hf.reps mn (by omega)) (hf.opt lz _ (by omega)) (bf.reps hf mn (by omega)) (bf.opt hf lz _ (by omega))
    · exact bf.reps hf mn (by omega)
theorem bld_bd {ns : List Nd} (hwf : WF ns) (hrb : ∀ k (h : k < ns.length), RB ns[k]) : ∀ x, x < ns.length → (zz ns x).1 = 2 → Bd (bld ns x) := by
  intro x
  induction x using Nat.strongRecOn with
  | ind x ih =>
    intro hx hw
    have hchd : ∀ a, a < x → Bd (chdW (zz ns a) (bld ns a)) := fun a ha => by
      by_cases h2 : (zz ns a).1 = 2
      · have e : chdW (zz ns a) (bld ns a) = bld ns a := by funext b; simp [chdW, h2]
        rw [e]; exact ih a ha (by omega) h2
      · by_cases h0 : (zz ns a).1 = 0
        · have e : chdW (zz ns a) (bld ns a) = fun _ => [leafNd 0 noP] := by funext b; simp [chdW, h0]
          rw [e]; exact Bd.one (by simp [leafNd])
        · have e : chdW (zz ns a) (bld ns a) = fun _ => [leafNd 1 noP] := by funext b; simp [chdW, h0, h2]
          rw [e]; exact Bd.one (by simp [leafNd])
    have hok := hwf x hx
    rcases hok with ⟨hk, ha, hb1⟩ | ⟨hk, h1, h2, h3, h4⟩ | ⟨hk, h1, h2, h3⟩
    · have hbn : bld ns x = fun _ => [ns[x]] := by
        rw [bld_eq hwf hx]; unfold bldB; rcases hk with hk | hk | hk | hk <;> simp [hk]
      rw [hbn]
      exact Bd.one (by omega)
    · have ca := core_main hwf hrb ns[x].a.toNat (by omega)
      have cb := core_main hwf hrb ns[x].b.toNat (by omega)
      have sa := ca.ok.sh
      have sb := cb.ok.sh
      rcases hk with hk | hk
      · rw [cat_shape hwf hx hk] at hw
        rw [cat_bld hwf hx hk]
        unfold catZ at hw
        split at hw
        · cases hw
        · split at hw
          · rename_i h0; rw [if_pos h0]; exact ih _ (by omega) (by omega) hw
          · rename_i h0
            rw [if_neg h0]
            split
            · exact ih _ (by omega) (by omega) (by omega)
            · exact Bd.join catNd_ab (ca.mv (by omega)) (cb.mv (by omega)) (ih _ (by omega) (by omega) (by omega)) (ih _ (by omega) (by omega) (by omega))
      · rw [alt_shape hwf hx hk] at hw
        rw [alt_bld hwf hx hk]
        unfold altZ at hw
        split at hw
        · rename_i h0; rw [if_pos h0]; exact ih _ (by omega) (by omega) hw
        · rename_i h0
          rw [if_neg h0]
          split at hw
          · rename_i h00; rw [if_pos h00]; exact ih _ (by omega) (by omega) hw
          · rename_i h00
            rw [if_neg h00]
            exact Bd.join altNd_ab ca.chd.1 cb.chd.1 (hchd _ (by omega)) (hchd _ (by omega))
    · have ca := core_main hwf hrb ns[x].a.toNat (by omega)
      rcases hk with hk | hk
      · have hwr := whole_rep hwf hx hk hw
        obtain ⟨r1, r2, r3, r4, r5⟩ := hrb x hx hk
        have hb : bld ns x = unrollW (bld ns ns[x].a.toNat) ns[x].mn.toNat ns[x].mx ns[x].lz := by
          rw [bld_eq hwf hx]; unfold bldB; simp [hk]
        rw [hb]
        exact Bd.unroll (ca.mv hwr.1) (ih _ (by omega) (by omega) hwr.1) _ hwr.2 (fun h => by have := r5 h; omega)
      · have hb : bld ns x = grpW ns[x].cap.toNat (chdW (zz ns ns[x].a.toNat) (bld ns ns[x].a.toNat)) := by
          rw [bld_eq hwf hx]; unfold bldB; simp [hk]; rfl
        rw [hb]
        intro b n hn
        have hm := ca.chd.1
        have hne := hm.ne
        have hl : (grpW ns[x].cap.toNat (chdW (zz ns ns[x].a.toNat) (bld ns ns[x].a.toNat)) 0).length = (chdW (zz ns ns[x].a.toNat) (bld ns ns[x].a.toNat) 0).length + 1 := by simp [grpW]
        rw [hl]
        unfold grpW at hn
        simp only [hm.len] at hn
        rcases List.mem_append.1 hn with hn | hn
        · have := hchd _ (by omega) b n hn; omega
        · rw [List.mem_singleton.1 hn]
          simp only [grpNd]
          omega
end Go.Proofs.Qxb6500283aGreat
