import Derived.Test.Qxb6500283aGreatS2
import Derived.Test.Qxb6500283aGreatSyn4
namespace Go.Proofs.Qxb6500283aGreat

/-- A repeat's bounds. -/
def RB (n : Nd) : Prop := n.kind = 6 → 0 ≤ n.mn ∧ n.mn ≤ 3 ∧ -1 ≤ n.mx ∧ n.mx ≤ 3 ∧ (0 ≤ n.mx → n.mn ≤ n.mx)
theorem numF_ge (p : ByteArray) : ∀ f i v, -1 ≤ v → -1 ≤ (numF p f i v).1
  | 0, _, _, h => h
  | f + 1, i, v, h => by
    unfold numF
    split
    · refine numF_ge p f _ _ ?_
      rename_i hd
      simp [digB] at hd
      unfold clip
      split
      · omega
      · split <;> omega
    · exact h
theorem brace_hi {p : ByteArray} {i : Nat} {lo hi : Int} {j : Nat} (h : brace p i = some (lo, hi, j)) : -1 ≤ hi ∧ (0 ≤ hi → lo ≤ hi) := by
  unfold brace at h
  simp only at h
  split at h
  · rename_i hok
    simp only [Option.some.injEq, Prod.mk.injEq] at h
    obtain ⟨h1, h2, _⟩ := h
    simp only [braceOk, Bool.and_eq_true, Bool.not_eq_true', decide_eq_false_iff_not] at hok
    have hge : -1 ≤ (hiOf p (num p (i + 1)).1 (num p (i + 1)).2).1 := by
      unfold hiOf
      split
      · exact numF_ge p _ _ _ (by omega)
      · exact numF_ge p _ _ _ (by omega)
    rw [h2] at hge hok
    rw [h1] at hok
    refine ⟨hge, fun h0 => ?_⟩
    have h5 := hok.2
    simp at h5
    exact h5 h0
  · cases h
theorem count_hi {p : ByteArray} {i : Nat} {lo hi : Int} {j : Nat} (h : count p i = some (lo, hi, j)) : -1 ≤ hi ∧ (0 ≤ hi → lo ≤ hi) := by
  unfold count at h
  split at h
  · cases h; exact ⟨by omega, by omega⟩
  split at h
  · cases h; exact ⟨by omega, by omega⟩
  split at h
  · cases h; exact ⟨by omega, by omega⟩
  exact brace_hi h
/-! Repeats' bounds. -/
def AllB (ns : List Nd) : Prop := ∀ n ∈ ns, RB n
def AltB (A : Sg → Res → Prop) : Prop := ∀ s x s', A s (.ok (x, s')) → AllB s.ns → AllB s'.ns
theorem addS_B {s s' : Sg} {n : Nd} {y : Nat} (h : addS s n = .ok (y, s')) (hs : AllB s.ns) (hn : RB n) : AllB s'.ns := by
  rw [(addS_grow h).2.2.1]
  intro m hm
  rcases List.mem_append.1 hm with h1 | h1
  · exact hs m h1
  · rw [List.mem_singleton.1 h1]; exact hn
theorem RB.of {n : Nd} (h : n.kind ≠ 6) : RB n := fun e => absurd e h
theorem GroupR.rb {p : ByteArray} {d : Nat} {A : Sg → Res → Prop} (hA : AltB A) {s : Sg} {r : Res} (h : GroupR p d A s r) : ∀ x s', r = .ok (x, s') → AllB s.ns → AllB s'.ns := by
  intro x s' e hs
  cases h with
  | deep => cases e
  | many => cases e
  | err => cases e
  | open_ => cases e
  | shut _ ho ha _ =>
    have h1 := openS_ns ho
    have h2 := hA _ _ _ ha (by rw [h1]; exact hs)
    unfold shutS at e
    split at e
    · cases e; exact h2
    · exact addS_B e h2 (RB.of (by simp [grpNd]))
theorem AtomR.rb {p : ByteArray} {d : Nat} {A : Sg → Res → Prop} (hA : AltB A) {s : Sg} {r : Res} (h : AtomR p d A s r) : ∀ x s', r = .ok (x, s') → AllB s.ns → AllB s'.ns := by
  intro x s' e hs
  cases h with
  | group _ hg => exact hg.rb hA _ _ e hs
  | sign => cases e
  | leafE => cases e
  | leaf _ _ hl =>
    refine addS_B e hs (RB.of ?_)
    cases hl <;> simp [leafNd]
theorem RepL.rb {p : ByteArray} {x : Nat} {s : Sg} {r : Res} (h : RepL p x s r) : ∀ y s', r = .ok (y, s') → AllB s.ns → AllB s'.ns := by
  induction h with
  | done => intro y s' e hs; cases e; exact hs
  | bad => intro y s' e; cases e
  | loop => intro y s' e; cases e
  | big => intro y s' e; cases e
  | more hi _ hc _ ha _ ih =>
    intro y s' e hs
    have h1 := count_le hi hc
    have h2 := count_hi hc
    exact ih _ _ e (addS_B ha hs (fun _ => ⟨h1.2.2.1, h1.2.2.2.1, h2.1, h1.2.2.2.2, h2.2⟩))
theorem RepR.rb {p : ByteArray} {d : Nat} {A : Sg → Res → Prop} (hA : AltB A) {s : Sg} {r : Res} (h : RepR p d A s r) : ∀ x s', r = .ok (x, s') → AllB s.ns → AllB s'.ns := by
  intro x s' e hs
  cases h with
  | err => cases e
  | ok ha hl => exact hl.rb _ _ e (ha.rb hA _ _ rfl hs)
theorem CatL.rb {p : ByteArray} {d : Nat} {A : Sg → Res → Prop} (hA : AltB A) {l : Option Nat} {s : Sg} {r : Res} (h : CatL p d A l s r) : ∀ x s', r = .ok (x, s') → AllB s.ns → AllB s'.ns := by
  induction h with
  | stop => intro y s' e hs; cases e; exact hs
  | empty => intro y s' e hs; exact addS_B e hs (RB.of (by simp [leafNd]))
  | err => intro y s' e; cases e
  | big => intro y s' e; cases e
  | more _ hr hj _ ih =>
    intro y s' e hs
    have h1 := hr.rb hA _ _ rfl hs
    refine ih _ _ e ?_
    unfold joinN at hj
    split at hj
    · cases hj; exact h1
    · exact addS_B hj h1 (RB.of (by simp [catNd]))
theorem AltL.rb {p : ByteArray} {d : Nat} {A : Sg → Res → Prop} (hA : AltB A) {l : Nat} {s : Sg} {r : Res} (h : AltL p d A l s r) : ∀ x s', r = .ok (x, s') → AllB s.ns → AllB s'.ns := by
  induction h with
  | stop => intro y s' e hs; cases e; exact hs
  | err => intro y s' e; cases e
  | big => intro y s' e; cases e
  | more _ hc ha _ ih =>
    intro y s' e hs
    exact ih _ _ e (addS_B ha (hc.rb hA _ _ rfl hs) (RB.of (by simp [altNd])))
theorem AltR.rb {p : ByteArray} {d : Nat} {A : Sg → Res → Prop} (hA : AltB A) : AltB (AltR p d A) := by
  intro s x s' h hs
  cases h with
  | ok hc hl => exact hl.rb hA _ _ rfl (hc.rb hA _ _ rfl hs)
theorem AltD.rb (p : ByteArray) : ∀ k, AltB (AltD p k)
  | 0 => AltR.rb (fun _ _ _ h => h.elim)
  | k + 1 => AltR.rb (AltD.rb p k)
theorem ModelR.rb {p : ByteArray} {ns : List Nd} {x g : Nat} (h : ModelR p (.ok (ns, x, g))) : ∀ k (h : k < ns.length), RB ns[k] := by
  cases h with
  | ok ha _ =>
    have h1 := AltD.rb p 5 _ _ _ ha (fun n hn => by cases hn)
    exact fun k hk => h1 _ (List.getElem_mem hk)

/-! The core form's runs have the sizes that were counted. -/
theorem lid_add (a b : Nat) : lidN (lidN a + lidN b + 1) = lidN (a + b + 1) := by
  unfold lidN
  repeat' split
  all_goals omega
theorem lid_suc (a : Nat) : lidN (lidN a + 1) = lidN (a + 1) := by
  unfold lidN
  repeat' split
  all_goals omega
theorem repN_ge {c : Nat} {mn mx : Int} (h0 : 0 ≤ mn) (h2 : mx ≠ 0) (h3 : 0 ≤ mx → mn ≤ mx) : c ≤ repN c mn mx := by
  unfold repN sumN tailN
  by_cases hm : 0 < mn
  · have : 1 * c ≤ mn.toNat * c := Nat.mul_le_mul_right _ (by omega)
    rw [if_pos hm]
    generalize (if mx < 0 then c + 1 else if mn < mx then (mx - mn).toNat * (c + 3) - 1 else 0) = t
    generalize mn.toNat * c = u at *
    split <;> omega
  · by_cases hx : mx < 0
    · simp [hm, hx]
    · have hlt : mn < mx := by omega
      have : 1 * (c + 3) ≤ (mx - mn).toNat * (c + 3) := Nat.mul_le_mul_right _ (by omega)
      simp only [hm, hx, hlt, if_false, if_true]
      generalize (mx - mn).toNat * (c + 3) = u at *
      split <;> omega
theorem lid_rep {c : Nat} {mn mx : Int} (h0 : 0 ≤ mn) (h2 : mx ≠ 0) (h3 : 0 ≤ mx → mn ≤ mx) : lidN (repN (lidN c) mn mx) = lidN (repN c mn mx) := by
  by_cases hc : c ≤ 31
  · rw [show lidN c = c by unfold lidN; rw [if_neg (by omega)]]
  · have h1 := repN_ge (c := c) h0 h2 h3
    have h2 := repN_ge (c := lidN c) h0 h2 h3
    rw [show lidN c = 32 by unfold lidN; rw [if_pos (by omega)]] at h2 ⊢
    unfold lidN
    rw [if_pos (by omega), if_pos (by omega)]
theorem Mv.one (n : Nd) (h : ∀ o, shift o n = n) : Mv (fun _ => [n]) := ⟨fun b o => by simp [h], by simp⟩
structure CoreOk (ns : List Nd) (x : Nat) : Prop where
  ok : OkZ (zz ns x)
  mv : (zz ns x).1 = 2 → Mv (bld ns x)
  len : (zz ns x).1 = 2 → (zz ns x).2 = lidN (bld ns x 0).length
theorem CoreOk.chd {ns : List Nd} {x : Nat} (h : CoreOk ns x) : Mv (chdW (zz ns x) (bld ns x)) ∧ (zz ns x).2 = lidN (chdW (zz ns x) (bld ns x) 0).length := by
  by_cases h2 : (zz ns x).1 = 2
  · have e : chdW (zz ns x) (bld ns x) = bld ns x := by funext b; simp [chdW, h2]
    rw [e]
    exact ⟨h.mv h2, h.len h2⟩
  · have h1 := h.ok.one h2
    by_cases h0 : (zz ns x).1 = 0
    · have e : chdW (zz ns x) (bld ns x) = fun _ => [leafNd 0 noP] := by funext b; simp [chdW, h0]
      rw [e, h1]
      exact ⟨Mv.one _ (fun o => shift_leaf o _ _), rfl⟩
    · have e : chdW (zz ns x) (bld ns x) = fun _ => [leafNd 1 noP] := by funext b; simp [chdW, h0, h2]
      rw [e, h1]
      exact ⟨Mv.one _ (fun o => shift_leaf o _ _), rfl⟩
theorem core_main {ns : List Nd} (hwf : WF ns) (hrb : ∀ k (h : k < ns.length), RB ns[k]) : ∀ x, x < ns.length → CoreOk ns x := by
  intro x
  induction x using Nat.strongRecOn with
  | ind x ih =>
    intro hx
    have hz := zz_eq hwf x hx
    have hb := bld_eq hwf hx
    have hok := hwf x hx
    have hr := hrb x hx
    have zat : ∀ a : Int, zAt (zL ns) a = zz ns a.toNat := fun a => rfl
    unfold zNd at hz
    unfold bldB at hb
    simp only [zat] at hz hb
    rcases hok with ⟨hk, ha, hb1⟩ | ⟨hk, h1, h2, h3, h4⟩ | ⟨hk, h1, h2, h3⟩
    · have hsh : ∀ o, shift o ns[x] = ns[x] := fun o => by
        cases hn : ns[x] with
        | mk kind a b mn mx cp lz st =>
          rw [hn] at ha hb1
          simp only at ha hb1
          simp [shift, shiftI, ha, hb1]
      have hbn : bld ns x = fun _ => [ns[x]] := by rw [hb]; rcases hk with hk | hk | hk | hk <;> simp [hk]
      have hz1 : OkZ (zz ns x) ∧ (zz ns x).2 = 1 := by
        rcases hk with hk | hk | hk | hk <;> simp [hk] at hz
        · rw [hz]; exact ⟨okZ_one 0 (by omega), rfl⟩
        · rw [hz]; split
          · exact ⟨okZ_one 1 (by omega), rfl⟩
          · exact ⟨okZ_one 2 (by omega), rfl⟩
        · rw [hz]; exact ⟨okZ_one 2 (by omega), rfl⟩
        · rw [hz]; exact ⟨okZ_one 2 (by omega), rfl⟩
      exact ⟨hz1.1, fun _ => by rw [hbn]; exact Mv.one _ hsh, fun _ => by rw [hbn, hz1.2]; rfl⟩
    · have ia := ih ns[x].a.toNat (by omega) (by omega)
      have ib := ih ns[x].b.toNat (by omega) (by omega)
      rcases hk with hk | hk
      · simp [hk] at hz hb
        generalize ns[x].a.toNat = a at *
        generalize ns[x].b.toNat = b at *
        have hokc := catZ_ok ia.ok ib.ok
        refine ⟨by rw [hz]; exact hokc, fun h2 => ?_, fun h2 => ?_⟩
        all_goals
          rw [hz] at h2
          unfold catZ at h2
        · rw [hb]
          have sa := ia.ok.sh
          have sb := ib.ok.sh
          split at h2
          · cases h2
          · split at h2
            · rename_i h0; rw [if_pos h0]; exact ib.mv h2
            · rename_i h0
              rw [if_neg h0]
              split
              · exact ia.mv (by omega)
              · exact (ia.mv (by omega)).join shift_cat (ib.mv (by omega))
        · rw [hz, hb]
          unfold catZ
          have sa := ia.ok.sh
          have sb := ib.ok.sh
          split at h2
          · cases h2
          · rename_i hn
            rw [if_neg hn]
            split at h2
            · rename_i h0
              rw [if_pos h0, if_pos h0]
              exact ib.len h2
            · rename_i h0
              rw [if_neg h0, if_neg h0]
              by_cases hb0 : (zz ns b).1 = 0
              · rw [if_pos hb0, if_pos hb0]
                exact ia.len (by omega)
              · rw [if_neg hb0, if_neg hb0]
                rw [joinW_len (ia.mv (by omega)) (ib.mv (by omega)), ia.len (by omega), ib.len (by omega), lid_add]
      · simp [hk] at hz hb
        generalize ns[x].a.toNat = a at *
        generalize ns[x].b.toNat = b at *
        have hoka := altZ_ok ia.ok ib.ok
        obtain ⟨ca, la⟩ := ia.chd
        obtain ⟨cb, lb⟩ := ib.chd
        refine ⟨by rw [hz]; exact hoka, fun h2 => ?_, fun h2 => ?_⟩
        all_goals
          rw [hz] at h2
          unfold altZ at h2
        · rw [hb]
          split at h2
          · rename_i h0; rw [if_pos h0]; exact ib.mv h2
          · rename_i h0
            rw [if_neg h0]
            split at h2
            · rename_i h00; rw [if_pos h00]; exact ia.mv h2
            · rename_i h00
              rw [if_neg h00]
              exact ca.join shift_alt cb
        · rw [hz, hb]
          unfold altZ
          split at h2
          · rename_i h0; rw [if_pos h0, if_pos h0]; exact ib.len h2
          · rename_i h0
            rw [if_neg h0, if_neg h0]
            split at h2
            · rename_i h00; rw [if_pos h00, if_pos h00]; exact ia.len h2
            · rename_i h00
              rw [if_neg h00, if_neg h00]
              split at h2
              · cases h2
              · rename_i h000
                rw [if_neg h000, joinW_len ca cb]
                show lidN ((zz ns a).2 + (zz ns b).2 + 1) = _
                rw [la, lb, lid_add]
    · have ia := ih ns[x].a.toNat (by omega) (by omega)
      rcases hk with hk | hk
      · obtain ⟨r1, r2, r3, r4, r5⟩ := hr hk
        simp [hk] at hz hb
        generalize ns[x].a.toNat = a at *
        have hokr := repZ_ok (mx := ns[x].mx) ia.ok r1 r5
        obtain ⟨mn, hmn⟩ : ∃ mn : Nat, ns[x].mn = mn := ⟨ns[x].mn.toNat, by omega⟩
        rw [hmn] at hz hb hokr r1 r2 r5
        simp only [Int.toNat_natCast] at hb
        refine ⟨by rw [hz]; exact hokr, fun h2 => ?_, fun h2 => ?_⟩
        all_goals
          rw [hz] at h2
          unfold repZ at h2
          split at h2
          · cases h2
          · rename_i hn1
            split at h2
            · cases h2
            · rename_i hn2
              have hz2 : (zz ns a).1 = 2 := by omega
              have hmx : ns[x].mx ≠ 0 := by omega
              first
              | (rw [hb]; exact (ia.mv hz2).unroll _ hmx r5)
              | (rw [hz, hb, unrollW_len (ia.mv hz2) _ hmx r5]
                 unfold repZ
                 rw [if_neg hn1, if_neg hn2]
                 show lidN (repN (zz ns a).2 mn ns[x].mx) = _
                 rw [ia.len hz2, lid_rep r1 hmx r5])
      · simp [hk] at hz hb
        generalize ns[x].a.toNat = a at *
        obtain ⟨ca, la⟩ := ia.chd
        have hlen : ∀ c, (grpW c (chdW (zz ns a) (bld ns a)) 0).length = (chdW (zz ns a) (bld ns a) 0).length + 1 := fun c => by simp [grpW]
        refine ⟨by rw [hz]; exact grpZ_ok, fun h2 => ?_, fun h2 => ?_⟩
        · rw [hb]
          refine ⟨fun b o => ?_, by rw [hlen]; omega⟩
          have hne := ca.ne
          unfold grpW
          rw [ca.mv b o]
          simp only [List.length_map, List.map_append, List.map_cons, List.map_nil, shift_grp, ca.len]
          rw [show b + o + (chdW (zz ns a) (bld ns a) 0).length - 1 = b + (chdW (zz ns a) (bld ns a) 0).length - 1 + o by omega]
        · rw [hb, hlen, hz]
          rw [hz] at h2
          unfold grpZ at h2 ⊢
          split at h2
          · cases h2
          · rename_i h0
            rw [if_neg h0]
            show lidN ((zz ns a).2 + 1) = _
            rw [la, lid_suc]
end Go.Proofs.Qxb6500283aGreat
