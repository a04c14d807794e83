/- The model machine: leave, jump. -/
import Derived.Test.Qxb6500281aGreatVM5
namespace Go.Proofs.Qxb6500281aGreat
open Go Go.RowKit

section
variable {w w' w1 : World} {rn hm : Nat} {C : List Nat} {I : List Int} {V V' : Vs} {M M' : MS} {col col' : Nat → Nat} {P P' F : Nat → Prop} {cv iv ov fv : Value} {g : Nat → Value} {f : Fm} {r : List Fm}
theorem rC_fs (x : Value) : ∀ o, o < 12 → upd (rC hm cv iv ov fv V) 5 x o = rC hm cv iv ov x V o := fun o ho => by
  rcases lt12 ho with rfl | rfl | rfl | rfl | rfl | rfl | rfl | rfl | rfl | rfl | rfl | rfl <;> rfl
/-- The top frame goes. -/
theorem MR.popF (H : MR w rn hm C I V M col P cv iv ov fv g) (hf : V.fs = f :: r) {fb cap : Nat} (e : fv = .slice (some ⟨fb, 0, none⟩) (r.length + 1) cap) (k : Fr (fun c => c = rn) w w') (hb : Blk w' rn 12 (rC hm cv iv ov (.slice (some ⟨fb, 0, none⟩) r.length cap) V)) : MR w' rn hm C I { V with fs := r } M col P cv iv ov (.slice (some ⟨fb, 0, none⟩) r.length cap) g := by
  obtain ⟨OH, h1, h2⟩ := H.hp
  have hn : V.fs.length = r.length + 1 := by rw [hf]; rfl
  have z : ∀ {b n : Nat}, col b = n → n ≠ 0 → ¬ b = rn := fun h1 h2 e => h2 (by rw [← h1, e]; exact H.crn.1)
  have hfr := H.fr
  rw [hf] at hfr
  obtain ⟨b, c, q1, q2, q3⟩ := H.fsl hf
  rw [e] at q1
  cases q1
  have hfb := H.cfs fb ⟨_, _, e⟩
  refine ⟨hb.congr (fun _ _ => rfl), H.code.frame k (fun b hb => z (H.ccv b hb).1 (by omega)), H.inp.frame k (fun b hb => z (H.civ b hb).1 (by omega)), H.out.frame k (fun b hb => z (H.cov b hb).1 (by omega)), .inr ⟨fb, cap, rfl, by show r.length ≤ cap; omega, q3.frame k (z hfb.1 (by omega))⟩, ?_, ⟨OH, h1.frame k (fun c hc => z (h2 c hc).1 (by omega)), h2⟩, H.crn, fun b hb => by rw [isB_one hb]; exact hfb, H.ccv, H.civ, H.cov, fun i hi => H.clo i (by show i < V.fs.length; have : i < r.length := hi; omega), fun i hi => H.cop i (by show i < V.fs.length; have : i < r.length := hi; omega), fun c hc => Nat.lt_of_lt_of_le (H.lt c hc) k.size, H.cl, H.cb, H.il⟩
  exact hfr.2.frame _ k (fun i hi b hb => hb.elim (fun h => z (H.clo i (by omega) b h).1 (by omega)) (fun h => z (H.cop i (by omega) b h).1 (by omega)))
set_option maxRecDepth 100000 in
set_option maxHeartbeats 1000000 in
theorem leaveMF (H : MR w rn hm C I V M col P cv iv ov fv g) (hf : V.fs = f :: r) (h48 : r.length ≤ 48) : Calls Tryz.prog 93 #[.pointer (some ⟨rn, 0, none⟩)] w fun e w' => e = .returned (.tuple #[]) ∧ MZ w rn hm C I (leaveV V) M P w' := by
  have hT : ∀ (w0 : World) (n : Nat), w0 = w.drew → Calls Tryz.prog 85 #[.pointer (some ⟨rn, 0, none⟩)] w0 fun e w' => e = .returned (.int .i64 (r.length : Nat)) ∧ w' = w0 := fun w0 _ e => by
    subst e
    exact topMF (H.same ((Fr.refl _ w).drew)) hf h48
  have c5 := H.cl' (o := 5) (by omega)
  have c6 := H.cl' (o := 6) (by omega)
  simp only [rC] at c5 c6
  obtain ⟨fb, cap, efv, q1, q2, q3, p0, p1, p2, p3, p4, kl, ko⟩ := H.tops hf
  rw [efv] at c5
  have hlt := H.rlt
  have hz := H.blk.frozen
  have eV : leaveV V = { V with fs := r, pc := f.ret } := leaveV_c hf
  have HK : Hid _ := And.intro ((H.s_pc f.ret).same ((Fr.refl (fun _ => False) _).drew)) (And.intro (((Fr.refl (fun c => c = rn) w).setC rn 6 (.int .i64 (f.ret : Nat)) (fun _ => rfl)).drew) (And.intro efv (And.intro hf (And.intro eV (And.intro H.lt H.crn.2)))))
  have hfr : fb ≠ rn := fun e => by
    have h1 := (H.cfs fb ⟨_, _, efv⟩).1
    rw [e, H.crn.1] at h1
    cases h1
  obtain ⟨t, ht⟩ : ∃ t, t = r.length := ⟨_, rfl⟩
  rw [← ht] at c5 p0 q1 h48 hT
  have hti : (t : Int) < (t : Int) + 1 := by omega
  have Ht : Hid _ := ht
  clear H hf efv ko kl p1 p2 p3 p4 ht q3 eV
  go_enter Tryz.func93, Tryz.ntmps93
  go_wp2_with fail
  refine wp_region_tree (.run [0, 1, 2, 3, 5] (.fork 4 (.run [6, 7, 8, 9, 10, 11, 12] .fin) 6 (.run [4, 7, 8, 9, 10, 11, 12] .fin))) (by kernel_rfl) (by kernel_rfl) ?_
  simp only [wpTL, pick, List.filterMap_cons, List.filterMap_nil, List.getElem?_cons_zero, List.getElem?_cons_succ]
  go_wp2_with fail
  refine ⟨⟨?_, ?_⟩⟩
  · go_wp2_with fail
    refine ⟨?_⟩
    go_wp2_with fail
    refine (hT _ 0 rfl).mono ?_
    rintro v w1 ⟨rfl, rfl⟩
    go_wp2_with fail
    refine ⟨?_⟩
    refine ⟨by kernel_rfl, ?_⟩
    generalize hw2 : World.drew _ = w2
    have H2 : MR w2 rn hm C I { V with pc := f.ret } M col P cv iv ov fv g := by rw [← hw2]; exact HK.out.1
    have k2 : Fr (fun c => c = rn) w w2 := by rw [← hw2]; exact HK.out.2.1
    clear hw2 c5 c6 hlt hz p0 q2
    have d5 := H2.cl' (o := 5) (by omega)
    simp only [rC] at d5
    rw [HK.out.2.2.1] at d5
    have hlt := H2.rlt
    have hz := H2.blk.frozen
    have hB := (H2.blk.set 5 (.slice (some ⟨fb, 0, none⟩) r.length cap))
    rw [← Ht.out] at hB d5
    have H3 : Hid _ := And.intro H2 (And.intro k2 hB)
    clear H2 k2 hB
    go_wp2_with fail
    refine wp_region_text (by kernel_rfl) (by kernel_rfl) ?_
    go_wp2_with fail
    refine ⟨by kernel_rfl, ?_⟩
    go_wp2_with fail
    go_end0
    obtain ⟨H2, k2, hB⟩ := H3.out
    have k3 := (Fr.refl (fun c => c = rn) w2).setC rn 5 (.slice (some ⟨fb, 0, none⟩) t cap) (fun _ => rfl)
    rw [Ht.out] at hB k3
    have key := H2.popF (V := { V with pc := f.ret }) HK.out.2.2.2.1 HK.out.2.2.1 k3.drew (Blk.drew (hB.congr (rC_fs _)))
    refine ⟨rfl, ?_⟩
    rw [HK.out.2.2.2.2.1]
    have kk : Fr (fun c => c = rn) w _ := k2.trans k3.drew (fun _ _ h => h)
    rw [Ht.out]
    exact ⟨key.e.up (fun c hc => .inl hc) (gw_lt HK.out.2.2.2.2.2.1 kk.size), kk.mono (fun c _ e => by rw [e]; exact HK.out.2.2.2.2.2.2)⟩
  · go_wp2_with fail
    refine (hT _ 0 rfl).mono ?_
    rintro v w1 ⟨rfl, rfl⟩
    go_wp2_with fail
    refine ⟨?_⟩
    go_wp2_with fail
    refine ⟨?_⟩
    refine ⟨by kernel_rfl, ?_⟩
    generalize hw2 : World.drew _ = w2
    have H2 : MR w2 rn hm C I { V with pc := f.ret } M col P cv iv ov fv g := by rw [← hw2]; exact HK.out.1
    have k2 : Fr (fun c => c = rn) w w2 := by rw [← hw2]; exact HK.out.2.1
    clear hw2 c5 c6 hlt hz p0 q2
    have d5 := H2.cl' (o := 5) (by omega)
    simp only [rC] at d5
    rw [HK.out.2.2.1] at d5
    have hlt := H2.rlt
    have hz := H2.blk.frozen
    have hB := (H2.blk.set 5 (.slice (some ⟨fb, 0, none⟩) r.length cap))
    rw [← Ht.out] at hB d5
    have H3 : Hid _ := And.intro H2 (And.intro k2 hB)
    clear H2 k2 hB
    go_wp2_with fail
    refine wp_region_text (by kernel_rfl) (by kernel_rfl) ?_
    go_wp2_with fail
    refine ⟨by kernel_rfl, ?_⟩
    go_wp2_with fail
    go_end0
    obtain ⟨H2, k2, hB⟩ := H3.out
    have k3 := (Fr.refl (fun c => c = rn) w2).setC rn 5 (.slice (some ⟨fb, 0, none⟩) t cap) (fun _ => rfl)
    rw [Ht.out] at hB k3
    have key := H2.popF (V := { V with pc := f.ret }) HK.out.2.2.2.1 HK.out.2.2.1 k3.drew (Blk.drew (hB.congr (rC_fs _)))
    refine ⟨rfl, ?_⟩
    rw [HK.out.2.2.2.2.1]
    have kk : Fr (fun c => c = rn) w _ := k2.trans k3.drew (fun _ _ h => h)
    rw [Ht.out]
    exact ⟨key.e.up (fun c hc => .inl hc) (gw_lt HK.out.2.2.2.2.2.1 kk.size), kk.mono (fun c _ e => by rw [e]; exact HK.out.2.2.2.2.2.2)⟩
set_option maxRecDepth 100000 in
set_option maxHeartbeats 600000 in
theorem vjumpMF (H : MR w rn hm C I V M col P cv iv ov fv g) (hb : V.fuel ≤ 9223372036854775807) (at' a : Nat) : Calls Tryz.prog 92 #[.pointer (some ⟨rn, 0, none⟩), .int .i64 (at' : Nat), .int .i64 (a : Nat)] w fun e w' => e = .returned (.tuple #[]) ∧ MZ w rn hm C I (jumpV C V at' a) M P w' := by
  have c0 := H.cl' (o := 0) (by omega)
  have c6 := H.cl' (o := 6) (by omega)
  have c8 := H.cl' (o := 8) (by omega)
  simp only [rC] at c0 c6 c8
  have hlt := H.rlt
  have hz := H.blk.frozen
  have hcl := H.cl
  obtain ⟨ca, cc, ecv, hcc⟩ := H.code.sl
  rw [ecv] at c0
  have hS := spendMF H hb
  have HK : Hid _ := H
  have He : Hid _ := ecv
  clear H ecv
  unfold jumpV
  by_cases h1 : C.length ≤ a
  · rw [if_pos h1]
    have y1 : decide ((a : Int) ≥ C.length) = true := decide_eq_true (by omega)
    have y2 : decide ((C.length : Int) ≤ a) = true := decide_eq_true (by omega)
    have y3 : decide (C.length ≤ a) = true := decide_eq_true h1
    go_enter Tryz.func92, Tryz.ntmps92
    go_wp2_with fail
    exact bodyPost_ret (v := .tuple #[]) (by simp [results, Tryz.results92, go_sem]) rfl ⟨rfl, HK.out.zs (HK.out.s_en 24) ((Fr.refl _ _).setC rn 8 _ (fun _ => rfl))⟩
  · rw [if_neg h1]
    have y1 : decide ((a : Int) ≥ C.length) = false := decide_eq_false (by omega)
    have y2 : decide ((C.length : Int) ≤ a) = false := decide_eq_false (by omega)
    have y3 : decide (C.length ≤ a) = false := decide_eq_false h1
    by_cases h2 : a ≤ at'
    · rw [if_pos h2]
      have y4 : decide (a ≤ at') = true := decide_eq_true h2
      have y5 : decide ((a : Int) ≤ at') = true := decide_eq_true (by omega)
      obtain ⟨X, hX⟩ : ∃ X : Vs, X = (if V.fuel ≤ 0 then V.die 22 else { V with fuel := V.fuel - 1, pc := a }) := ⟨_, rfl⟩
      rw [← hX]
      have HX : Hid _ := hX
      clear hX
      go_enter Tryz.func92, Tryz.ntmps92
      go_wp2_with fail
      refine hS.mono ?_
      rintro v w1 ⟨g1, g2, k1⟩
      clear hS
      by_cases hf : V.fuel ≤ 0
      · obtain ⟨rfl, H1⟩ := g1 hf
        have HH : Hid _ := H1
        have hX : X = V.die 22 := by rw [HX.out, if_pos hf]
        subst hX
        clear H1 g1 g2 HX
        go_wp2_with fail
        exact bodyPost_ret (v := .tuple #[]) (by simp [results, Tryz.results92, go_sem]) rfl ⟨rfl, HK.out.zs HH.out k1⟩
      · obtain ⟨rfl, H1⟩ := g2 hf
        have d6 := H1.cl' (o := 6) (by omega)
        simp only [rC] at d6
        have hlt1 := H1.rlt
        have hz1 := H1.blk.frozen
        have HH : Hid _ := H1.s_pc a
        have hX : X = { V with fuel := V.fuel - 1, pc := a } := by rw [HX.out, if_neg hf]
        subst hX
        clear H1 g1 g2 HX
        go_wp2_with fail
        go_end0
        exact ⟨rfl, HK.out.zs HH.out (k1.setC rn 6 _ (fun _ => rfl))⟩
    · rw [if_neg h2]
      have y4 : decide (a ≤ at') = false := decide_eq_false h2
      have y5 : decide ((a : Int) ≤ at') = false := decide_eq_false (by omega)
      go_enter Tryz.func92, Tryz.ntmps92
      go_wp2_with fail
      go_end0
      exact ⟨rfl, HK.out.zs (HK.out.s_pc a) ((Fr.refl _ _).setC rn 6 _ (fun _ => rfl))⟩
end
end Go.Proofs.Qxb6500281aGreat
