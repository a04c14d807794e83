/- The model machine: pop, need, jump, heapEnd. -/
import Derived.Test.Qxb6500281aGreatVM4
namespace Go.Proofs.Qxb6500281aGreat
open Go Go.RowKit

section
variable {w w' w1 : World} {rn hm : Nat} {C : List Nat} {I : List Int} {V V' : Vs} {M M' : MS} {col col' : Nat → Nat} {P P' F : Nat → Prop} {cv iv ov fv : Value} {g : Nat → Value} {f : Fm} {r : List Fm}
set_option maxRecDepth 100000 in
set_option maxHeartbeats 600000 in
theorem vpopMF (H : MR w rn hm C I V M col P cv iv ov fv g) (hf : V.fs = f :: r) (h48 : r.length ≤ 48) (ho : 1 ≤ f.ops.length) (ho48 : f.ops.length ≤ 48) : Calls Tryz.prog 82 #[.pointer (some ⟨rn, 0, none⟩)] w fun e w' => e = .returned (.int .i64 (opn V 0)) ∧ MZ w rn hm C I (dropO V 1) M P w' := by
  have hT := topMF H hf h48
  have c5 := H.cl' (o := 5) (by omega)
  simp only [rC] at c5
  obtain ⟨fb, cap, efv, q1, q2, q3, p0, p1, p2, p3, p4, kl, ko⟩ := H.tops hf
  rw [efv] at c5
  have hlt := H.rlt
  obtain ⟨n, hn⟩ : ∃ n, f.ops.length = n + 1 := ⟨f.ops.length - 1, by omega⟩
  obtain ⟨ob, oc, eo, l1, l2, l3⟩ := ko.get (i := n) (by omega)
  have hop : f.ops[n] = opn V 0 := by
    unfold opn
    rw [topO_c hf, show f.ops.length - 1 - 0 = n by omega]
    simp [show n < f.ops.length by omega]
  rw [hop] at l2
  rw [eo, hn] at p2
  have ko2 := ko
  rw [eo] at ko2
  have kt := ko2.take (k := n) (by omega)
  have hdr : dropO V 1 = { V with fs := { f with ops := f.ops.take n } :: r } := by rw [dropO_c hf, hn]; rfl
  have k1 : Fr (isB (g (r.length * 5 + 2))) w w.drew := (Fr.refl _ w).drew
  have key := H.opsT hf efv (z := r.length * 5 + 2) (by omega) k1 (kt.frame ((Fr.refl (fun _ => False) w).drew) (fun _ _ h => h)) (fun c hc => .inr (by rw [eo]; obtain ⟨_, _, e'⟩ := hc; cases e'; exact ⟨_, _, rfl⟩))
  have keyF := H.opsF hf efv (z := r.length * 5 + 2) (v' := .slice (some ⟨ob, 0, none⟩) n oc) (by omega) k1
  have hoc : n + 1 ≤ oc := by
    obtain ⟨a, c, e', h'⟩ := ko.sl
    rw [eo] at e'
    cases e'
    omega
  have HK : Hid _ := And.intro key (And.intro keyF hdr)
  have hlt0 := H.lt
  have hn48 : n ≤ 48 := by omega
  have hfr : fb ≠ rn := fun e => by
    have h1 := (H.cfs fb ⟨_, _, efv⟩).1
    rw [e, H.crn.1] at h1
    cases h1
  generalize opn V 0 = x at *
  obtain ⟨t, ht⟩ : ∃ t, t = r.length := ⟨_, rfl⟩
  rw [← ht] at c5 p2 q1 h48 hT
  have hti : (t : Int) < (t : Int) + 1 := by omega
  have Ht : Hid _ := And.intro ht hlt0
  clear H hf efv ko kl kt ko2 eo hop key keyF k1 p0 p1 p3 p4 hdr ht hn l3 ho hlt0
  rw [← Ht.out.1] at HK
  go_enter Tryz.func82, Tryz.ntmps82
  go_wp2_with fail
  refine hT.mono ?_
  rintro v w1 ⟨rfl, rfl⟩
  clear hT
  go_wp2_with fail
  refine wp_region_text (by kernel_rfl) (by kernel_rfl) ?_
  go_wp2_with fail
  refine ⟨by kernel_rfl, ?_⟩
  go_wp2_with fail
  go_ret
  refine ⟨rfl, ?_⟩
  rw [HK.out.2.2]
  exact ⟨HK.out.1.e.up (fun c hc => hc.elim (fun h => .inl h) (fun h => .inr ⟨h.1, by simpa using h.2⟩)) (gw_lt Ht.out.2 HK.out.2.1.size), HK.out.2.1⟩
set_option maxRecDepth 100000 in
set_option maxHeartbeats 600000 in
theorem need_ok (H : MR w rn hm C I V M col P cv iv ov fv g) (hf : V.fs = f :: r) (h24 : M.rt.length ≤ 24) (hq : f.rb + f.lr ≤ 24) (h48 : r.length ≤ 48) (ni nr : Nat) (h1 : ni ≤ f.ops.length) (h2 : (nr : Int) ≤ (M.rt.length : Int) - f.rb - f.lr) : Calls Tryz.prog 79 #[.pointer (some ⟨rn, 0, none⟩), .int .i64 (ni : Nat), .int .i64 (nr : Nat)] w fun e w' => e = .returned (.bool true) ∧ ∃ m, w' = w.drewN m := by
  have hT := topMF H hf h48
  have hRo := ropsMF H hf h24 hq h48
  have c5 := H.cl' (o := 5) (by omega)
  simp only [rC] at c5
  obtain ⟨fb, cap, efv, q1, q2, q3, p0, p1, p2, p3, p4, kl, ko⟩ := H.tops hf
  rw [efv] at c5
  have hlt := H.rlt
  obtain ⟨oa, oc, eo, hoc⟩ := ko.sl
  rw [eo] at p2
  obtain ⟨t, ht⟩ : ∃ t, t = r.length := ⟨_, rfl⟩
  rw [← ht] at c5 p2 q1 h48 hT
  have hti : (t : Int) < (t : Int) + 1 := by omega
  generalize f.ops.length = n at *
  generalize (M.rt.length : Int) - f.rb - f.lr = d at *
  have y1 : decide ((n : Int) < ni) = false := decide_eq_false (by omega)
  have y2 : decide (n < ni) = false := decide_eq_false (by omega)
  have y3 : decide (d < nr) = false := decide_eq_false (by omega)
  clear H hf efv ko kl eo p0 p1 p3 p4 ht hoc h1 h2
  go_enter Tryz.func79, Tryz.ntmps79
  go_wp2_with fail
  refine hT.mono ?_
  rintro v w1 ⟨rfl, rfl⟩
  clear hT
  go_wp2_with fail
  refine hRo.mono ?_
  rintro v w2 ⟨rfl, m, rfl⟩
  go_wp2_with fail
  go_ret
  exact ⟨rfl, m, rfl⟩
set_option maxRecDepth 100000 in
set_option maxHeartbeats 600000 in
theorem need_no (H : MR w rn hm C I V M col P cv iv ov fv g) (hf : V.fs = f :: r) (h24 : M.rt.length ≤ 24) (hq : f.rb + f.lr ≤ 24) (h48 : r.length ≤ 48) (ni nr : Nat) (hno : f.ops.length < ni ∨ (M.rt.length : Int) - f.rb - f.lr < (nr : Int)) : Calls Tryz.prog 79 #[.pointer (some ⟨rn, 0, none⟩), .int .i64 (ni : Nat), .int .i64 (nr : Nat)] w fun e w' => e = .returned (.bool false) ∧ MZ w rn hm C I (V.die 24) M P w' := by
  have hT := topMF H hf h48
  have hRo := ropsMF H hf h24 hq h48
  have c5 := H.cl' (o := 5) (by omega)
  have c8 := H.cl' (o := 8) (by omega)
  simp only [rC] at c5 c8
  obtain ⟨fb, cap, efv, q1, q2, q3, p0, p1, p2, p3, p4, kl, ko⟩ := H.tops hf
  rw [efv] at c5
  have hlt := H.rlt
  have hz := H.blk.frozen
  obtain ⟨oa, oc, eo, hoc⟩ := ko.sl
  rw [eo] at p2
  obtain ⟨t, ht⟩ : ∃ t, t = r.length := ⟨_, rfl⟩
  rw [← ht] at c5 p2 q1 h48 hT
  have hti : (t : Int) < (t : Int) + 1 := by omega
  have HK : Hid _ := And.intro H (fun m => ((H.same ((Fr.refl (fun _ => False) w).drewN m)).s_en 24))
  generalize f.ops.length = n at *
  generalize (M.rt.length : Int) - f.rb - f.lr = d at *
  clear H hf efv ko kl eo p0 p1 p3 p4 ht hoc
  by_cases g1 : n < ni
  · have y1 : decide ((n : Int) < ni) = true := decide_eq_true (by omega)
    have y2 : decide (n < ni) = true := decide_eq_true g1
    clear hno
    go_enter Tryz.func79, Tryz.ntmps79
    go_wp2_with fail
    refine hT.mono ?_
    rintro v w1 ⟨rfl, rfl⟩
    clear hT
    go_wp2_with fail
    go_ret
    exact ⟨rfl, HK.out.1.zs (HK.out.2 0) ((Fr.refl _ _).setC rn 8 _ (fun _ => rfl))⟩
  · have g2 : d < nr := by omega
    have y1 : decide ((n : Int) < ni) = false := decide_eq_false (by omega)
    have y2 : decide (n < ni) = false := decide_eq_false g1
    have y3 : decide (d < (nr : Int)) = true := decide_eq_true g2
    clear hno
    go_enter Tryz.func79, Tryz.ntmps79
    go_wp2_with fail
    refine hT.mono ?_
    rintro v w1 ⟨rfl, rfl⟩
    clear hT
    go_wp2_with fail
    refine hRo.mono ?_
    rintro v w2 ⟨rfl, m, rfl⟩
    go_wp2_with fail
    go_ret
    exact ⟨rfl, HK.out.1.zs (HK.out.2 m) (((Fr.refl _ _).drewN m).setC rn 8 _ (fun _ => rfl))⟩
set_option maxRecDepth 100000 in
set_option maxHeartbeats 600000 in
theorem heapEndMF (H : MR w rn hm C I V M col P cv iv ov fv g) (x : Int) : Calls Tryz.prog 88 #[.pointer (some ⟨rn, 0, none⟩), .int .i64 x] w fun e w' => e = .returned (.tuple #[]) ∧ MZ w rn hm C I (V.die (endOf x)) M P w' := by
  have c8 := H.cl' (o := 8) (by omega)
  simp only [rC] at c8
  have hlt := H.rlt
  have hz := H.blk.frozen
  have HK : Hid _ := And.intro H (fun x => H.s_en x)
  clear H
  unfold endOf
  by_cases h4 : x = 4
  · subst h4
    go_enter Tryz.func88, Tryz.ntmps88
    go_wp2_with fail
    go_end0
    exact ⟨rfl, HK.out.1.zs (HK.out.2 27) ((Fr.refl _ _).setC rn 8 _ (fun _ => rfl))⟩
  · by_cases h5 : x = 5
    · subst h5
      go_enter Tryz.func88, Tryz.ntmps88
      go_wp2_with fail
      go_end0
      exact ⟨rfl, HK.out.1.zs (HK.out.2 26) ((Fr.refl _ _).setC rn 8 _ (fun _ => rfl))⟩
    · by_cases h1 : x = 1
      · subst h1
        go_enter Tryz.func88, Tryz.ntmps88
        go_wp2_with fail
        go_end0
        exact ⟨rfl, HK.out.1.zs (HK.out.2 28) ((Fr.refl _ _).setC rn 8 _ (fun _ => rfl))⟩
      · by_cases h3 : x = 3
        · subst h3
          go_enter Tryz.func88, Tryz.ntmps88
          go_wp2_with fail
          go_end0
          exact ⟨rfl, HK.out.1.zs (HK.out.2 29) ((Fr.refl _ _).setC rn 8 _ (fun _ => rfl))⟩
        · by_cases h6 : x = 6
          · subst h6
            go_enter Tryz.func88, Tryz.ntmps88
            go_wp2_with fail
            go_end0
            exact ⟨rfl, HK.out.1.zs (HK.out.2 23) ((Fr.refl _ _).setC rn 8 _ (fun _ => rfl))⟩
          · rw [if_neg h4, if_neg h5, if_neg h1, if_neg h3, if_neg h6]
            have z4 : (x == 4) = false := by simpa using h4
            have z5 : (x == 5) = false := by simpa using h5
            have z1 : (x == 1) = false := by simpa using h1
            have z3 : (x == 3) = false := by simpa using h3
            have z6 : (x == 6) = false := by simpa using h6
            go_enter Tryz.func88, Tryz.ntmps88
            go_wp2_with fail
            go_end0
            exact ⟨rfl, HK.out.1.zs (HK.out.2 24) ((Fr.refl _ _).setC rn 8 _ (fun _ => rfl))⟩
end
end Go.Proofs.Qxb6500281aGreat
