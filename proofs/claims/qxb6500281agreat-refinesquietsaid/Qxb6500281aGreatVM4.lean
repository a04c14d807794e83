/- The model machine: note, push. -/
import Derived.Test.Qxb6500281aGreatVM3
import Derived.Deep.Cut
namespace Go.Proofs.Qxb6500281aGreat
open Go Go.RowKit

section
variable {w w' w1 : World} {rn hm : Nat} {C : List Nat} {I : List Int} {V V' : Vs} {M M' : MS} {col col' : Nat → Nat} {P P' F : Nat → Prop} {cv iv ov fv : Value} {g : Nat → Value} {f : Fm} {r : List Fm}
/-- What stands when the operands' block turns. -/
theorem MR.aft (H : MR w rn hm C I V M col P cv iv ov fv g) (hf : V.fs = f :: r) {fb cap : Nat} (e : fv = .slice (some ⟨fb, 0, none⟩) (r.length + 1) cap) {z : Nat} (hz : z = 5 * r.length + 2) (k1 : Fr (isB (g z)) w w1) : w1.cell? ⟨rn, 5, none⟩ = some fv ∧ w1.cell? ⟨fb, z, none⟩ = some (g z) ∧ rn < w1.heap.size ∧ fb < w1.heap.size ∧ (∀ o, w1.frozen? ⟨fb, o, none⟩ = false) := by
  have hcop := H.cop r.length (by rw [hf]; simp)
  rw [← hz] at hcop
  have y1 : ∀ {b n : Nat}, col b = n ∧ P b → n ≠ 7 + 2 * r.length → ¬ isB (g z) b := fun h hn e => hn (by rw [← h.1]; exact (hcop _ e).1)
  have b1 := H.blk.frame k1 (y1 H.crn (by omega))
  obtain ⟨b, c, q1, q2, q3⟩ := H.fsl hf
  rw [e] at q1
  cases q1
  have b2 := q3.frame k1 (y1 (H.cfs _ ⟨_, _, e⟩) (by omega))
  exact ⟨b1.cell (by omega), b2.cell (by omega), b1.lt, b2.lt, b2.frozen⟩
set_option maxRecDepth 100000 in
set_option maxHeartbeats 600000 in
theorem noteMF (H : MR w rn hm C I V M col P cv iv ov fv g) (h48 : usedF V.fs ≤ 48) (_hmo : V.most ≤ 48) : Calls Tryz.prog 84 #[.pointer (some ⟨rn, 0, none⟩)] w fun e w' => e = .returned (.tuple #[]) ∧ MR w' rn hm C I { V with most := max V.most (usedF V.fs) } M col P cv iv ov fv g ∧ Fr (fun c => c = rn) w w' := by
  have hU := usedMF H h48
  have HX : Hid _ := H
  obtain ⟨u, hu⟩ : ∃ u, u = usedF V.fs := ⟨_, rfl⟩
  rw [← hu] at hU h48 ⊢
  clear H hu
  go_enter Tryz.func84, Tryz.ntmps84
  go_wp2_with fail
  refine hU.mono ?_
  rintro v w1 ⟨rfl, k1⟩
  clear hU
  have H1 := HX.out.same k1
  have c1 := H1.cl' (o := 11) (by omega)
  simp only [rC] at c1
  have hlt := H1.rlt
  have hz := H1.blk.frozen
  have HA : Hid (_ ∧ _ ∧ _) := ⟨H1, H1.s_most u, k1.mono (S' := fun c => c = rn) (fun _ _ h => h.elim)⟩
  obtain ⟨mo, hmE⟩ : ∃ mo, mo = V.most := ⟨_, rfl⟩
  rw [← hmE] at c1 _hmo
  have Hm : Hid _ := hmE
  clear H1 hmE k1
  by_cases h : mo < u
  · have y1 : decide ((mo : Int) < u) = true := decide_eq_true (by omega)
    have y2 : decide (mo < u) = true := decide_eq_true h
    go_wp2_with fail
    go_end0
    have e : max V.most u = u := by rw [← Hm.out]; omega
    rw [e]
    exact ⟨rfl, HA.out.2.1, HA.out.2.2.setC rn 11 _ (fun _ => rfl)⟩
  · have y1 : decide ((mo : Int) < u) = false := decide_eq_false (by omega)
    have y2 : decide (mo < u) = false := decide_eq_false h
    go_wp2_with fail
    go_end0
    have e : max V.most u = V.most := by rw [← Hm.out]; omega
    rw [e]
    exact ⟨rfl, HA.out.1, HA.out.2.2⟩
set_option maxRecDepth 100000 in
set_option maxHeartbeats 1000000 in
theorem vpushMF (H : MR w rn hm C I V M col P cv iv ov fv g) (hf : V.fs = f :: r) (h48 : usedF V.fs ≤ 48) (hmo : V.most ≤ 48) (x : Int) : Calls Tryz.prog 86 #[.pointer (some ⟨rn, 0, none⟩), .int .i64 x] w fun e w' => e = .returned (.tuple #[]) ∧ MZ w rn hm C I (pushV V x) M P w' := by
  have hU := usedMF H h48
  have hlen := lenUsed V.fs
  have hn : V.fs.length = r.length + 1 := by rw [hf]; rfl
  have hsum : usedF V.fs = 3 + f.loc.length + f.ops.length + usedF r := by rw [hf]; rfl
  obtain ⟨u, hu⟩ : ∃ u, u = usedF V.fs := ⟨_, rfl⟩
  rw [← hu] at hU h48
  by_cases h : 48 ≤ u
  · have y1 : decide ((u : Int) ≥ 48) = true := decide_eq_true (by omega)
    have y2 : decide ((48 : Int) ≤ u) = true := decide_eq_true (by omega)
    have e : pushV V x = V.die 29 := by unfold pushV; rw [if_pos (by rw [← hu]; exact h)]
    rw [e]
    have HX : Hid _ := H
    clear H hu hf hsum
    go_enter Tryz.func86, Tryz.ntmps86
    go_wp2_with fail
    refine hU.mono ?_
    rintro v w1 ⟨rfl, k1⟩
    have H1 := HX.out.same k1
    have c1 := H1.cl' (o := 8) (by omega)
    simp only [rC] at c1
    have hlt := H1.rlt
    have hz := H1.blk.frozen
    have HA : Hid (_ ∧ _) := ⟨H1.s_en 29, k1.mono (S' := fun c => c = rn) (fun _ _ h => h.elim)⟩
    clear H1
    go_wp2_with fail
    exact bodyPost_ret (v := .tuple #[]) (by simp [results, Tryz.results86, go_sem]) rfl ⟨rfl, HX.out.zs HA.out.1 (HA.out.2.setC rn 8 _ (fun _ => rfl))⟩
  · have y1 : decide ((u : Int) ≥ 48) = false := decide_eq_false (by omega)
    have y2 : decide ((48 : Int) ≤ u) = false := decide_eq_false (by omega)
    obtain ⟨V2, hV2⟩ : ∃ V2 : Vs, V2 = { V with fs := { f with ops := f.ops ++ [x] } :: r } := ⟨_, rfl⟩
    have hu2 : usedF V2.fs = u + 1 := by rw [hV2, hu, hsum]; simp [usedF]; omega
    have e : pushV V x = { V2 with most := max V2.most (usedF V2.fs) } := by
      rw [pushV_c hf, if_neg (by rw [← hf, ← hu]; exact h), hu2, ← hf, ← hu, hV2]
    rw [e]
    have HX : Hid _ := And.intro H (And.intro hf (And.intro hV2 hu2))
    have ho48 : f.ops.length ≤ 48 := by omega
    have hr48 : r.length ≤ 48 := by omega
    have hm2 : V2.most ≤ 48 := by rw [hV2]; exact hmo
    clear H hu hf hsum e hV2 hu2 hmo hlen hn
    go_enter Tryz.func86, Tryz.ntmps86
    go_wp2_with fail
    refine hU.mono ?_
    rintro v w1 ⟨rfl, k1⟩
    clear hU
    have H1 := HX.out.1.same k1
    have hT := topMF H1 HX.out.2.1 hr48
    have hlt1 := H1.rlt
    go_wp2_with fail
    refine hT.mono ?_
    rintro v w2 ⟨rfl, rfl⟩
    clear hT y1 y2
    have HH : Hid _ := And.intro H1 k1
    clear H1 k1
    go_upto_region 3 with fail
    go_cut [] from 13 (fun wx => MZ w rn hm C I V2 M P wx)
    case first =>
      have H1 := HH.out.1
      have c5 := H1.cl' (o := 5) (by omega)
      simp only [rC] at c5
      obtain ⟨fb, cap, efv, q1, q2, q3, p0, p1, p2, p3, p4, kl, ko⟩ := H1.tops HX.out.2.1
      rw [efv] at c5
      have hfr : fb ≠ rn := fun e => by
        have h1 := (H1.cfs fb ⟨_, _, efv⟩).1
        rw [e, H1.crn.1] at h1
        cases h1
      have hz := H1.blk.frozen
      have hlt := H1.rlt
      obtain ⟨oa, oc, eo, hoc⟩ := ko.sl
      rw [eo] at p2 ko
      obtain ⟨t, ht⟩ : ∃ t, t = r.length := ⟨_, rfl⟩
      rw [← ht] at c5 p2 q1 hr48 ⊢
      obtain ⟨n, hno⟩ : ∃ n, n = f.ops.length := ⟨_, rfl⟩
      rw [← hno] at p2 ho48
      have hti : (t : Int) < (t : Int) + 1 := by omega
      have kA := ((Fr.refl (fun _ => False) w2).alloc (.cells #[.int .i64 x] 3)).drew
      have HA := H1.same kA
      have hxp : KiP ((w2.alloc (.cells #[.int .i64 x] 3)).drew) w2.heap.size [x] := KiP.one ((Blk.new w2 #[.int .i64 x] 3 (fun _ => .int .i64 x) (fun o ho => by
        have ho : o < 1 := by simpa using ho
        obtain rfl : o = 0 := by omega
        rfl)).drew.cell (by simp))
      have hO : KiAt ((w2.alloc (.cells #[.int .i64 x] 3)).drew) (.slice oa n oc) f.ops := by
        have := ko.frame kA (fun _ _ h => h)
        rw [hno]; exact this
      have HS : Hid _ := And.intro HA (And.intro kA (And.intro efv (And.intro eo (And.intro ht hno))))
      clear HA kA efv eo ht H1 ko kl p0 p1 p3 p4 hoc
      rw [hno] at p2 ho48 hO
      clear hno
      refine wp_region_tree (.run [0, 1, 2, 4, 5, 6, 7, 8, 9, 10, 11, 12, 13] (.fork 3 (.run [14] (.run [15] (.run [16, 17, 18] .fin))) 14 (.fork 3 (.run [15] (.run [16, 17, 18] .fin)) 15 (.run [3, 16, 17, 18] .fin)))) (by kernel_rfl) (by kernel_rfl) ?_
      simp only [wpTL, pick, List.filterMap_cons, List.filterMap_nil, List.getElem?_cons_zero, List.getElem?_cons_succ]
      go_wp2_with fail
      refine ⟨⟨?_, ?_⟩⟩
      · go_wp2_with fail
        refine ⟨?_⟩
        go_wp2_with fail
        refine ⟨?_⟩
        refine wpList_appendI (by rfl) _ _ (by rfl) _ _ [x] _ 1 1 (by rfl) (by rfl) rfl hO hxp (.inr (by simp)) (by simp; omega) ?_
        intro v' w5 hc5 hb5 f5
        obtain ⟨va, vc, hvv, _⟩ := hc5.sl
        simp only [List.length_append, List.length_singleton] at hvv
        subst hvv
        have hS := HS.out
        rw [← hS.2.2.2.1] at f5 hb5
        have hA := hS.1.aft HX.out.2.1 hS.2.2.1 (z := r.length * 5 + 2) (by omega) f5
        have key := hS.1.opsT HX.out.2.1 hS.2.2.1 (z := r.length * 5 + 2) (by omega) f5 hc5 hb5
        have keyF := hS.1.opsF HX.out.2.1 hS.2.2.1 (z := r.length * 5 + 2) (v' := .slice va (f.ops.length + 1) vc) (by omega) f5
        have Hk5 : Hid _ := And.intro key keyF
        obtain ⟨a1, a2, a3, a4, a5⟩ := hA
        rw [hS.2.2.1] at a1
        rw [hS.2.2.2.1] at a2
        rw [← hS.2.2.2.2.1] at a1 a2 Hk5
        clear key keyF hS f5 hb5 hc5
        go_wp2_with fail
        refine ⟨?_⟩
        go_wp2_with fail
        refine ⟨?_⟩
        refine ⟨by kernel_rfl, ?_⟩
        go_wp2_with fail
        have ht := HS.out.2.2.2.2.1
        subst ht
        go_meet
        have kz : Fr (fun _ => False) w ((w2.alloc (.cells #[.int .i64 x] 3)).drew) := HH.out.2.trans HS.out.2.1 (fun _ _ h => h)
        have hm1 : MZ w rn hm C I V M P ((w2.alloc (.cells #[.int .i64 x] 3)).drew) := HX.out.1.e.z0 kz
        refine hm1.then (w1 := (w2.alloc (.cells #[.int .i64 x] 3)).drew) ?_
        rw [HX.out.2.2.1]
        have hsz : ∀ c, P c → c < w.heap.size := HX.out.1.lt
        have k5 := Hk5.out.2
        exact ⟨Hk5.out.1.e.up (fun c hc => hc.elim (fun h => .inl (.inl h)) (fun h => .inr ⟨h.1, by simpa using h.2⟩)) (gw_lt (gw_lt hsz kz.size) k5.size), k5.mono (fun c _ h => .inl h)⟩
      · go_wp2_with fail
        refine ⟨⟨?_, ?_⟩⟩
        · go_wp2_with fail
          refine ⟨?_⟩
          refine wpList_appendI (by rfl) _ _ (by rfl) _ _ [x] _ 1 1 (by rfl) (by rfl) rfl hO hxp (.inr (by simp)) (by simp; omega) ?_
          intro v' w5 hc5 hb5 f5
          obtain ⟨va, vc, hvv, _⟩ := hc5.sl
          simp only [List.length_append, List.length_singleton] at hvv
          subst hvv
          have hS := HS.out
          rw [← hS.2.2.2.1] at f5 hb5
          have hA := hS.1.aft HX.out.2.1 hS.2.2.1 (z := r.length * 5 + 2) (by omega) f5
          have key := hS.1.opsT HX.out.2.1 hS.2.2.1 (z := r.length * 5 + 2) (by omega) f5 hc5 hb5
          have keyF := hS.1.opsF HX.out.2.1 hS.2.2.1 (z := r.length * 5 + 2) (v' := .slice va (f.ops.length + 1) vc) (by omega) f5
          have Hk5 : Hid _ := And.intro key keyF
          obtain ⟨a1, a2, a3, a4, a5⟩ := hA
          rw [hS.2.2.1] at a1
          rw [hS.2.2.2.1] at a2
          rw [← hS.2.2.2.2.1] at a1 a2 Hk5
          clear key keyF hS f5 hb5 hc5
          go_wp2_with fail
          refine ⟨?_⟩
          go_wp2_with fail
          refine ⟨?_⟩
          refine ⟨by kernel_rfl, ?_⟩
          go_wp2_with fail
          have ht := HS.out.2.2.2.2.1
          subst ht
          go_meet
          have kz : Fr (fun _ => False) w ((w2.alloc (.cells #[.int .i64 x] 3)).drew) := HH.out.2.trans HS.out.2.1 (fun _ _ h => h)
          have hm1 : MZ w rn hm C I V M P ((w2.alloc (.cells #[.int .i64 x] 3)).drew) := HX.out.1.e.z0 kz
          refine hm1.then (w1 := (w2.alloc (.cells #[.int .i64 x] 3)).drew) ?_
          rw [HX.out.2.2.1]
          have hsz : ∀ c, P c → c < w.heap.size := HX.out.1.lt
          have k5 := Hk5.out.2
          exact ⟨Hk5.out.1.e.up (fun c hc => hc.elim (fun h => .inl (.inl h)) (fun h => .inr ⟨h.1, by simpa using h.2⟩)) (gw_lt (gw_lt hsz kz.size) k5.size), k5.mono (fun c _ h => .inl h)⟩
        · refine wpList_appendI (by rfl) _ _ (by rfl) _ _ [x] _ 1 1 (by rfl) (by rfl) rfl hO hxp (.inr (by simp)) (by simp; omega) ?_
          intro v' w5 hc5 hb5 f5
          obtain ⟨va, vc, hvv, _⟩ := hc5.sl
          simp only [List.length_append, List.length_singleton] at hvv
          subst hvv
          have hS := HS.out
          rw [← hS.2.2.2.1] at f5 hb5
          have hA := hS.1.aft HX.out.2.1 hS.2.2.1 (z := r.length * 5 + 2) (by omega) f5
          have key := hS.1.opsT HX.out.2.1 hS.2.2.1 (z := r.length * 5 + 2) (by omega) f5 hc5 hb5
          have keyF := hS.1.opsF HX.out.2.1 hS.2.2.1 (z := r.length * 5 + 2) (v' := .slice va (f.ops.length + 1) vc) (by omega) f5
          have Hk5 : Hid _ := And.intro key keyF
          obtain ⟨a1, a2, a3, a4, a5⟩ := hA
          rw [hS.2.2.1] at a1
          rw [hS.2.2.2.1] at a2
          rw [← hS.2.2.2.2.1] at a1 a2 Hk5
          clear key keyF hS f5 hb5 hc5
          go_wp2_with fail
          refine ⟨?_⟩
          go_wp2_with fail
          refine ⟨?_⟩
          refine ⟨by kernel_rfl, ?_⟩
          go_wp2_with fail
          have ht := HS.out.2.2.2.2.1
          subst ht
          go_meet
          have kz : Fr (fun _ => False) w ((w2.alloc (.cells #[.int .i64 x] 3)).drew) := HH.out.2.trans HS.out.2.1 (fun _ _ h => h)
          have hm1 : MZ w rn hm C I V M P ((w2.alloc (.cells #[.int .i64 x] 3)).drew) := HX.out.1.e.z0 kz
          refine hm1.then (w1 := (w2.alloc (.cells #[.int .i64 x] 3)).drew) ?_
          rw [HX.out.2.2.1]
          have hsz : ∀ c, P c → c < w.heap.size := HX.out.1.lt
          have k5 := Hk5.out.2
          exact ⟨Hk5.out.1.e.up (fun c hc => hc.elim (fun h => .inl (.inl h)) (fun h => .inr ⟨h.1, by simpa using h.2⟩)) (gw_lt (gw_lt hsz kz.size) k5.size), k5.mono (fun c _ h => .inl h)⟩
    case rest =>
      obtain ⟨⟨col6, cv6, iv6, ov6, fv6, g6, H6⟩, k6⟩ := hcut
      have hN := noteMF H6 (by rw [HX.out.2.2.2]; omega) hm2
      have hlt := H6.rlt
      have HF : Hid _ := And.intro H6 k6
      clear H6 k6
      go_wp2_with fail
      refine hN.mono ?_
      rintro v w7 ⟨rfl, H7, k7⟩
      go_wp2_with fail
      go_end0
      refine ⟨rfl, MZ.then ⟨HF.out.1.e, HF.out.2⟩ (HF.out.1.zs H7 k7)⟩
end
end Go.Proofs.Qxb6500281aGreat
