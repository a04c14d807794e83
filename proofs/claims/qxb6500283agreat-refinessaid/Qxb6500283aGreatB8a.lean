/- The real parser's class: one case. -/
import Derived.Test.Qxb6500283aGreatB8
namespace Go.Proofs.Qxb6500283aGreat
open Go Go.RowKit

set_option maxRecDepth 100000 in
set_option maxHeartbeats 16000000 in
theorem classR_neg {w : World} {x : Nat} {p : ByteArray} {T : Rs} (hM : RMem w x p T) (hT : RsOk p T) (hsz : p.size ≤ 129) (hi : T.s.i < p.size) (h91 : bt p T.s.i = 91) (hz : isB p (T.s.i + 1) 94 = true) : Calls Tryz.prog 141 #[.pointer (some ⟨x, 0, none⟩)] w fun e w' => e = .returned (.tuple #[]) ∧ ∃ res, LeafR p T.s.i res ∧ RPost w x p (leafRes T res) w' := by
  obtain ⟨f, q, hb, hL⟩ := hM
  obtain ⟨⟨hwf, hlen, hg3, hiz⟩, hff, hfr, hd⟩ := hT
  obtain ⟨⟨i, ns, g⟩, t, r⟩ := T
  simp only at hL hwf hlen hg3 hiz hd hi h91 hff hfr hz
  have HR : Hid _ := And.intro hff hfr
  clear hff hfr
  have c0 := hb.cell (o := 0) (by omega)
  rw [hL.p0] at c0
  have c1 := hb.cell (o := 1) (by omega)
  rw [hL.i1] at c1
  have z := hb.frozen
  have hxl := hb.lt
  go_enter Tryz.func141, Tryz.ntmps141
  obtain ⟨y1, y2⟩ := isB_lt hz
  have yd : decide ((i : Int) + 1 < p.size) = true := decide_eq_true (by omega)
  have Hb6 : Hid _ := bt_at p (i + 1) y1
  have t6 : (p[i + 1].toNat == 94) = true := by have := Hb6.out; simp; omega
  have t6' : ((p[i + 1].toNat : Int) == 94) = true := by have := Hb6.out; simp; omega
  have hst : clsStart p i = i + 2 := by unfold clsStart; rw [hz]; rfl
  have hbA := ((((hb.set 1 (.int .i64 ((i : Int) + 1))).set 1 (.int .i64 ((i : Int) + 1 + 1))).congr (g := upd f 1 (.int .i64 ((i + 2 : Nat) : Int))) (fun o ho => upd_upd f 1 _ _ o 325 ho)).alloc (.cells #[.int .u64 0, .int .u64 0, .int .u64 0, .int .u64 0] 95)).drew
  have hsA := (Blk.zero4 ((w.setCell ⟨x, 1, none⟩ (.int .i64 ((i : Int) + 1))).setCell ⟨x, 1, none⟩ (.int .i64 ((i : Int) + 1 + 1)))).drew
  simp only [World.size_setCell] at hsA
  have FA := ((((Fr.refl (fun b => b = x) w).setC x 1 (.int .i64 ((i : Int) + 1)) (fun _ => rfl)).setC x 1 (.int .i64 ((i : Int) + 1 + 1)) (fun _ => rfl)).alloc (.cells #[.int .u64 0, .int .u64 0, .int .u64 0, .int .u64 0] 95)).drew
  go_wp2_with fail
  refine wp_region_text (by kernel_rfl) (by kernel_rfl) ?_
  go_wp2_with fail
  refine ⟨by kernel_rfl, ?_⟩
  go_wp2_with fail
  go_loopg [] (p.size - (i + 2)) (fun gk wr => ∃ (j : Nat) (s : BSet), j + gk = p.size ∧ (∀ res, ClsR p i j s res → ClsR p i (clsStart p i) noP res) ∧ Blk wr x 325 (upd f 1 (.int .i64 (j : Nat))) ∧ Blk wr w.heap.size 4 (u64s (wd s)) ∧ Fr (fun b => b = x) w wr)
  case atStart => exact ⟨i + 2, noP, by omega, fun res h => by rw [hst]; exact h, hbA, hsA, FA⟩
  case round =>
    obtain ⟨j, s, hjg, hcont, hbJ, hsJ, FJ⟩ := hrel
    have hjg' : j + gk = p.size := hjg
    clear hjg hbA hsA FA c0 c1 z
    have Hc : Hid _ := hcont
    clear hcont
    have c0 := hbJ.cell (o := 0) (by omega)
    rw [upd_other _ _ _ _ (by omega), hL.p0] at c0
    have c1 := hbJ.cell (o := 1) (by omega)
    rw [upd_same] at c1
    have z := hbJ.frozen
    have zs := hsJ.frozen
    obtain ⟨s0, s1, s2, s3⟩ := hsJ.four
    have lJ := hsJ.lt
    have lxJ := hbJ.lt
    have hLJ := hL.setI (j : Nat)
    by_cases k1 : j < p.size
    · have kd : decide ((j : Int) < p.size) = true := decide_eq_true (by omega)
      have Hbt : Hid _ := bt_at p j k1
      by_cases k2 : p[j].toNat = 93
      · have t93 : (p[j].toNat != 93) = false := by simp [k2]
        have t93' : ((p[j].toNat : Int) != 93) = false := by simp; omega
        have hb2 := (hbJ.set 1 (.int .i64 ((j : Int) + 1))).congr (g := upd f 1 (.int .i64 ((j + 1 : Nat) : Int))) (fun o ho => upd_upd f 1 _ _ o 325 ho)
        have hL2 := hL.setI ((j + 1 : Nat) : Int)
        have F2 := FJ.setC x 1 (.int .i64 ((j : Int) + 1)) (fun _ => rfl)
        have hs2 := hsJ.setOther ⟨x, 1, none⟩ (.int .i64 ((j : Int) + 1)) (show w.heap.size ≠ x by omega)
        go_wp2_with fail
        refine wp_region_text (by kernel_rfl) (by kernel_rfl) ?_
        go_wp2_with fail
        refine ⟨by kernel_rfl, ?_⟩
        go_wp2_with fail
        refine wp_region_text (by kernel_rfl) (by kernel_rfl) ?_
        go_wp2_with fail
        refine ⟨by kernel_rfl, ?_⟩
        go_wp2_with fail
        refine (not_any s _).mono ?_
        rintro e w8 ⟨rfl, f8⟩
        have hb8 := hb2.drew.drew.frame f8 (by simp)
        have hs8 := hs2.drew.drew.frame f8 (by simp)
        obtain ⟨n0, n1, n2, n3⟩ := hs8.four
        have z8 := hs8.frozen
        have l8 := hs8.lt
        have F8 := F2.drew.drew.trans f8 (fun _ _ h => h.elim)
        have hs9 := (hs8.pset (notP s)).four
        have hb9 := hb8.frame (S := fun b => b = w.heap.size) (Fr.pset (Fr.refl (fun b => b = w.heap.size) w8) (fun _ => rfl) (notP s)) (by omega)
        have F9 := Fr.pset F8 (b := w.heap.size) (fun h => by omega) (notP s)
        unfold setV
        go_wp2_with fail
        refine (leafR_any (T := ⟨⟨j + 1, ns, g⟩, t, r⟩) ⟨_, q, hb9, hL2⟩ ⟨⟨hwf, hlen, hg3, by simp only; omega⟩, HR.out.1, HR.out.2, hd⟩ 1 (.inr (.inl rfl)) (notP s)).mono ?_
        rintro e w9 ⟨rfl, f9, hP⟩
        go_wp2_with fail
        go_end0
        refine ⟨rfl, _, LeafR.cls h91 (Hc.out _ (ClsR.shut k1 (by rw [Hbt.out]; exact k2))), F9.trans f9 (fun _ _ h => h), ?_⟩
        rw [hz]
        exact hP
      · have t93 : (p[j].toNat != 93) = true := by simp [k2]
        have t93' : ((p[j].toNat : Int) != 93) = true := by simp; omega
        go_wp2_with fail
        refine wp_region_text (by kernel_rfl) (by kernel_rfl) ?_
        go_wp2_with fail
        refine ⟨by kernel_rfl, ?_⟩
        go_wp2_with fail
        refine (itemR_any hbJ.drew hLJ.p0 hLJ.i1 hsz k1).mono ?_
        intro e w3 hI
        cases ho : item p j with
        | none =>
          rw [ho] at hI
          obtain ⟨rfl, hLe⟩ := hI
          have hRe := hLe.rerr hLJ hwf hlen hg3 hd
          obtain ⟨⟨iv, _, hbe⟩, fe⟩ := hLe
          have ce := hbe.cell (o := 323) (by omega)
          rw [upd_other _ _ _ _ (by omega), upd_same] at ce
          rw [show setV noP = .agg #[.int .u64 0, .int .u64 0, .int .u64 0, .int .u64 0] by rfl]
          have lxe := hbe.lt
          go_wp2_with fail
          refine bodyPost_ret (v := .tuple #[]) (by simp [results, Tryz.results141, go_sem]) rfl ⟨rfl, _, LeafR.clsE h91 (Hc.out _ (ClsR.bad k1 (by rw [Hbt.out]; exact k2) (member_e1 ho))), FJ.drew.trans fe (fun _ _ h => h) |>.alloc _, ?_⟩
          obtain ⟨f5, iv5, ns5, g5, t5, r5, hb5, h5⟩ := hRe
          exact ⟨f5, iv5, ns5, g5, t5, r5, hb5.alloc _, h5⟩
        | some v =>
          obtain ⟨m, sg, lo, j1⟩ := v
          rw [ho] at hI
          obtain ⟨rfl, hb3', f3⟩ := hI
          have hb3 := hb3'.congr (fun o ho => upd_upd f 1 _ _ o 325 ho)
          have hL3 := hL.setI (j1 : Nat)
          have hj1 := item_le k1 ho
          have hs3 := hsJ.drew.frame f3 (by omega)
          have F3 := FJ.drew.trans f3 (fun _ _ h => h)
          have ce := hb3.cell (o := 323) (by omega)
          rw [hL3.er] at ce
          have d0 := hb3.cell (o := 0) (by omega)
          rw [hL3.p0] at d0
          have d1 := hb3.cell (o := 1) (by omega)
          rw [hL3.i1] at d1
          have z3 := hb3.frozen
          have l3 := hs3.lt
          have lx3 := hb3.lt
          obtain ⟨u0, u1, u2, u3⟩ := hs3.four
          have zs3 := hs3.frozen
          clear c0 c1 z s0 s1 s2 s3 zs
          unfold setV
          cases hda : dashB p j1 with
          | false =>
            rcases dashB_no hda with y1' | ⟨y1', y2'⟩ | ⟨y1', y2', y3'⟩
            · have yd' : decide ((j1 : Int) + 1 < p.size) = false := decide_eq_false (by omega)
              go_wp2_with fail
              refine wp_region_text (by kernel_rfl) (by kernel_rfl) ?_
              go_wp2_with fail
              refine ⟨by kernel_rfl, ?_⟩
              go_wp2_with fail
              refine (join_any s m _).mono ?_
              rintro e w7 ⟨rfl, f7⟩
              have hb7 := ((hb3.alloc (.cells #[.int .u64 (wd m 0 : Nat), .int .u64 (wd m 1 : Nat), .int .u64 (wd m 2 : Nat), .int .u64 (wd m 3 : Nat)] 95)).drew).frame f7 (by simp)
              have hs7 := ((hs3.alloc (.cells #[.int .u64 (wd m 0 : Nat), .int .u64 (wd m 1 : Nat), .int .u64 (wd m 2 : Nat), .int .u64 (wd m 3 : Nat)] 95)).drew).frame f7 (by simp)
              have F7 := ((F3.alloc (.cells #[.int .u64 (wd m 0 : Nat), .int .u64 (wd m 1 : Nat), .int .u64 (wd m 2 : Nat), .int .u64 (wd m 3 : Nat)] 95)).drew).trans f7 (fun _ _ h => h.elim)
              obtain ⟨v0, v1, v2, v3⟩ := hs7.four
              have z7 := hs7.frozen
              have l7 := hs7.lt
              unfold setV
              go_wp2_with fail
              go_roundg (p.size - j1)
              case measure => omega
              case rel => exact ⟨j1, joinP s m, by omega, fun res h => Hc.out _ (ClsR.more k1 (by rw [Hbt.out]; exact k2) (member_one ho hda) h), hb7.frame (S := fun b => b = w.heap.size) (Fr.pset (Fr.refl (fun b => b = w.heap.size) w7) (fun _ => rfl) (joinP s m)) (by omega), hs7.pset (joinP s m), Fr.pset F7 (b := w.heap.size) (fun h => by omega) (joinP s m)⟩
            · have yd' : decide ((j1 : Int) + 1 < p.size) = true := decide_eq_true (by omega)
              have Hb7 : Hid _ := bt_at p j1 (by omega)
              have t7 : (p[j1].toNat == 45) = false := by have := Hb7.out; simp; omega
              have t7' : ((p[j1].toNat : Int) == 45) = false := by have := Hb7.out; simp; omega
              go_wp2_with fail
              refine wp_region_text (by kernel_rfl) (by kernel_rfl) ?_
              go_wp2_with fail
              refine ⟨by kernel_rfl, ?_⟩
              go_wp2_with fail
              refine (join_any s m _).mono ?_
              rintro e w7 ⟨rfl, f7⟩
              have hb7 := ((hb3.alloc (.cells #[.int .u64 (wd m 0 : Nat), .int .u64 (wd m 1 : Nat), .int .u64 (wd m 2 : Nat), .int .u64 (wd m 3 : Nat)] 95)).drew).frame f7 (by simp)
              have hs7 := ((hs3.alloc (.cells #[.int .u64 (wd m 0 : Nat), .int .u64 (wd m 1 : Nat), .int .u64 (wd m 2 : Nat), .int .u64 (wd m 3 : Nat)] 95)).drew).frame f7 (by simp)
              have F7 := ((F3.alloc (.cells #[.int .u64 (wd m 0 : Nat), .int .u64 (wd m 1 : Nat), .int .u64 (wd m 2 : Nat), .int .u64 (wd m 3 : Nat)] 95)).drew).trans f7 (fun _ _ h => h.elim)
              obtain ⟨v0, v1, v2, v3⟩ := hs7.four
              have z7 := hs7.frozen
              have l7 := hs7.lt
              unfold setV
              go_wp2_with fail
              go_roundg (p.size - j1)
              case measure => omega
              case rel => exact ⟨j1, joinP s m, by omega, fun res h => Hc.out _ (ClsR.more k1 (by rw [Hbt.out]; exact k2) (member_one ho hda) h), hb7.frame (S := fun b => b = w.heap.size) (Fr.pset (Fr.refl (fun b => b = w.heap.size) w7) (fun _ => rfl) (joinP s m)) (by omega), hs7.pset (joinP s m), Fr.pset F7 (b := w.heap.size) (fun h => by omega) (joinP s m)⟩
            · have yd' : decide ((j1 : Int) + 1 < p.size) = true := decide_eq_true (by omega)
              have Hb7 : Hid _ := bt_at p j1 (by omega)
              have t7 : (p[j1].toNat == 45) = true := by have := Hb7.out; simp; omega
              have t7' : ((p[j1].toNat : Int) == 45) = true := by have := Hb7.out; simp; omega
              have Hb8 : Hid _ := bt_at p (j1 + 1) y1'
              have t8 : (p[j1 + 1].toNat != 93) = false := by have := Hb8.out; simp; omega
              have t8' : ((p[j1 + 1].toNat : Int) != 93) = false := by have := Hb8.out; simp; omega
              go_wp2_with fail
              refine wp_region_text (by kernel_rfl) (by kernel_rfl) ?_
              go_wp2_with fail
              refine ⟨by kernel_rfl, ?_⟩
              go_wp2_with fail
              refine (join_any s m _).mono ?_
              rintro e w7 ⟨rfl, f7⟩
              have hb7 := ((hb3.alloc (.cells #[.int .u64 (wd m 0 : Nat), .int .u64 (wd m 1 : Nat), .int .u64 (wd m 2 : Nat), .int .u64 (wd m 3 : Nat)] 95)).drew).frame f7 (by simp)
              have hs7 := ((hs3.alloc (.cells #[.int .u64 (wd m 0 : Nat), .int .u64 (wd m 1 : Nat), .int .u64 (wd m 2 : Nat), .int .u64 (wd m 3 : Nat)] 95)).drew).frame f7 (by simp)
              have F7 := ((F3.alloc (.cells #[.int .u64 (wd m 0 : Nat), .int .u64 (wd m 1 : Nat), .int .u64 (wd m 2 : Nat), .int .u64 (wd m 3 : Nat)] 95)).drew).trans f7 (fun _ _ h => h.elim)
              obtain ⟨v0, v1, v2, v3⟩ := hs7.four
              have z7 := hs7.frozen
              have l7 := hs7.lt
              unfold setV
              go_wp2_with fail
              go_roundg (p.size - j1)
              case measure => omega
              case rel => exact ⟨j1, joinP s m, by omega, fun res h => Hc.out _ (ClsR.more k1 (by rw [Hbt.out]; exact k2) (member_one ho hda) h), hb7.frame (S := fun b => b = w.heap.size) (Fr.pset (Fr.refl (fun b => b = w.heap.size) w7) (fun _ => rfl) (joinP s m)) (by omega), hs7.pset (joinP s m), Fr.pset F7 (b := w.heap.size) (fun h => by omega) (joinP s m)⟩
          | true =>
            obtain ⟨y1', y2', y3'⟩ := dashB_lt hda
            have yd' : decide ((j1 : Int) + 1 < p.size) = true := decide_eq_true (by omega)
            have Hb7 : Hid _ := bt_at p j1 (by omega)
            have t7 : (p[j1].toNat == 45) = true := by have := Hb7.out; simp; omega
            have t7' : ((p[j1].toNat : Int) == 45) = true := by have := Hb7.out; simp; omega
            have Hb8 : Hid _ := bt_at p (j1 + 1) y1'
            have t8 : (p[j1 + 1].toNat != 93) = true := by have := Hb8.out; simp; omega
            have t8' : ((p[j1 + 1].toNat : Int) != 93) = true := by have := Hb8.out; simp; omega
            go_wp2_with fail
            refine wp_region_text (by kernel_rfl) (by kernel_rfl) ?_
            go_wp2_with fail
            refine ⟨by kernel_rfl, ?_⟩
            go_wp2_with fail
            refine (itemR_any (i := j1 + 1) ((hb3.set 1 (.int .i64 ((j1 : Int) + 1))).alloc (.cells #[.int .u64 (wd m 0 : Nat), .int .u64 (wd m 1 : Nat), .int .u64 (wd m 2 : Nat), .int .u64 (wd m 3 : Nat)] 95)).drew (by rw [upd_other _ _ _ _ (by omega), upd_other _ _ _ _ (by omega), hL.p0]) (upd_same _ _ _) hsz y1').mono ?_
            intro e w4 hI2
            have hL4e := hL3.setI ((j1 : Int) + 1)
            have F4e := ((F3.setC x 1 (.int .i64 ((j1 : Int) + 1)) (fun _ => rfl)).alloc (.cells #[.int .u64 (wd m 0 : Nat), .int .u64 (wd m 1 : Nat), .int .u64 (wd m 2 : Nat), .int .u64 (wd m 3 : Nat)] 95)).drew
            cases ho2 : item p (j1 + 1) with
            | none =>
              rw [ho2] at hI2
              obtain ⟨rfl, hLe⟩ := hI2
              have hRe := hLe.rerr hL4e hwf hlen hg3 hd
              obtain ⟨⟨iv, _, hbe⟩, fe⟩ := hLe
              have ce4 := hbe.cell (o := 323) (by omega)
              rw [upd_other _ _ _ _ (by omega), upd_same] at ce4
              rw [show setV noP = .agg #[.int .u64 0, .int .u64 0, .int .u64 0, .int .u64 0] by rfl]
              have lxe := hbe.lt
              go_wp2_with fail
              refine bodyPost_ret (v := .tuple #[]) (by simp [results, Tryz.results141, go_sem]) rfl ⟨rfl, _, LeafR.clsE h91 (Hc.out _ (ClsR.bad k1 (by rw [Hbt.out]; exact k2) (member_e2 ho hda ho2))), F4e.trans fe (fun _ _ h => h) |>.alloc _, ?_⟩
              obtain ⟨f5, iv5, ns5, g5, t5, r5, hb5, h5⟩ := hRe
              exact ⟨f5, iv5, ns5, g5, t5, r5, hb5.alloc _, h5⟩
            | some v =>
              obtain ⟨m2, al, hi2, j2⟩ := v
              rw [ho2] at hI2
              obtain ⟨rfl, hb4', f4⟩ := hI2
              have hb4 := hb4'.congr (fun o ho => (upd_upd (upd f 1 _) 1 _ _ o 325 ho).trans (upd_upd f 1 _ _ o 325 ho))
              have hL4 := hL.setI (j2 : Nat)
              have hj2 := item_le y1' ho2
              have hs4 := ((hs3.setOther ⟨x, 1, none⟩ (.int .i64 ((j1 : Int) + 1)) (show w.heap.size ≠ x by omega)).alloc (.cells #[.int .u64 (wd m 0 : Nat), .int .u64 (wd m 1 : Nat), .int .u64 (wd m 2 : Nat), .int .u64 (wd m 3 : Nat)] 95)).drew.frame f4 (by omega)
              have hm3 := (Blk.u64four (w3.setCell ⟨x, 1, none⟩ (.int .i64 ((j1 : Int) + 1))) (wd m) 95).drew
              simp only [World.size_setCell] at hm3
              have hm4 := hm3.frame f4 (by omega)
              have F4 := F4e.trans f4 (fun _ _ h => h)
              have ce4 := hb4.cell (o := 323) (by omega)
              rw [hL4.er] at ce4
              have z4 := hb4.frozen
              have l4 := hs4.lt
              have lx4 := hb4.lt
              have lm4 := hm4.lt
              obtain ⟨a0, a1, a2, a3⟩ := hs4.four
              obtain ⟨m0, m1, m2', m3⟩ := hm4.four
              have zs4 := hs4.frozen
              have zm4 := hm4.frozen
              clear d0 d1 z3 u0 u1 u2 u3 zs3 ce
              unfold setV
              cases hbd : (!sg || !al || decide (lo > hi2)) with
              | true =>
                have hmb := member_bad ho hda ho2 hbd
                have HM : Hid _ := hmb
                clear hmb
                have hcs : sg = false ∨ (sg = true ∧ al = false) ∨ (sg = true ∧ al = true ∧ hi2 < lo) := by
                  cases sg <;> cases al <;> simp at hbd ⊢
                  omega
                clear hbd
                rcases hcs with rfl | ⟨rfl, rfl⟩ | ⟨rfl, rfl, hlh⟩
                · go_wp2_with fail
                  refine (failR_any (hb4.alloc (.cells #[.int .u64 (wd m2 0 : Nat), .int .u64 (wd m2 1 : Nat), .int .u64 (wd m2 2 : Nat), .int .u64 (wd m2 3 : Nat)] 95)) 2 j1).mono ?_
                  rintro e w9 ⟨rfl, hb9, f9⟩
                  go_wp2_with fail
                  refine bodyPost_ret (v := .tuple #[]) (by simp [results, Tryz.results141, go_sem]) rfl ⟨rfl, _, LeafR.clsE h91 (Hc.out _ (ClsR.bad k1 (by rw [Hbt.out]; exact k2) HM.out)), (F4.alloc _).trans f9 (fun _ _ h => h), ?_⟩
                  exact ⟨_, _, ns, g, t, r, hb9, hL4.setE hlen hd 2 j1, hwf, hlen, hg3, hd⟩
                · go_wp2_with fail
                  refine (failR_any (hb4.alloc (.cells #[.int .u64 (wd m2 0 : Nat), .int .u64 (wd m2 1 : Nat), .int .u64 (wd m2 2 : Nat), .int .u64 (wd m2 3 : Nat)] 95)) 2 j1).mono ?_
                  rintro e w9 ⟨rfl, hb9, f9⟩
                  go_wp2_with fail
                  refine bodyPost_ret (v := .tuple #[]) (by simp [results, Tryz.results141, go_sem]) rfl ⟨rfl, _, LeafR.clsE h91 (Hc.out _ (ClsR.bad k1 (by rw [Hbt.out]; exact k2) HM.out)), (F4.alloc _).trans f9 (fun _ _ h => h), ?_⟩
                  exact ⟨_, _, ns, g, t, r, hb9, hL4.setE hlen hd 2 j1, hwf, hlen, hg3, hd⟩
                · go_wp2_with fail
                  refine (failR_any (hb4.alloc (.cells #[.int .u64 (wd m2 0 : Nat), .int .u64 (wd m2 1 : Nat), .int .u64 (wd m2 2 : Nat), .int .u64 (wd m2 3 : Nat)] 95)) 2 j1).mono ?_
                  rintro e w9 ⟨rfl, hb9, f9⟩
                  go_wp2_with fail
                  refine bodyPost_ret (v := .tuple #[]) (by simp [results, Tryz.results141, go_sem]) rfl ⟨rfl, _, LeafR.clsE h91 (Hc.out _ (ClsR.bad k1 (by rw [Hbt.out]; exact k2) HM.out)), (F4.alloc _).trans f9 (fun _ _ h => h), ?_⟩
                  exact ⟨_, _, ns, g, t, r, hb9, hL4.setE hlen hd 2 j1, hwf, hlen, hg3, hd⟩
              | false =>
                have hmr := member_rng ho hda ho2 hbd
                have HM : Hid _ := hmr
                clear hmr
                have hcs : sg = true ∧ al = true ∧ lo ≤ hi2 := by
                  cases sg <;> cases al <;> simp at hbd ⊢
                  omega
                clear hbd
                obtain ⟨rfl, rfl, hlh⟩ := hcs
                go_wp2_with fail
                refine (between_any lo hi2 hj1.2.2 hj2.2.2 _).mono ?_
                rintro e w5 ⟨rfl, f5⟩
                have hb5 := (hb4.alloc (.cells #[.int .u64 (wd m2 0 : Nat), .int .u64 (wd m2 1 : Nat), .int .u64 (wd m2 2 : Nat), .int .u64 (wd m2 3 : Nat)] 95)).frame f5 (by simp)
                have hs5 := (hs4.alloc (.cells #[.int .u64 (wd m2 0 : Nat), .int .u64 (wd m2 1 : Nat), .int .u64 (wd m2 2 : Nat), .int .u64 (wd m2 3 : Nat)] 95)).frame f5 (by simp)
                have hm5 := (hm4.alloc (.cells #[.int .u64 (wd m2 0 : Nat), .int .u64 (wd m2 1 : Nat), .int .u64 (wd m2 2 : Nat), .int .u64 (wd m2 3 : Nat)] 95)).frame f5 (by simp)
                have F5 := (F4.alloc (.cells #[.int .u64 (wd m2 0 : Nat), .int .u64 (wd m2 1 : Nat), .int .u64 (wd m2 2 : Nat), .int .u64 (wd m2 3 : Nat)] 95)).trans f5 (fun _ _ h => h.elim)
                have gm := (Fr.refl (fun b => b = w3.heap.size) w5).pset (b := w3.heap.size) (fun _ => rfl) (btw lo hi2)
                have hb6 := hb5.frame gm (by omega)
                have hs6 := hs5.frame gm (by omega)
                have F6 := F5.pset (b := w3.heap.size) (fun h => by have := FJ.size; omega) (btw lo hi2)
                obtain ⟨n0, n1, n2, n3⟩ := hs5.four
                obtain ⟨o0, o1, o2, o3⟩ := hm5.four
                have zm5 := hm5.frozen
                have lm5 := hm5.lt
                unfold setV
                go_wp2_with fail
                refine (join_any s (btw lo hi2) _).mono ?_
                rintro e w7 ⟨rfl, f7⟩
                have hb7 := hb6.frame f7 (by simp)
                have hs7 := hs6.frame f7 (by simp)
                have F7 := F6.trans f7 (fun _ _ h => h.elim)
                obtain ⟨v0, v1, v2, v3⟩ := hs7.four
                have z7 := hs7.frozen
                have l7 := hs7.lt
                unfold setV
                go_wp2_with fail
                go_roundg (p.size - j2)
                case measure => omega
                case rel => exact ⟨j2, joinP s (btw lo hi2), by omega, fun res h => Hc.out _ (ClsR.more k1 (by rw [Hbt.out]; exact k2) (HM.out) h), hb7.frame (S := fun b => b = w.heap.size) (Fr.pset (Fr.refl (fun b => b = w.heap.size) w7) (fun _ => rfl) (joinP s (btw lo hi2))) (by omega), hs7.pset (joinP s (btw lo hi2)), Fr.pset F7 (b := w.heap.size) (fun h => by omega) (joinP s (btw lo hi2))⟩
    · have kd : decide ((j : Int) < p.size) = false := decide_eq_false (by omega)
      go_wp2_with fail
      refine wp_region_text (by kernel_rfl) (by kernel_rfl) ?_
      go_wp2_with fail
      refine ⟨by kernel_rfl, ?_⟩
      go_wp2_with fail
      refine wp_region_text (by kernel_rfl) (by kernel_rfl) ?_
      go_wp2_with fail
      refine ⟨by kernel_rfl, ?_⟩
      go_wp2_with fail
      refine (failR_any hbJ.drew.drew 2 i).mono ?_
      rintro e w9 ⟨rfl, hb9, f9⟩
      go_wp2_with fail
      refine bodyPost_ret (v := .tuple #[]) (by simp [results, Tryz.results141, go_sem]) rfl ⟨rfl, _, LeafR.clsE h91 (Hc.out _ (ClsR.open_ (by omega))), FJ.drew.drew.trans f9 (fun _ _ h => h), ?_⟩
      exact ⟨_, _, ns, g, t, r, hb9, hLJ.setE hlen hd 2 i, hwf, hlen, hg3, hd⟩
end Go.Proofs.Qxb6500283aGreat
