/- The model's class: one case. -/
import Derived.Test.Qxb6500283aGreatC4
namespace Go.Proofs.Qxb6500283aGreat
open Go Go.RowKit

set_option maxRecDepth 100000 in
set_option maxHeartbeats 16000000 in
theorem classM_pos {w : World} {r : Nat} {p : ByteArray} {s : Sg} (hM : MMem w r p s) (hS : SgOk p s) (hsz : p.size ≤ 129) (hi : s.i < p.size) (h91 : bt p s.i = 91) (hz : isB p (s.i + 1) 94 = false) : Calls Tryz.prog 161 #[.pointer (some ⟨r, 0, none⟩)] w fun e w' => ∃ res, LeafR p s.i res ∧ MPost w r p (leafM s res) 210 e w' := by
  obtain ⟨g, nv, q, hb, hL, hN, hnr⟩ := hM
  obtain ⟨hwf, hlen, hg3, hiz⟩ := hS
  obtain ⟨i, ns, G⟩ := s
  simp only at hL hN hwf hlen hg3 hiz hi h91 hz
  have c0 := hb.cell (o := 0) (by omega)
  rw [hL.p0] at c0
  have c1 := hb.cell (o := 1) (by omega)
  rw [hL.i1] at c1
  have z := hb.frozen
  have hxl := hb.lt
  go_enter Tryz.func161, Tryz.ntmps161
  go_wp2_with fail
  refine (isM_any (i := i + 1) (hb.set 1 (.int .i64 ((i : Int) + 1))) (by rw [upd_other _ _ _ _ (by omega), hL.p0]) (upd_same _ _ _) 94).mono ?_
  rintro e w1 ⟨rfl, hb1, f1⟩
  rw [hz]
  have F1 := ((Fr.refl (fun b => b = r) w).setC r 1 (.int .i64 ((i : Int) + 1)) (fun _ => rfl)).trans f1 (fun _ _ h => h.elim)
  have a1 := hb1.cell (o := 1) (by omega)
  rw [upd_same] at a1
  have zz := hb1.frozen
  have hwl : w.heap.size ≤ w1.heap.size := F1.size
  have hr1 := hb1.lt
  clear c0 c1 z
  have hst : clsStart p i = i + 1 := by unfold clsStart; rw [hz]; rfl

  have hbA := hb1.alloc (.cells #[.int .u64 0, .int .u64 0, .int .u64 0, .int .u64 0] 95)
  have hsA := Blk.zero4 w1

  have FA := F1.alloc (.cells #[.int .u64 0, .int .u64 0, .int .u64 0, .int .u64 0] 95)
  go_wp2_with fail
  go_loopg [] (p.size + 1 - (i + 1)) (fun gk wr => (∃ (j : Nat) (S : BSet), j + gk = p.size + 1 ∧ j ≤ p.size ∧ (∀ res, ClsR p i j S res → ClsR p i (clsStart p i) noP res) ∧ Blk wr r 6 (upd g 1 (.int .i64 (j : Nat))) ∧ Blk wr w1.heap.size 4 (u64s (wd S)) ∧ Fr (fun b => b = r) w wr) ∨ (∃ (e : Er) (iv : Nat) (gE : Nat → Value) (S : BSet), ClsR p i (clsStart p i) noP (.error e) ∧ e.1 ≠ 0 ∧ iv ≤ 205 ∧ Blk wr r 6 gE ∧ MLay gE p ((iv : Nat) : Int) nv G e.1 ((e.2 : Nat) : Int) ∧ Blk wr w1.heap.size 4 (u64s (wd S)) ∧ Fr (fun b => b = r) w wr))
  case atStart => exact .inl ⟨i + 1, noP, by omega, by omega, fun res h => by rw [hst]; exact h, hbA, hsA, FA⟩
  case round =>
    clear hbA hsA FA a1 zz
    rcases hrel with ⟨j, S, hjg, hjs, hcont, hbJ, hsJ, FJ⟩ | ⟨er, iv, gE, S, hcl, hne, hiv, hbE, hLE, hsJ, FJ⟩
    · have hjg' : j + gk = p.size + 1 := hjg
      clear hjg
      have Hc : Hid _ := hcont
      clear hcont
      have hLJ := hL.setI (j : Nat)
      have c0 := hbJ.cell (o := 0) (by omega)
      rw [hLJ.p0] at c0
      have c1 := hbJ.cell (o := 1) (by omega)
      rw [hLJ.i1] at c1
      have c4 := hbJ.cell (o := 4) (by omega)
      rw [hLJ.e4] at c4
      have z := hbJ.frozen
      have zs := hsJ.frozen
      obtain ⟨s0, s1, s2, s3⟩ := hsJ.four
      have lJ := hsJ.lt
      have lxJ := hbJ.lt
      by_cases k1 : j < p.size
      · have kd : decide ((p.size : Int) ≤ j) = false := decide_eq_false (by omega)
        have Hbt : Hid _ := bt_at p j k1
        by_cases k2 : p[j].toNat = 93
        · have t93 : (p[j].toNat == 93) = true := by simp [k2]
          have t93' : ((p[j].toNat : Int) == 93) = true := by simp; omega
          have hb2 := ((hbJ.set 1 (.int .i64 ((j : Int) + 1))).congr (g := upd g 1 (.int .i64 ((j + 1 : Nat) : Int))) (fun o ho => upd_upd g 1 _ _ o 6 ho)).drew.drew
          have hL2 := hL.setI ((j + 1 : Nat) : Int)
          have F2 := (FJ.setC r 1 (.int .i64 ((j : Int) + 1)) (fun _ => rfl)).drew.drew
          have hs2 := (hsJ.setOther ⟨r, 1, none⟩ (.int .i64 ((j : Int) + 1)) (show w1.heap.size ≠ r by omega)).drew.drew
          go_wp2_with fail
          refine wp_region_text (by kernel_rfl) (by kernel_rfl) ?_
          go_wp2_with fail
          refine ⟨by kernel_rfl, ?_⟩
          go_wp2_with fail
          refine wp_region_text (by kernel_rfl) (by kernel_rfl) ?_
          go_wp2_with fail
          refine ⟨by kernel_rfl, ?_⟩
          go_wp2_with fail
          refine (setM_any (s := ⟨j + 1, ns, G⟩) S ⟨_, nv, q, hb2, hL2, (hN.far hnr F2), hnr⟩ hlen 210 (by simp only; omega)).mono ?_
          rintro v w9 ⟨f9, hP⟩
          have F10 := (F2.mono (S' := fun b => r ≤ b) (fun b _ h => by omega)).trans f9 (fun _ _ h => h)
          have hlf := LeafR.cls h91 (Hc.out _ (ClsR.shut k1 (by rw [Hbt.out]; exact k2)))
          rw [hz] at hlf
          have Hfin : Hid (∀ e, MPost w r p (addS ⟨j + 1, ns, G⟩ (leafNd 1 S)) 210 e w9 → ∃ res, LeafR p i res ∧ MPost w r p (leafM ⟨i, ns, G⟩ res) 210 e w9) := fun e h => ⟨_, hlf, h⟩
          clear hlf
          generalize addS ⟨j + 1, ns, G⟩ (leafNd 1 S) = rs at *
          cases rs with
          | error er =>
            obtain ⟨⟨u, rfl⟩, hE⟩ := hP
            go_wp2_with fail
            go_ret
            exact Hfin.out _ ⟨F10, ⟨_, rfl⟩, hE⟩
          | ok vv =>
            obtain ⟨y, s'⟩ := vv
            obtain ⟨rfl, hE⟩ := hP
            go_wp2_with fail
            go_ret
            exact Hfin.out _ ⟨F10, rfl, hE⟩
        · have t93 : (p[j].toNat == 93) = false := by simp [k2]
          have t93' : ((p[j].toNat : Int) == 93) = false := by simp; omega
          go_wp2_with fail
          refine wp_region_text (by kernel_rfl) (by kernel_rfl) ?_
          go_wp2_with fail
          refine ⟨by kernel_rfl, ?_⟩
          go_wp2_with fail
          refine wp_region_text (by kernel_rfl) (by kernel_rfl) ?_
          go_wp2_with fail
          refine ⟨by kernel_rfl, ?_⟩
          go_wp2_with fail
          refine (itemM_any hbJ.drew.drew hLJ.p0 hLJ.i1 hLJ.e4 hsz k1).mono ?_
          intro e w3 hI
          cases ho : item p j with
          | none =>
            rw [ho] at hI
            obtain ⟨rfl, ⟨iv, hiv, hb3⟩, f3⟩ := hI
            have hL3 := (hLJ.setI (iv : Nat)).setE 4 j
            have ce := hb3.cell (o := 4) (by omega)
            rw [hL3.e4] at ce
            have hs3 := hsJ.drew.drew.frame f3 (by omega)
            have F3 := FJ.drew.drew.trans f3 (fun _ _ h => h)
            obtain ⟨u0, u1, u2, u3⟩ := hs3.four
            have l3 := hs3.lt
            have lx3 := hb3.lt
            clear c0 c1 c4 z s0 s1 s2 s3 zs
            rw [show setV noP = .agg #[.int .u64 0, .int .u64 0, .int .u64 0, .int .u64 0] by rfl]
            go_wp2_with fail
            refine wp_region_text (by kernel_rfl) (by kernel_rfl) ?_
            go_wp2_with fail
            refine ⟨by kernel_rfl, ?_⟩
            go_wp2_with fail
            refine (join_any S noP _).mono ?_
            rintro e w7 ⟨rfl, f7⟩
            have hb7 := ((hb3.alloc (.cells #[.int .u64 0, .int .u64 0, .int .u64 0, .int .u64 0] 95)).drew).frame f7 (by simp)
            have hs7 := ((hs3.alloc (.cells #[.int .u64 0, .int .u64 0, .int .u64 0, .int .u64 0] 95)).drew).frame f7 (by simp)
            have F7 := ((F3.alloc (.cells #[.int .u64 0, .int .u64 0, .int .u64 0, .int .u64 0] 95)).drew).trans f7 (fun _ _ h => h.elim)
            obtain ⟨v0, v1, v2, v3⟩ := hs7.four
            have z7 := hs7.frozen
            have l7 := hs7.lt
            unfold setV
            go_wp2_with fail
            go_roundg 0
            case measure => omega
            case rel => exact .inr ⟨(4, j), iv, _, _, Hc.out _ (ClsR.bad k1 (by rw [Hbt.out]; exact k2) (member_e1 ho)), by simp, by omega, hb7.frame (S := fun b => b = w1.heap.size) (Fr.pset (Fr.refl (fun b => b = w1.heap.size) w7) (fun _ => rfl) (joinP S noP)) (by omega), hL3, hs7.pset (joinP S noP), Fr.pset F7 (b := w1.heap.size) (fun h => by omega) (joinP S noP)⟩
          | some v =>
            obtain ⟨m, sg, lo, j1⟩ := v
            rw [ho] at hI
            obtain ⟨rfl, hb3', f3⟩ := hI
            have hb3 := hb3'.congr (fun o ho => upd_upd g 1 _ _ o 6 ho)
            have hL3 := hL.setI (j1 : Nat)
            have hj1 := item_le k1 ho
            have hs3 := hsJ.drew.drew.frame f3 (by omega)
            have F3 := FJ.drew.drew.trans f3 (fun _ _ h => h)
            have ce := hb3.cell (o := 4) (by omega)
            rw [hL3.e4] at ce
            have d0 := hb3.cell (o := 0) (by omega)
            rw [hL3.p0] at d0
            have d1 := hb3.cell (o := 1) (by omega)
            rw [hL3.i1] at d1
            have z3 := hb3.frozen
            have l3 := hs3.lt
            have lx3 := hb3.lt
            obtain ⟨u0, u1, u2, u3⟩ := hs3.four
            have zs3 := hs3.frozen
            clear c0 c1 c4 z s0 s1 s2 s3 zs
            unfold setV
            cases hda : dashB p j1 with
            | false =>
              rcases dashB_no hda with y1' | ⟨y1', y2'⟩ | ⟨y1', y2', y3'⟩
              · have yd' : decide ((j1 : Int) + 1 < p.size) = false := decide_eq_false (by omega)
                go_wp2_with fail
                refine wp_region_text (by kernel_rfl) (by kernel_rfl) ?_
                go_wp2_with fail
                refine ⟨by kernel_rfl, ?_⟩
                go_wp2_with fail
                refine (join_any S m _).mono ?_
                rintro e w7 ⟨rfl, f7⟩
                have hb7 := ((hb3.alloc (.cells #[.int .u64 (wd m 0 : Nat), .int .u64 (wd m 1 : Nat), .int .u64 (wd m 2 : Nat), .int .u64 (wd m 3 : Nat)] 95)).drew).frame f7 (by simp)
                have hs7 := ((hs3.alloc (.cells #[.int .u64 (wd m 0 : Nat), .int .u64 (wd m 1 : Nat), .int .u64 (wd m 2 : Nat), .int .u64 (wd m 3 : Nat)] 95)).drew).frame f7 (by simp)
                have F7 := ((F3.alloc (.cells #[.int .u64 (wd m 0 : Nat), .int .u64 (wd m 1 : Nat), .int .u64 (wd m 2 : Nat), .int .u64 (wd m 3 : Nat)] 95)).drew).trans f7 (fun _ _ h => h.elim)
                obtain ⟨v0, v1, v2, v3⟩ := hs7.four
                have z7 := hs7.frozen
                have l7 := hs7.lt
                unfold setV
                go_wp2_with fail
                go_roundg (p.size + 1 - j1)
                case measure => omega
                case rel => exact .inl ⟨j1, _, by omega, by omega, fun res h => Hc.out _ (ClsR.more k1 (by rw [Hbt.out]; exact k2) (member_one ho hda) h), hb7.frame (S := fun b => b = w1.heap.size) (Fr.pset (Fr.refl (fun b => b = w1.heap.size) w7) (fun _ => rfl) (joinP S m)) (by omega), hs7.pset (joinP S m), Fr.pset F7 (b := w1.heap.size) (fun h => by omega) (joinP S m)⟩
              · have yd' : decide ((j1 : Int) + 1 < p.size) = true := decide_eq_true (by omega)
                have Hb7 : Hid _ := bt_at p j1 (by omega)
                have t7 : (p[j1].toNat == 45) = false := by have := Hb7.out; simp; omega
                have t7' : ((p[j1].toNat : Int) == 45) = false := by have := Hb7.out; simp; omega
                go_wp2_with fail
                refine wp_region_text (by kernel_rfl) (by kernel_rfl) ?_
                go_wp2_with fail
                refine ⟨by kernel_rfl, ?_⟩
                go_wp2_with fail
                refine (join_any S m _).mono ?_
                rintro e w7 ⟨rfl, f7⟩
                have hb7 := ((hb3.alloc (.cells #[.int .u64 (wd m 0 : Nat), .int .u64 (wd m 1 : Nat), .int .u64 (wd m 2 : Nat), .int .u64 (wd m 3 : Nat)] 95)).drew).frame f7 (by simp)
                have hs7 := ((hs3.alloc (.cells #[.int .u64 (wd m 0 : Nat), .int .u64 (wd m 1 : Nat), .int .u64 (wd m 2 : Nat), .int .u64 (wd m 3 : Nat)] 95)).drew).frame f7 (by simp)
                have F7 := ((F3.alloc (.cells #[.int .u64 (wd m 0 : Nat), .int .u64 (wd m 1 : Nat), .int .u64 (wd m 2 : Nat), .int .u64 (wd m 3 : Nat)] 95)).drew).trans f7 (fun _ _ h => h.elim)
                obtain ⟨v0, v1, v2, v3⟩ := hs7.four
                have z7 := hs7.frozen
                have l7 := hs7.lt
                unfold setV
                go_wp2_with fail
                go_roundg (p.size + 1 - j1)
                case measure => omega
                case rel => exact .inl ⟨j1, _, by omega, by omega, fun res h => Hc.out _ (ClsR.more k1 (by rw [Hbt.out]; exact k2) (member_one ho hda) h), hb7.frame (S := fun b => b = w1.heap.size) (Fr.pset (Fr.refl (fun b => b = w1.heap.size) w7) (fun _ => rfl) (joinP S m)) (by omega), hs7.pset (joinP S m), Fr.pset F7 (b := w1.heap.size) (fun h => by omega) (joinP S m)⟩
              · have yd' : decide ((j1 : Int) + 1 < p.size) = true := decide_eq_true (by omega)
                have Hb7 : Hid _ := bt_at p j1 (by omega)
                have t7 : (p[j1].toNat == 45) = true := by have := Hb7.out; simp; omega
                have t7' : ((p[j1].toNat : Int) == 45) = true := by have := Hb7.out; simp; omega
                have Hb8 : Hid _ := bt_at p (j1 + 1) y1'
                have t8 : (p[j1 + 1].toNat != 93) = false := by have := Hb8.out; simp; omega
                have t8' : ((p[j1 + 1].toNat : Int) != 93) = false := by have := Hb8.out; simp; omega
                go_wp2_with fail
                refine wp_region_text (by kernel_rfl) (by kernel_rfl) ?_
                go_wp2_with fail
                refine ⟨by kernel_rfl, ?_⟩
                go_wp2_with fail
                refine (join_any S m _).mono ?_
                rintro e w7 ⟨rfl, f7⟩
                have hb7 := ((hb3.alloc (.cells #[.int .u64 (wd m 0 : Nat), .int .u64 (wd m 1 : Nat), .int .u64 (wd m 2 : Nat), .int .u64 (wd m 3 : Nat)] 95)).drew).frame f7 (by simp)
                have hs7 := ((hs3.alloc (.cells #[.int .u64 (wd m 0 : Nat), .int .u64 (wd m 1 : Nat), .int .u64 (wd m 2 : Nat), .int .u64 (wd m 3 : Nat)] 95)).drew).frame f7 (by simp)
                have F7 := ((F3.alloc (.cells #[.int .u64 (wd m 0 : Nat), .int .u64 (wd m 1 : Nat), .int .u64 (wd m 2 : Nat), .int .u64 (wd m 3 : Nat)] 95)).drew).trans f7 (fun _ _ h => h.elim)
                obtain ⟨v0, v1, v2, v3⟩ := hs7.four
                have z7 := hs7.frozen
                have l7 := hs7.lt
                unfold setV
                go_wp2_with fail
                go_roundg (p.size + 1 - j1)
                case measure => omega
                case rel => exact .inl ⟨j1, _, by omega, by omega, fun res h => Hc.out _ (ClsR.more k1 (by rw [Hbt.out]; exact k2) (member_one ho hda) h), hb7.frame (S := fun b => b = w1.heap.size) (Fr.pset (Fr.refl (fun b => b = w1.heap.size) w7) (fun _ => rfl) (joinP S m)) (by omega), hs7.pset (joinP S m), Fr.pset F7 (b := w1.heap.size) (fun h => by omega) (joinP S m)⟩
            | true =>
              obtain ⟨y1', y2', y3'⟩ := dashB_lt hda
              have yd' : decide ((j1 : Int) + 1 < p.size) = true := decide_eq_true (by omega)
              have Hb7 : Hid _ := bt_at p j1 (by omega)
              have t7 : (p[j1].toNat == 45) = true := by have := Hb7.out; simp; omega
              have t7' : ((p[j1].toNat : Int) == 45) = true := by have := Hb7.out; simp; omega
              have Hb8 : Hid _ := bt_at p (j1 + 1) y1'
              have t8 : (p[j1 + 1].toNat != 93) = true := by have := Hb8.out; simp; omega
              have t8' : ((p[j1 + 1].toNat : Int) != 93) = true := by have := Hb8.out; simp; omega
              go_wp2_with fail
              refine wp_region_text (by kernel_rfl) (by kernel_rfl) ?_
              go_wp2_with fail
              refine ⟨by kernel_rfl, ?_⟩
              go_wp2_with fail
              refine (itemM_any (i := j1 + 1) ((hb3.set 1 (.int .i64 ((j1 : Int) + 1))).alloc (.cells #[.int .u64 (wd m 0 : Nat), .int .u64 (wd m 1 : Nat), .int .u64 (wd m 2 : Nat), .int .u64 (wd m 3 : Nat)] 95)).drew (by rw [upd_other _ _ _ _ (by omega), hL3.p0]) (upd_same _ _ _) (by rw [upd_other _ _ _ _ (by omega), hL3.e4]) hsz y1').mono ?_
              intro e w4 hI2
              have F4e := ((F3.setC r 1 (.int .i64 ((j1 : Int) + 1)) (fun _ => rfl)).alloc (.cells #[.int .u64 (wd m 0 : Nat), .int .u64 (wd m 1 : Nat), .int .u64 (wd m 2 : Nat), .int .u64 (wd m 3 : Nat)] 95)).drew
              have hm3 := (Blk.u64four (w3.setCell ⟨r, 1, none⟩ (.int .i64 ((j1 : Int) + 1))) (wd m) 95).drew
              simp only [World.size_setCell] at hm3
              have hs4' := ((hs3.setOther ⟨r, 1, none⟩ (.int .i64 ((j1 : Int) + 1)) (show w1.heap.size ≠ r by omega)).alloc (.cells #[.int .u64 (wd m 0 : Nat), .int .u64 (wd m 1 : Nat), .int .u64 (wd m 2 : Nat), .int .u64 (wd m 3 : Nat)] 95)).drew
              have hwl3 := F3.size
              cases ho2 : item p (j1 + 1) with
              | none =>
                rw [ho2] at hI2
                obtain ⟨rfl, ⟨iv, hiv, hb4⟩, f4⟩ := hI2
                have hL4 := ((hL3.setI ((j1 : Int) + 1)).setI (iv : Nat)).setE 4 ((j1 + 1 : Nat) : Int)
                have ce4 := hb4.cell (o := 4) (by omega)
                rw [hL4.e4] at ce4
                have hs4 := hs4'.frame f4 (by omega)
                have hm4 := hm3.frame f4 (by omega)
                have F4 := F4e.trans f4 (fun _ _ h => h)
                have lx4 := hb4.lt
                have lm4 := hm4.lt
                have l4 := hs4.lt
                obtain ⟨m0, m1, m2', m3⟩ := hm4.four
                obtain ⟨a0, a1', a2, a3⟩ := hs4.four
                have zm4 := hm4.frozen
                clear d0 d1 z3 u0 u1 u2 u3 zs3 ce
                rw [show setV noP = .agg #[.int .u64 0, .int .u64 0, .int .u64 0, .int .u64 0] by rfl]
                go_wp2_with fail
                refine (span_any m lo 0 hj1.2.2 (by omega) _).mono ?_
                rintro e w5 ⟨rfl, f5⟩
                have hb5 := (hb4.alloc (.cells #[.int .u64 0, .int .u64 0, .int .u64 0, .int .u64 0] 95)).frame f5 (by simp)
                have hs5 := (hs4.alloc (.cells #[.int .u64 0, .int .u64 0, .int .u64 0, .int .u64 0] 95)).frame f5 (by simp)
                have hm5 := (hm4.alloc (.cells #[.int .u64 0, .int .u64 0, .int .u64 0, .int .u64 0] 95)).frame f5 (by simp)
                have F5 := (F4.alloc (.cells #[.int .u64 0, .int .u64 0, .int .u64 0, .int .u64 0] 95)).trans f5 (fun _ _ h => h.elim)
                have gm := (Fr.refl (fun b => b = w3.heap.size) w5).pset (b := w3.heap.size) (fun _ => rfl) (joinP m (btw lo 0))
                have hb6 := hb5.frame gm (by omega)
                have hs6 := hs5.frame gm (by omega)
                have F6 := F5.pset (b := w3.heap.size) (fun h => by omega) (joinP m (btw lo 0))
                obtain ⟨n0, n1, n2, n3⟩ := hs5.four
                obtain ⟨o0, o1, o2, o3⟩ := hm5.four
                have zm5 := hm5.frozen
                have lm5 := hm5.lt
                unfold setV
                go_wp2_with fail
                refine (join_any S (joinP m (btw lo 0)) _).mono ?_
                rintro e w7 ⟨rfl, f7⟩
                have hb7 := hb6.frame f7 (by simp)
                have hs7 := hs6.frame f7 (by simp)
                have F7 := F6.trans f7 (fun _ _ h => h.elim)
                obtain ⟨v0, v1, v2, v3⟩ := hs7.four
                have z7 := hs7.frozen
                have l7 := hs7.lt
                unfold setV
                go_wp2_with fail
                go_roundg 0
                case measure => omega
                case rel => exact .inr ⟨(4, j1 + 1), iv, _, _, Hc.out _ (ClsR.bad k1 (by rw [Hbt.out]; exact k2) (member_e2 ho hda ho2)), by simp, by omega, hb7.frame (S := fun b => b = w1.heap.size) (Fr.pset (Fr.refl (fun b => b = w1.heap.size) w7) (fun _ => rfl) (joinP S (joinP m (btw lo 0)))) (by omega), hL4, hs7.pset (joinP S (joinP m (btw lo 0))), Fr.pset F7 (b := w1.heap.size) (fun h => by omega) (joinP S (joinP m (btw lo 0)))⟩
              | some v =>
                obtain ⟨m2, al, hi2, j2⟩ := v
                rw [ho2] at hI2
                obtain ⟨rfl, hb4', f4⟩ := hI2
                have hb4 := hb4'.congr (fun o ho => (upd_upd (upd g 1 _) 1 _ _ o 6 ho).trans (upd_upd g 1 _ _ o 6 ho))
                have hL4 := hL.setI (j2 : Nat)
                have hj2 := item_le y1' ho2
                have hs4 := hs4'.frame f4 (by omega)
                have hm4 := hm3.frame f4 (by omega)
                have F4 := F4e.trans f4 (fun _ _ h => h)
                have ce4 := hb4.cell (o := 4) (by omega)
                rw [hL4.e4] at ce4
                have z4 := hb4.frozen
                have l4 := hs4.lt
                have lx4 := hb4.lt
                have lm4 := hm4.lt
                obtain ⟨a0, a1', a2, a3⟩ := hs4.four
                obtain ⟨m0, m1, m2', m3⟩ := hm4.four
                have zs4 := hs4.frozen
                have zm4 := hm4.frozen
                clear d0 d1 z3 u0 u1 u2 u3 zs3 ce
                unfold setV
                cases hbd : (!sg || !al || decide (lo > hi2)) with
                | true =>
                  have hmb := member_bad ho hda ho2 hbd
                  have HM : Hid _ := hmb
                  clear hmb
                  have hcs : sg = false ∨ (sg = true ∧ al = false) ∨ (sg = true ∧ al = true ∧ hi2 < lo) := by
                    cases sg <;> cases al <;> simp at hbd ⊢
                    omega
                  clear hbd
                  rcases hcs with rfl | ⟨rfl, rfl⟩ | ⟨rfl, rfl, hlh⟩
                  · go_wp2_with fail
                    refine (failM_any (hb4.alloc (.cells #[.int .u64 (wd m2 0 : Nat), .int .u64 (wd m2 1 : Nat), .int .u64 (wd m2 2 : Nat), .int .u64 (wd m2 3 : Nat)] 95)) 0 hL4.e4 2 j1).mono ?_
                    rintro e w9 ⟨rfl, hb9, f9⟩
                    rw [if_pos rfl] at hb9
                    go_wp2_with fail
                    go_ret
                    exact ⟨_, LeafR.clsE h91 (Hc.out _ (ClsR.bad k1 (by rw [Hbt.out]; exact k2) HM.out)), ((F4.alloc (.cells #[.int .u64 (wd m2 0 : Nat), .int .u64 (wd m2 1 : Nat), .int .u64 (wd m2 2 : Nat), .int .u64 (wd m2 3 : Nat)] 95)).trans f9 (fun _ _ h => h)).mono (fun b _ h => by omega), ⟨_, rfl⟩, _, nv, G, j2, hb9, hL4.setE 2 j1, by omega, by simp⟩
                  · go_wp2_with fail
                    refine (failM_any (hb4.alloc (.cells #[.int .u64 (wd m2 0 : Nat), .int .u64 (wd m2 1 : Nat), .int .u64 (wd m2 2 : Nat), .int .u64 (wd m2 3 : Nat)] 95)) 0 hL4.e4 2 j1).mono ?_
                    rintro e w9 ⟨rfl, hb9, f9⟩
                    rw [if_pos rfl] at hb9
                    go_wp2_with fail
                    go_ret
                    exact ⟨_, LeafR.clsE h91 (Hc.out _ (ClsR.bad k1 (by rw [Hbt.out]; exact k2) HM.out)), ((F4.alloc (.cells #[.int .u64 (wd m2 0 : Nat), .int .u64 (wd m2 1 : Nat), .int .u64 (wd m2 2 : Nat), .int .u64 (wd m2 3 : Nat)] 95)).trans f9 (fun _ _ h => h)).mono (fun b _ h => by omega), ⟨_, rfl⟩, _, nv, G, j2, hb9, hL4.setE 2 j1, by omega, by simp⟩
                  · go_wp2_with fail
                    refine (failM_any (hb4.alloc (.cells #[.int .u64 (wd m2 0 : Nat), .int .u64 (wd m2 1 : Nat), .int .u64 (wd m2 2 : Nat), .int .u64 (wd m2 3 : Nat)] 95)) 0 hL4.e4 2 j1).mono ?_
                    rintro e w9 ⟨rfl, hb9, f9⟩
                    rw [if_pos rfl] at hb9
                    go_wp2_with fail
                    go_ret
                    exact ⟨_, LeafR.clsE h91 (Hc.out _ (ClsR.bad k1 (by rw [Hbt.out]; exact k2) HM.out)), ((F4.alloc (.cells #[.int .u64 (wd m2 0 : Nat), .int .u64 (wd m2 1 : Nat), .int .u64 (wd m2 2 : Nat), .int .u64 (wd m2 3 : Nat)] 95)).trans f9 (fun _ _ h => h)).mono (fun b _ h => by omega), ⟨_, rfl⟩, _, nv, G, j2, hb9, hL4.setE 2 j1, by omega, by simp⟩
                | false =>
                  have hmr := member_rng ho hda ho2 hbd
                  have hcs : sg = true ∧ al = true ∧ lo ≤ hi2 := by
                    cases sg <;> cases al <;> simp at hbd ⊢
                    omega
                  clear hbd
                  obtain ⟨rfl, rfl, hlh⟩ := hcs
                  have hms := item_single ho
                  rw [← btw_join hlh, ← hms] at hmr
                  have HM : Hid _ := hmr
                  clear hmr hms
                  go_wp2_with fail
                  refine (span_any m lo hi2 hj1.2.2 hj2.2.2 _).mono ?_
                  rintro e w5 ⟨rfl, f5⟩
                  have hb5 := (hb4.alloc (.cells #[.int .u64 (wd m2 0 : Nat), .int .u64 (wd m2 1 : Nat), .int .u64 (wd m2 2 : Nat), .int .u64 (wd m2 3 : Nat)] 95)).frame f5 (by simp)
                  have hs5 := (hs4.alloc (.cells #[.int .u64 (wd m2 0 : Nat), .int .u64 (wd m2 1 : Nat), .int .u64 (wd m2 2 : Nat), .int .u64 (wd m2 3 : Nat)] 95)).frame f5 (by simp)
                  have hm5 := (hm4.alloc (.cells #[.int .u64 (wd m2 0 : Nat), .int .u64 (wd m2 1 : Nat), .int .u64 (wd m2 2 : Nat), .int .u64 (wd m2 3 : Nat)] 95)).frame f5 (by simp)
                  have F5 := (F4.alloc (.cells #[.int .u64 (wd m2 0 : Nat), .int .u64 (wd m2 1 : Nat), .int .u64 (wd m2 2 : Nat), .int .u64 (wd m2 3 : Nat)] 95)).trans f5 (fun _ _ h => h.elim)
                  have gm := (Fr.refl (fun b => b = w3.heap.size) w5).pset (b := w3.heap.size) (fun _ => rfl) (joinP m (btw lo hi2))
                  have hb6 := hb5.frame gm (by omega)
                  have hs6 := hs5.frame gm (by omega)
                  have F6 := F5.pset (b := w3.heap.size) (fun h => by omega) (joinP m (btw lo hi2))
                  obtain ⟨n0, n1, n2, n3⟩ := hs5.four
                  obtain ⟨o0, o1, o2, o3⟩ := hm5.four
                  have zm5 := hm5.frozen
                  have lm5 := hm5.lt
                  unfold setV
                  go_wp2_with fail
                  refine (join_any S (joinP m (btw lo hi2)) _).mono ?_
                  rintro e w7 ⟨rfl, f7⟩
                  have hb7 := hb6.frame f7 (by simp)
                  have hs7 := hs6.frame f7 (by simp)
                  have F7 := F6.trans f7 (fun _ _ h => h.elim)
                  obtain ⟨v0, v1, v2, v3⟩ := hs7.four
                  have z7 := hs7.frozen
                  have l7 := hs7.lt
                  unfold setV
                  go_wp2_with fail
                  go_roundg (p.size + 1 - j2)
                  case measure => omega
                  case rel => exact .inl ⟨j2, _, by omega, by omega, fun res h => Hc.out _ (ClsR.more k1 (by rw [Hbt.out]; exact k2) (HM.out) h), hb7.frame (S := fun b => b = w1.heap.size) (Fr.pset (Fr.refl (fun b => b = w1.heap.size) w7) (fun _ => rfl) (joinP S (joinP m (btw lo hi2)))) (by omega), hs7.pset (joinP S (joinP m (btw lo hi2))), Fr.pset F7 (b := w1.heap.size) (fun h => by omega) (joinP S (joinP m (btw lo hi2)))⟩
      · have kd : decide ((p.size : Int) ≤ j) = true := decide_eq_true (by omega)
        go_wp2_with fail
        refine wp_region_text (by kernel_rfl) (by kernel_rfl) ?_
        go_wp2_with fail
        refine ⟨by kernel_rfl, ?_⟩
        go_wp2_with fail
        refine (failM_any hbJ.drew 0 hLJ.e4 2 i).mono ?_
        rintro e w9 ⟨rfl, hb9, f9⟩
        rw [if_pos rfl] at hb9
        go_wp2_with fail
        go_ret
        exact ⟨_, LeafR.clsE h91 (Hc.out _ (ClsR.open_ (by omega))), (FJ.drew.trans f9 (fun _ _ h => h)).mono (fun b _ h => by omega), ⟨_, rfl⟩, _, nv, G, j, hb9, hLJ.setE 2 i, by omega, by simp⟩
    · have HEr : Hid _ := hcl
      clear hcl
      have c4 := hbE.cell (o := 4) (by omega)
      rw [hLE.e4] at c4
      have c1 := hbE.cell (o := 1) (by omega)
      rw [hLE.i1] at c1
      have te : (er.1 == 0) = false := by simpa using hne
      have z := hbE.frozen
      have zs := hsJ.frozen
      obtain ⟨s0, s1, s2, s3⟩ := hsJ.four
      have lJ := hsJ.lt
      have lxJ := hbE.lt
      have hb2 := hbE.set 1 (.int .i64 ((iv : Int) + 1))
      have F2 := FJ.setC r 1 (.int .i64 ((iv : Int) + 1)) (fun _ => rfl)
      have hs2 := hsJ.setOther ⟨r, 1, none⟩ (.int .i64 ((iv : Int) + 1)) (show w1.heap.size ≠ r by omega)
      have hivb : (iv : Int) ≤ 205 := by omega
      go_wp2_with fail
      refine (setM_err (B := 210) S ⟨_, _, G, iv + 1, hb2, hLE.setI ((iv + 1 : Nat) : Int), by omega, hne⟩).mono ?_
      rintro v w9 ⟨f9, ⟨u, rfl⟩, hE⟩
      go_wp2_with fail
      go_ret
      exact ⟨_, LeafR.clsE h91 HEr.out, (F2.mono (S' := fun b => r ≤ b) (fun b _ h => by omega)).trans f9 (fun _ _ h => h), ⟨_, rfl⟩, hE⟩
end Go.Proofs.Qxb6500283aGreat
