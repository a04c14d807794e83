/- The model's group. -/
import Derived.Test.Qxb6500283aGreatC7
import Derived.Test.Qxb6500283aGreatB5
namespace Go.Proofs.Qxb6500283aGreat
open Go Go.RowKit

set_option maxRecDepth 100000 in
set_option maxHeartbeats 16000000 in
theorem groupM_any {w : World} {r : Nat} {p : ByteArray} {s : Sg} {d B : Nat} {A : Sg → Res → Prop} (hd : d ≤ 5) (hB : 210 ≤ B) (hB' : B ≤ 260) (hM : MMem w r p s) (hS : SgOk p s) (hsz : p.size ≤ 129) (hi : s.i < p.size) (hAok : AltOk p A)
    (hA : d < 5 → ∀ w' s1, MMem w' r p s1 → SgOk p s1 → Calls Tryz.prog 78 #[.pointer (some ⟨r, 0, none⟩), .int .i64 ((d : Int) + 1)] w' fun v w'' => ∃ res, A s1 res ∧ MPost w' r p res B v w'') :
    Calls Tryz.prog 160 #[.pointer (some ⟨r, 0, none⟩), .int .i64 (d : Nat)] w fun v w' => ∃ res, GroupR p d A s res ∧ MPost w r p res (B + 1) v w' := by
  obtain ⟨c0, c1, c4, z, hrl⟩ := hM.cells
  have hM' := hM
  obtain ⟨g, nv, q, hb, hL, hN, hnr⟩ := hM'
  have cg := hb.cell (o := 3) (by omega)
  rw [hL.g3] at cg
  have FI := (Fr.refl (fun b => r ≤ b) w).setC r 1 (.int .i64 ((s.i : Int) + 1)) (fun _ => Nat.le_refl _)
  have hib : (s.i : Int) ≤ 129 := by omega
  go_enter Tryz.func160, Tryz.ntmps160
  by_cases hdeep : 5 ≤ d
  · obtain rfl : d = 5 := by omega
    go_wp2_with fail
    refine (failM_any hb 0 hL.e4 6 s.i).mono ?_
    rintro v w1 ⟨rfl, hb1, f1⟩
    rw [if_pos rfl] at hb1
    go_wp2_with fail
    go_ret
    exact ⟨_, GroupR.deep (by omega), f1.mono (fun b _ h => by omega), ⟨_, rfl⟩, _, nv, s.g, s.i, hb1, hL.setE 6 s.i, by omega, by simp⟩
  have hd4 : (d : Int) ≤ 4 := by omega
  by_cases h2 : s.i + 2 < p.size
  · have kd : decide ((s.i : Int) + 2 < p.size) = true := decide_eq_true (by omega)
    have Hb1 : Hid _ := bt_at p (s.i + 1) (by omega)
    have Hb2 : Hid _ := bt_at p (s.i + 2) h2
    by_cases h63 : bt p (s.i + 1) = 63
    · have t63 : (p[s.i + 1].toNat == 63) = true := by have := Hb1.out; simp; omega
      have t63' : ((p[s.i + 1].toNat : Int) == 63) = true := by have := Hb1.out; simp; omega
      by_cases h58 : bt p (s.i + 2) = 58
      · have t58 : (p[s.i + 2].toNat == 58) = true := by have := Hb2.out; simp; omega
        have t58' : ((p[s.i + 2].toNat : Int) == 58) = true := by have := Hb2.out; simp; omega
        have hfree : freeB p s.i = true := by simp [freeB, h2, h63, h58]
        clear h63 h58
        have HO : Hid _ := openS_free hfree
        have hS1 := (openS_ok hS hi HO.out).1
        clear hfree
        have hM1 : MMem ((w.setCell ⟨r, 1, none⟩ (.int .i64 ((s.i : Int) + 1))).setCell ⟨r, 1, none⟩ (.int .i64 ((s.i : Int) + 3))).drew r p ⟨s.i + 3, s.ns, s.g⟩ := ⟨_, nv, q, ((hb.set 1 _).set 1 _).drew, (hL.setI _).setI _, hN.far hnr (((Fr.refl (fun b => b = r) w).setC r 1 _ (fun _ => rfl)).setC r 1 _ (fun _ => rfl)).drew, hnr⟩
        have F1 := (FI.setC r 1 (.int .i64 ((s.i : Int) + 3)) (fun _ => Nat.le_refl _)).drew
        go_wp2_with fail
        refine wp_region_text (by kernel_rfl) (by kernel_rfl) ?_
        go_wp2_with fail
        refine ⟨by kernel_rfl, ?_⟩
        go_wp2_with fail
        refine (hA (by omega) _ _ hM1 hS1).mono ?_
        rintro v w2 ⟨res, ha, hP⟩
        have HA : Hid _ := ha
        have hok := hAok _ _ ha hS1
        clear ha hM1 hS1
        cases res with
        | error e =>
          obtain ⟨f2, ⟨u, rfl⟩, hE⟩ := hP
          obtain ⟨g2, nv2, G2, iv2, hb2, hL2, hiv2, he2⟩ := hE
          have a1 := hb2.cell (o := 1) (by omega)
          rw [hL2.i1] at a1
          have a4 := hb2.cell (o := 4) (by omega)
          rw [hL2.e4] at a4
          have z2 := hb2.frozen
          have l2 := hb2.lt
          have te : (e.1 == 0) = false := by simpa using he2
          have hivb : (iv2 : Int) ≤ 300 := by omega
          have F2 := F1.trans f2 (fun _ _ h => h)
          have hE3 : MErr (w2.setCell ⟨r, 1, none⟩ (.int .i64 ((iv2 : Int) + 1))) r p e (B + 1) := ⟨_, nv2, G2, iv2 + 1, hb2.set 1 _, hL2.setI _, by omega, he2⟩
          have F3 := F2.setC r 1 (.int .i64 ((iv2 : Int) + 1)) (fun _ => Nat.le_refl _)
          go_wp2_with fail
          go_ret
          exact ⟨_, GroupR.err (by omega) HO.out HA.out, F3, ⟨_, rfl⟩, hE3⟩
        | ok xs =>
          obtain ⟨x, s2⟩ := xs
          obtain ⟨f2, rfl, hM2⟩ := hP
          obtain ⟨hS2, hx2⟩ := hok
          have F2 := F1.trans f2 (fun _ _ h => h)
          obtain ⟨b0, b1, b4, z2, l2⟩ := hM2.cells
          have hM2' := hM2
          obtain ⟨g2, nv2, q2, hb2, hL2, hN2, hnr2⟩ := hM2'
          have hi2 := hS2.i
          go_wp2_with fail
          refine (isM_any hb2 hL2.p0 hL2.i1 41).mono ?_
          rintro e w3 ⟨rfl, hb3, f3⟩
          have hM3 := hM2.frame f3
          have F3 := F2.trans f3 (fun _ _ h => h.elim)
          clear b0 b1 b4 z2 l2
          obtain ⟨b0, b1, b4, z3, l3⟩ := hM3.cells
          cases hc : isB p s2.i 41 with
          | false =>
            go_wp2_with fail
            refine (failM_any hb3 0 hL2.e4 1 s.i).mono ?_
            rintro e w4 ⟨rfl, hb4, f4⟩
            rw [if_pos rfl] at hb4
            go_wp2_with fail
            go_ret
            exact ⟨_, GroupR.open_ (by omega) HO.out HA.out hc, F3.trans f4 (fun b _ h => by omega), ⟨_, rfl⟩, _, nv2, s2.g, s2.i, hb4, hL2.setE 1 s.i, by omega, by simp⟩
          | true =>
            have hlt2 := (isB_lt hc).1
            have hM4 := hM3.setI (s2.i + 1)
            have F4 := F3.setC r 1 (.int .i64 ((s2.i + 1 : Nat) : Int)) (fun _ => Nat.le_refl _)
            have hib2 : (s2.i : Int) ≤ 129 := by omega
            go_wp2_with fail
            go_ret
            have hg := GroupR.shut (p := p) (d := d) (A := A) (by omega) HO.out HA.out hc
            rw [show shutS s2 x 0 = .ok (x, ⟨s2.i + 1, s2.ns, s2.g⟩) by rfl] at hg
            exact ⟨_, hg, F4, rfl, hM4⟩

      · have t58 : (p[s.i + 2].toNat == 58) = false := by have := Hb2.out; simp; omega
        have t58' : ((p[s.i + 2].toNat : Int) == 58) = false := by have := Hb2.out; simp; omega
        have hfree : freeB p s.i = false := by simp [freeB, h2, h63, h58]
        clear h63 h58
        by_cases hg : 3 ≤ s.g
        · have hg' : (3 : Int) ≤ s.g := by omega
          have HO : Hid _ := openS_full hfree hg
          clear hfree
          go_wp2_with fail
          refine wp_region_text (by kernel_rfl) (by kernel_rfl) ?_
          go_wp2_with fail
          refine ⟨by kernel_rfl, ?_⟩
          go_wp2_with fail
          refine (failM_any (hb.set 1 (.int .i64 ((s.i : Int) + 1))).drew 0 (hL.setI _).e4 7 s.i).mono ?_
          rintro v w1 ⟨rfl, hb1, f1⟩
          rw [if_pos rfl] at hb1
          go_wp2_with fail
          go_ret
          exact ⟨_, GroupR.many (by omega) HO.out, FI.drew.trans f1 (fun b _ h => by omega), ⟨_, rfl⟩, _, nv, s.g, s.i + 1, hb1, (hL.setI _).setE 7 s.i, by omega, by simp⟩
        · have hg' : (s.g : Int) ≤ 2 := by omega
          have HO : Hid _ := openS_num hfree (by omega)
          have hS1 := (openS_ok hS hi HO.out).1
          clear hfree hg
          have hM1 : MMem ((w.setCell ⟨r, 1, none⟩ (.int .i64 ((s.i : Int) + 1))).setCell ⟨r, 3, none⟩ (.int .i64 ((s.g : Int) + 1))).drew r p ⟨s.i + 1, s.ns, s.g + 1⟩ := ⟨_, nv, q, ((hb.set 1 _).set 3 _).drew, (hL.setI _).setG (s.g + 1), hN.far hnr (((Fr.refl (fun b => b = r) w).setC r 1 _ (fun _ => rfl)).setC r 3 _ (fun _ => rfl)).drew, hnr⟩
          have F1 := (FI.setC r 3 (.int .i64 ((s.g : Int) + 1)) (fun _ => Nat.le_refl _)).drew
          go_wp2_with fail
          refine wp_region_text (by kernel_rfl) (by kernel_rfl) ?_
          go_wp2_with fail
          refine ⟨by kernel_rfl, ?_⟩
          go_wp2_with fail
          refine (hA (by omega) _ _ hM1 hS1).mono ?_
          rintro v w2 ⟨res, ha, hP⟩
          have HA : Hid _ := ha
          have hok := hAok _ _ ha hS1
          clear ha hM1 hS1
          cases res with
          | error e =>
            obtain ⟨f2, ⟨u, rfl⟩, hE⟩ := hP
            obtain ⟨g2, nv2, G2, iv2, hb2, hL2, hiv2, he2⟩ := hE
            have a1 := hb2.cell (o := 1) (by omega)
            rw [hL2.i1] at a1
            have a4 := hb2.cell (o := 4) (by omega)
            rw [hL2.e4] at a4
            have z2 := hb2.frozen
            have l2 := hb2.lt
            have te : (e.1 == 0) = false := by simpa using he2
            have hivb : (iv2 : Int) ≤ 300 := by omega
            have F2 := F1.trans f2 (fun _ _ h => h)
            have hE3 : MErr (w2.setCell ⟨r, 1, none⟩ (.int .i64 ((iv2 : Int) + 1))) r p e (B + 1) := ⟨_, nv2, G2, iv2 + 1, hb2.set 1 _, hL2.setI _, by omega, he2⟩
            have F3 := F2.setC r 1 (.int .i64 ((iv2 : Int) + 1)) (fun _ => Nat.le_refl _)
            go_wp2_with fail
            refine (addM_err _ _ _ _ _ _ _ _ _ _ _ _ rfl hE3).mono ?_
            rintro v w4 ⟨f4, ⟨u4, rfl⟩, hE4⟩
            go_wp2_with fail
            go_ret
            exact ⟨_, GroupR.err (by omega) HO.out HA.out, F3.trans f4 (fun _ _ h => h), ⟨_, rfl⟩, hE4⟩
          | ok xs =>
            obtain ⟨x, s2⟩ := xs
            obtain ⟨f2, rfl, hM2⟩ := hP
            obtain ⟨hS2, hx2⟩ := hok
            have F2 := F1.trans f2 (fun _ _ h => h)
            obtain ⟨b0, b1, b4, z2, l2⟩ := hM2.cells
            have hM2' := hM2
            obtain ⟨g2, nv2, q2, hb2, hL2, hN2, hnr2⟩ := hM2'
            have hi2 := hS2.i
            go_wp2_with fail
            refine (isM_any hb2 hL2.p0 hL2.i1 41).mono ?_
            rintro e w3 ⟨rfl, hb3, f3⟩
            have hM3 := hM2.frame f3
            have F3 := F2.trans f3 (fun _ _ h => h.elim)
            clear b0 b1 b4 z2 l2
            obtain ⟨b0, b1, b4, z3, l3⟩ := hM3.cells
            cases hc : isB p s2.i 41 with
            | false =>
              go_wp2_with fail
              refine (failM_any hb3 0 hL2.e4 1 s.i).mono ?_
              rintro e w4 ⟨rfl, hb4, f4⟩
              rw [if_pos rfl] at hb4
              go_wp2_with fail
              go_ret
              exact ⟨_, GroupR.open_ (by omega) HO.out HA.out hc, F3.trans f4 (fun b _ h => by omega), ⟨_, rfl⟩, _, nv2, s2.g, s2.i, hb4, hL2.setE 1 s.i, by omega, by simp⟩
            | true =>
              have hlt2 := (isB_lt hc).1
              have hM4 := hM3.setI (s2.i + 1)
              have F4 := F3.setC r 1 (.int .i64 ((s2.i + 1 : Nat) : Int)) (fun _ => Nat.le_refl _)
              have hib2 : (s2.i : Int) ≤ 129 := by omega
              go_wp2_with fail
              have hv : ndV (grpNd x (s.g + 1)) = .agg #[.int .i64 7, .int .i64 (x : Nat), .int .i64 (-1), .int .i64 0, .int .i64 0, .int .i64 ((s.g : Int) + 1), .bool false, .int .u64 0, .int .u64 0, .int .u64 0, .int .u64 0] := by simp [ndV, grpNd, wd_zero]
              rw [← hv]
              refine (addM_any (grpNd x (s.g + 1)) hM4 hS2.len (B + 1) (by simp only; omega)).mono ?_
              intro v w5 hP
              have HP : Hid _ := hP
              obtain ⟨u, rfl⟩ := MPost.int hP
              go_wp2_with fail
              go_ret
              have hg := GroupR.shut (p := p) (d := d) (A := A) (by omega) HO.out HA.out hc
              rw [show shutS s2 x (s.g + 1) = addS ⟨s2.i + 1, s2.ns, s2.g⟩ (grpNd x (s.g + 1)) by unfold shutS; rw [if_neg (by omega)]] at hg
              exact ⟨_, hg, MPost.pre HP.out F4⟩

    · have t63 : (p[s.i + 1].toNat == 63) = false := by have := Hb1.out; simp; omega
      have t63' : ((p[s.i + 1].toNat : Int) == 63) = false := by have := Hb1.out; simp; omega
      have hfree : freeB p s.i = false := by simp [freeB, h2, h63]
      clear h63
      by_cases hg : 3 ≤ s.g
      · have hg' : (3 : Int) ≤ s.g := by omega
        have HO : Hid _ := openS_full hfree hg
        clear hfree
        go_wp2_with fail
        refine wp_region_text (by kernel_rfl) (by kernel_rfl) ?_
        go_wp2_with fail
        refine ⟨by kernel_rfl, ?_⟩
        go_wp2_with fail
        refine (failM_any (hb.set 1 (.int .i64 ((s.i : Int) + 1))).drew 0 (hL.setI _).e4 7 s.i).mono ?_
        rintro v w1 ⟨rfl, hb1, f1⟩
        rw [if_pos rfl] at hb1
        go_wp2_with fail
        go_ret
        exact ⟨_, GroupR.many (by omega) HO.out, FI.drew.trans f1 (fun b _ h => by omega), ⟨_, rfl⟩, _, nv, s.g, s.i + 1, hb1, (hL.setI _).setE 7 s.i, by omega, by simp⟩
      · have hg' : (s.g : Int) ≤ 2 := by omega
        have HO : Hid _ := openS_num hfree (by omega)
        have hS1 := (openS_ok hS hi HO.out).1
        clear hfree hg
        have hM1 : MMem ((w.setCell ⟨r, 1, none⟩ (.int .i64 ((s.i : Int) + 1))).setCell ⟨r, 3, none⟩ (.int .i64 ((s.g : Int) + 1))).drew r p ⟨s.i + 1, s.ns, s.g + 1⟩ := ⟨_, nv, q, ((hb.set 1 _).set 3 _).drew, (hL.setI _).setG (s.g + 1), hN.far hnr (((Fr.refl (fun b => b = r) w).setC r 1 _ (fun _ => rfl)).setC r 3 _ (fun _ => rfl)).drew, hnr⟩
        have F1 := (FI.setC r 3 (.int .i64 ((s.g : Int) + 1)) (fun _ => Nat.le_refl _)).drew
        go_wp2_with fail
        refine wp_region_text (by kernel_rfl) (by kernel_rfl) ?_
        go_wp2_with fail
        refine ⟨by kernel_rfl, ?_⟩
        go_wp2_with fail
        refine (hA (by omega) _ _ hM1 hS1).mono ?_
        rintro v w2 ⟨res, ha, hP⟩
        have HA : Hid _ := ha
        have hok := hAok _ _ ha hS1
        clear ha hM1 hS1
        cases res with
        | error e =>
          obtain ⟨f2, ⟨u, rfl⟩, hE⟩ := hP
          obtain ⟨g2, nv2, G2, iv2, hb2, hL2, hiv2, he2⟩ := hE
          have a1 := hb2.cell (o := 1) (by omega)
          rw [hL2.i1] at a1
          have a4 := hb2.cell (o := 4) (by omega)
          rw [hL2.e4] at a4
          have z2 := hb2.frozen
          have l2 := hb2.lt
          have te : (e.1 == 0) = false := by simpa using he2
          have hivb : (iv2 : Int) ≤ 300 := by omega
          have F2 := F1.trans f2 (fun _ _ h => h)
          have hE3 : MErr (w2.setCell ⟨r, 1, none⟩ (.int .i64 ((iv2 : Int) + 1))) r p e (B + 1) := ⟨_, nv2, G2, iv2 + 1, hb2.set 1 _, hL2.setI _, by omega, he2⟩
          have F3 := F2.setC r 1 (.int .i64 ((iv2 : Int) + 1)) (fun _ => Nat.le_refl _)
          go_wp2_with fail
          refine (addM_err _ _ _ _ _ _ _ _ _ _ _ _ rfl hE3).mono ?_
          rintro v w4 ⟨f4, ⟨u4, rfl⟩, hE4⟩
          go_wp2_with fail
          go_ret
          exact ⟨_, GroupR.err (by omega) HO.out HA.out, F3.trans f4 (fun _ _ h => h), ⟨_, rfl⟩, hE4⟩
        | ok xs =>
          obtain ⟨x, s2⟩ := xs
          obtain ⟨f2, rfl, hM2⟩ := hP
          obtain ⟨hS2, hx2⟩ := hok
          have F2 := F1.trans f2 (fun _ _ h => h)
          obtain ⟨b0, b1, b4, z2, l2⟩ := hM2.cells
          have hM2' := hM2
          obtain ⟨g2, nv2, q2, hb2, hL2, hN2, hnr2⟩ := hM2'
          have hi2 := hS2.i
          go_wp2_with fail
          refine (isM_any hb2 hL2.p0 hL2.i1 41).mono ?_
          rintro e w3 ⟨rfl, hb3, f3⟩
          have hM3 := hM2.frame f3
          have F3 := F2.trans f3 (fun _ _ h => h.elim)
          clear b0 b1 b4 z2 l2
          obtain ⟨b0, b1, b4, z3, l3⟩ := hM3.cells
          cases hc : isB p s2.i 41 with
          | false =>
            go_wp2_with fail
            refine (failM_any hb3 0 hL2.e4 1 s.i).mono ?_
            rintro e w4 ⟨rfl, hb4, f4⟩
            rw [if_pos rfl] at hb4
            go_wp2_with fail
            go_ret
            exact ⟨_, GroupR.open_ (by omega) HO.out HA.out hc, F3.trans f4 (fun b _ h => by omega), ⟨_, rfl⟩, _, nv2, s2.g, s2.i, hb4, hL2.setE 1 s.i, by omega, by simp⟩
          | true =>
            have hlt2 := (isB_lt hc).1
            have hM4 := hM3.setI (s2.i + 1)
            have F4 := F3.setC r 1 (.int .i64 ((s2.i + 1 : Nat) : Int)) (fun _ => Nat.le_refl _)
            have hib2 : (s2.i : Int) ≤ 129 := by omega
            go_wp2_with fail
            have hv : ndV (grpNd x (s.g + 1)) = .agg #[.int .i64 7, .int .i64 (x : Nat), .int .i64 (-1), .int .i64 0, .int .i64 0, .int .i64 ((s.g : Int) + 1), .bool false, .int .u64 0, .int .u64 0, .int .u64 0, .int .u64 0] := by simp [ndV, grpNd, wd_zero]
            rw [← hv]
            refine (addM_any (grpNd x (s.g + 1)) hM4 hS2.len (B + 1) (by simp only; omega)).mono ?_
            intro v w5 hP
            have HP : Hid _ := hP
            obtain ⟨u, rfl⟩ := MPost.int hP
            go_wp2_with fail
            go_ret
            have hg := GroupR.shut (p := p) (d := d) (A := A) (by omega) HO.out HA.out hc
            rw [show shutS s2 x (s.g + 1) = addS ⟨s2.i + 1, s2.ns, s2.g⟩ (grpNd x (s.g + 1)) by unfold shutS; rw [if_neg (by omega)]] at hg
            exact ⟨_, hg, MPost.pre HP.out F4⟩

  · have kd : decide ((s.i : Int) + 2 < p.size) = false := decide_eq_false (by omega)
    have hfree : freeB p s.i = false := by simp [freeB, h2]
    by_cases hg : 3 ≤ s.g
    · have hg' : (3 : Int) ≤ s.g := by omega
      have HO : Hid _ := openS_full hfree hg
      clear hfree
      go_wp2_with fail
      refine wp_region_text (by kernel_rfl) (by kernel_rfl) ?_
      go_wp2_with fail
      refine ⟨by kernel_rfl, ?_⟩
      go_wp2_with fail
      refine (failM_any (hb.set 1 (.int .i64 ((s.i : Int) + 1))).drew 0 (hL.setI _).e4 7 s.i).mono ?_
      rintro v w1 ⟨rfl, hb1, f1⟩
      rw [if_pos rfl] at hb1
      go_wp2_with fail
      go_ret
      exact ⟨_, GroupR.many (by omega) HO.out, FI.drew.trans f1 (fun b _ h => by omega), ⟨_, rfl⟩, _, nv, s.g, s.i + 1, hb1, (hL.setI _).setE 7 s.i, by omega, by simp⟩
    · have hg' : (s.g : Int) ≤ 2 := by omega
      have HO : Hid _ := openS_num hfree (by omega)
      have hS1 := (openS_ok hS hi HO.out).1
      clear hfree hg
      have hM1 : MMem ((w.setCell ⟨r, 1, none⟩ (.int .i64 ((s.i : Int) + 1))).setCell ⟨r, 3, none⟩ (.int .i64 ((s.g : Int) + 1))).drew r p ⟨s.i + 1, s.ns, s.g + 1⟩ := ⟨_, nv, q, ((hb.set 1 _).set 3 _).drew, (hL.setI _).setG (s.g + 1), hN.far hnr (((Fr.refl (fun b => b = r) w).setC r 1 _ (fun _ => rfl)).setC r 3 _ (fun _ => rfl)).drew, hnr⟩
      have F1 := (FI.setC r 3 (.int .i64 ((s.g : Int) + 1)) (fun _ => Nat.le_refl _)).drew
      go_wp2_with fail
      refine wp_region_text (by kernel_rfl) (by kernel_rfl) ?_
      go_wp2_with fail
      refine ⟨by kernel_rfl, ?_⟩
      go_wp2_with fail
      refine (hA (by omega) _ _ hM1 hS1).mono ?_
      rintro v w2 ⟨res, ha, hP⟩
      have HA : Hid _ := ha
      have hok := hAok _ _ ha hS1
      clear ha hM1 hS1
      cases res with
      | error e =>
        obtain ⟨f2, ⟨u, rfl⟩, hE⟩ := hP
        obtain ⟨g2, nv2, G2, iv2, hb2, hL2, hiv2, he2⟩ := hE
        have a1 := hb2.cell (o := 1) (by omega)
        rw [hL2.i1] at a1
        have a4 := hb2.cell (o := 4) (by omega)
        rw [hL2.e4] at a4
        have z2 := hb2.frozen
        have l2 := hb2.lt
        have te : (e.1 == 0) = false := by simpa using he2
        have hivb : (iv2 : Int) ≤ 300 := by omega
        have F2 := F1.trans f2 (fun _ _ h => h)
        have hE3 : MErr (w2.setCell ⟨r, 1, none⟩ (.int .i64 ((iv2 : Int) + 1))) r p e (B + 1) := ⟨_, nv2, G2, iv2 + 1, hb2.set 1 _, hL2.setI _, by omega, he2⟩
        have F3 := F2.setC r 1 (.int .i64 ((iv2 : Int) + 1)) (fun _ => Nat.le_refl _)
        go_wp2_with fail
        refine (addM_err _ _ _ _ _ _ _ _ _ _ _ _ rfl hE3).mono ?_
        rintro v w4 ⟨f4, ⟨u4, rfl⟩, hE4⟩
        go_wp2_with fail
        go_ret
        exact ⟨_, GroupR.err (by omega) HO.out HA.out, F3.trans f4 (fun _ _ h => h), ⟨_, rfl⟩, hE4⟩
      | ok xs =>
        obtain ⟨x, s2⟩ := xs
        obtain ⟨f2, rfl, hM2⟩ := hP
        obtain ⟨hS2, hx2⟩ := hok
        have F2 := F1.trans f2 (fun _ _ h => h)
        obtain ⟨b0, b1, b4, z2, l2⟩ := hM2.cells
        have hM2' := hM2
        obtain ⟨g2, nv2, q2, hb2, hL2, hN2, hnr2⟩ := hM2'
        have hi2 := hS2.i
        go_wp2_with fail
        refine (isM_any hb2 hL2.p0 hL2.i1 41).mono ?_
        rintro e w3 ⟨rfl, hb3, f3⟩
        have hM3 := hM2.frame f3
        have F3 := F2.trans f3 (fun _ _ h => h.elim)
        clear b0 b1 b4 z2 l2
        obtain ⟨b0, b1, b4, z3, l3⟩ := hM3.cells
        cases hc : isB p s2.i 41 with
        | false =>
          go_wp2_with fail
          refine (failM_any hb3 0 hL2.e4 1 s.i).mono ?_
          rintro e w4 ⟨rfl, hb4, f4⟩
          rw [if_pos rfl] at hb4
          go_wp2_with fail
          go_ret
          exact ⟨_, GroupR.open_ (by omega) HO.out HA.out hc, F3.trans f4 (fun b _ h => by omega), ⟨_, rfl⟩, _, nv2, s2.g, s2.i, hb4, hL2.setE 1 s.i, by omega, by simp⟩
        | true =>
          have hlt2 := (isB_lt hc).1
          have hM4 := hM3.setI (s2.i + 1)
          have F4 := F3.setC r 1 (.int .i64 ((s2.i + 1 : Nat) : Int)) (fun _ => Nat.le_refl _)
          have hib2 : (s2.i : Int) ≤ 129 := by omega
          go_wp2_with fail
          have hv : ndV (grpNd x (s.g + 1)) = .agg #[.int .i64 7, .int .i64 (x : Nat), .int .i64 (-1), .int .i64 0, .int .i64 0, .int .i64 ((s.g : Int) + 1), .bool false, .int .u64 0, .int .u64 0, .int .u64 0, .int .u64 0] := by simp [ndV, grpNd, wd_zero]
          rw [← hv]
          refine (addM_any (grpNd x (s.g + 1)) hM4 hS2.len (B + 1) (by simp only; omega)).mono ?_
          intro v w5 hP
          have HP : Hid _ := hP
          obtain ⟨u, rfl⟩ := MPost.int hP
          go_wp2_with fail
          go_ret
          have hg := GroupR.shut (p := p) (d := d) (A := A) (by omega) HO.out HA.out hc
          rw [show shutS s2 x (s.g + 1) = addS ⟨s2.i + 1, s2.ns, s2.g⟩ (grpNd x (s.g + 1)) by unfold shutS; rw [if_neg (by omega)]] at hg
          exact ⟨_, hg, MPost.pre HP.out F4⟩

end Go.Proofs.Qxb6500283aGreat
