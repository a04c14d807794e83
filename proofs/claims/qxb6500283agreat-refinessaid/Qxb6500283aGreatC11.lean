/- The model's cat. -/
import Derived.Test.Qxb6500283aGreatC10
namespace Go.Proofs.Qxb6500283aGreat
open Go Go.RowKit

set_option maxRecDepth 100000 in
set_option maxHeartbeats 16000000 in
theorem catM_any {w : World} {r : Nat} {p : ByteArray} {s : Sg} {d B : Nat} {A : Sg → Res → Prop} (hB : 210 ≤ B) (hM : MMem w r p s) (hS : SgOk p s) (hsz : p.size ≤ 129) (hAok : AltOk p A) (hAG : AltG A) (hAI : AltI A)
    (hRep : ∀ w' s', MMem w' r p s' → SgOk p s' → s'.i < p.size → Calls Tryz.prog 133 #[.pointer (some ⟨r, 0, none⟩), .int .i64 (d : Nat)] w' fun v w'' => ∃ res, RepR p d A s' res ∧ MPost w' r p res B v w'') :
    Calls Tryz.prog 99 #[.pointer (some ⟨r, 0, none⟩), .int .i64 (d : Nat)] w fun v w' => ∃ res, CatL p d A none s res ∧ MPost w r p res B v w' := by
  go_enter Tryz.func99, Tryz.ntmps99
  go_wp2_with fail
  go_loopg [5] p.size (fun gk xv wr => (∃ (l : Option Nat) (s1 : Sg), xv = .int .i64 (oi l) ∧ MMem wr r p s1 ∧ SgOk p s1 ∧ (∀ k, l = some k → k < s1.ns.length) ∧ (∀ res, CatL p d A l s1 res → CatL p d A none s res) ∧ p.size ≤ s1.i + gk ∧ Fr (fun b => r ≤ b) w wr) ∨ (∃ (e : Er) (u : Int), xv = .int .i64 u ∧ MErr wr r p e B ∧ CatL p d A none s (.error e) ∧ Fr (fun b => r ≤ b) w wr))
  case atStart => exact .inl ⟨none, s, rfl, hM, hS, fun k e => (by cases e), fun _ h => h, by omega, Fr.refl _ _⟩
  case round =>
    rcases hrel with ⟨l, s1, rfl, hM1, hS1, hl1, hcont, hig, FJ⟩ | ⟨e, u, rfl, hE, hR, FJ⟩
    · have hig' : p.size ≤ s1.i + gk := hig
      clear hig
      have Hc : Hid _ := hcont
      clear hcont
      have hM1d := hM1.frame (Fr.refl (fun _ => False) wr).drew
      have FJd := FJ.drew
      obtain ⟨d0, d1, d4, z1, l1⟩ := hM1.cells
      have hi1 := hS1.i
      have hlen1 := hS1.len
      by_cases k1 : s1.i < p.size
      · have kd : decide ((s1.i : Int) < p.size) = true := decide_eq_true (by omega)
        have Hbt : Hid _ := bt_at p s1.i k1
        by_cases k2 : p[s1.i].toNat = 124
        · have t124 : (p[s1.i].toNat == 124) = true := by simp [k2]
          have t124' : ((p[s1.i].toNat : Int) == 124) = true := by simp; omega
          have n124 : (p[s1.i].toNat != 124) = false := by simp [k2]
          have n124' : ((p[s1.i].toNat : Int) != 124) = false := by simp; omega
          have kstop : stopB p s1.i = true := by have := Hbt.out; simp [stopB, this, k2]
          clear k2
          have Hst : Hid _ := kstop
          clear kstop
          cases l with
          | none =>
            simp only [oi]
            go_wp2_with fail
            refine wp_region_text (by kernel_rfl) (by kernel_rfl) ?_
            go_wp2_with fail
            refine ⟨by kernel_rfl, ?_⟩
            go_wp2_with fail
            rw [← ndV_emp]
            refine (addM_any (leafNd 0 noP) hM1d hS1.len B (by omega)).mono ?_
            intro v w5 hP
            have HP : Hid _ := hP
            obtain ⟨u, rfl⟩ := MPost.int hP
            go_wp2_with fail
            go_ret
            exact ⟨_, Hc.out _ (CatL.empty Hst.out), MPost.pre HP.out FJd⟩
          | some k =>
            simp only [oi]
            go_wp2_with fail
            refine wp_region_text (by kernel_rfl) (by kernel_rfl) ?_
            go_wp2_with fail
            refine ⟨by kernel_rfl, ?_⟩
            go_wp2_with fail
            go_ret
            exact ⟨.ok (k, s1), Hc.out _ (CatL.stop Hst.out), FJd, rfl, hM1d⟩
        · have t124 : (p[s1.i].toNat == 124) = false := by simp [k2]
          have t124' : ((p[s1.i].toNat : Int) == 124) = false := by simp; omega
          have n124 : (p[s1.i].toNat != 124) = true := by simp [k2]
          have n124' : ((p[s1.i].toNat : Int) != 124) = true := by simp; omega
          by_cases k3 : p[s1.i].toNat = 41
          · have t41 : (p[s1.i].toNat == 41) = true := by simp [k3]
            have t41' : ((p[s1.i].toNat : Int) == 41) = true := by simp; omega
            have n41 : (p[s1.i].toNat != 41) = false := by simp [k3]
            have n41' : ((p[s1.i].toNat : Int) != 41) = false := by simp; omega
            have kstop : stopB p s1.i = true := by have := Hbt.out; simp [stopB, this, k3]
            clear k2 k3
            have Hst : Hid _ := kstop
            clear kstop
            cases l with
            | none =>
              simp only [oi]
              go_wp2_with fail
              refine wp_region_text (by kernel_rfl) (by kernel_rfl) ?_
              go_wp2_with fail
              refine ⟨by kernel_rfl, ?_⟩
              go_wp2_with fail
              rw [← ndV_emp]
              refine (addM_any (leafNd 0 noP) hM1d hS1.len B (by omega)).mono ?_
              intro v w5 hP
              have HP : Hid _ := hP
              obtain ⟨u, rfl⟩ := MPost.int hP
              go_wp2_with fail
              go_ret
              exact ⟨_, Hc.out _ (CatL.empty Hst.out), MPost.pre HP.out FJd⟩
            | some k =>
              simp only [oi]
              go_wp2_with fail
              refine wp_region_text (by kernel_rfl) (by kernel_rfl) ?_
              go_wp2_with fail
              refine ⟨by kernel_rfl, ?_⟩
              go_wp2_with fail
              go_ret
              exact ⟨.ok (k, s1), Hc.out _ (CatL.stop Hst.out), FJd, rfl, hM1d⟩
          · have t41 : (p[s1.i].toNat == 41) = false := by simp [k3]
            have t41' : ((p[s1.i].toNat : Int) == 41) = false := by simp; omega
            have n41 : (p[s1.i].toNat != 41) = true := by simp [k3]
            have n41' : ((p[s1.i].toNat : Int) != 41) = true := by simp; omega
            have kstop : stopB p s1.i = false := by have := Hbt.out; simp [stopB, this, k1, k2, k3]
            clear k2 k3
            have Hst : Hid _ := kstop
            clear kstop
            cases l with
            | none =>
              simp only [oi]
              go_wp2_with fail
              refine wp_region_text (by kernel_rfl) (by kernel_rfl) ?_
              go_wp2_with fail
              refine ⟨by kernel_rfl, ?_⟩
              go_wp2_with fail
              refine (hRep _ s1 hM1d hS1 k1).mono ?_
              rintro v w2 ⟨res, hr, hP⟩
              have hok := RepR.fine hAok hr hS1 k1
              have hlt := RepR.lt hAI hr k1
              have HR : Hid _ := hr
              clear hr d0 d1 d4 z1 l1
              cases res with
              | error e =>
                obtain ⟨f2, ⟨u, rfl⟩, hE⟩ := hP
                have F2 := FJd.trans f2 (fun _ _ h => h)
                go_wp2_with fail
                go_roundg 0
                case measure => omega
                case rel => exact .inr ⟨e, u, rfl, hE, Hc.out _ (CatL.err Hst.out HR.out), F2⟩
              | ok xs =>
                obtain ⟨x, s2⟩ := xs
                obtain ⟨f2, rfl, hM2⟩ := hP
                obtain ⟨hS2, hx2⟩ := hok
                have hlt2 := hlt _ _ rfl
                clear hlt
                have F2 := FJd.trans f2 (fun _ _ h => h)
                go_wp2_with fail
                go_roundg (p.size - s2.i)
                case measure => omega
                case rel => exact .inl ⟨some x, s2, rfl, hM2, hS2, fun k e => (by cases e; omega), fun res h => Hc.out _ (CatL.more Hst.out HR.out rfl h), by omega, F2⟩
            | some k =>
              have hkl := hl1 k rfl
              simp only [oi]
              go_wp2_with fail
              refine wp_region_text (by kernel_rfl) (by kernel_rfl) ?_
              go_wp2_with fail
              refine ⟨by kernel_rfl, ?_⟩
              go_wp2_with fail
              refine (hRep _ s1 hM1d hS1 k1).mono ?_
              rintro v w2 ⟨res, hr, hP⟩
              have hok := RepR.fine hAok hr hS1 k1
              have hlt := RepR.lt hAI hr k1
              have hgr := RepR.grow hAG hr
              have HR : Hid _ := hr
              clear hr d0 d1 d4 z1 l1
              cases res with
              | error e =>
                obtain ⟨f2, ⟨u, rfl⟩, hE⟩ := hP
                have F2 := FJd.trans f2 (fun _ _ h => h)
                go_wp2_with fail
                refine (addM_err _ _ _ _ _ _ _ _ _ _ _ _ rfl hE).mono ?_
                rintro v w3 ⟨f3, ⟨u3, rfl⟩, hE3⟩
                go_wp2_with fail
                go_roundg 0
                case measure => omega
                case rel => exact .inr ⟨e, u3, rfl, hE3, Hc.out _ (CatL.err Hst.out HR.out), F2.trans f3 (fun _ _ h => h)⟩
              | ok xs =>
                obtain ⟨x, s2⟩ := xs
                obtain ⟨f2, rfl, hM2⟩ := hP
                obtain ⟨hS2, hx2⟩ := hok
                have hlt2 := hlt _ _ rfl
                have hgl := hgr.len rfl
                clear hlt hgr
                have F2 := FJd.trans f2 (fun _ _ h => h)
                have hi2 := hS2.i
                go_wp2_with fail
                rw [← ndV_cat]
                refine (addM_any (catNd k x) hM2 hS2.len B (by omega)).mono ?_
                intro v w3 hP3
                have hok3 := addS_ok (n := catNd k x) hS2 (okNd.cat (by omega) (by omega))
                cases hadd : addS s2 (catNd k x) with
                | error e =>
                  rw [hadd] at hP3
                  obtain ⟨f3, ⟨u3, rfl⟩, hE3⟩ := hP3
                  have HA : Hid _ := hadd
                  clear hadd
                  go_wp2_with fail
                  go_roundg 0
                  case measure => omega
                  case rel => exact .inr ⟨e, u3, rfl, hE3, Hc.out _ (CatL.big Hst.out HR.out HA.out), F2.trans f3 (fun _ _ h => h)⟩
                | ok yv =>
                  obtain ⟨y, s3⟩ := yv
                  rw [hadd] at hP3 hok3
                  obtain ⟨f3, rfl, hM3⟩ := hP3
                  obtain ⟨hS3, hy3⟩ := hok3
                  have hi3 := (addS_grow hadd).1
                  have HA : Hid _ := hadd
                  clear hadd
                  go_wp2_with fail
                  go_roundg (p.size - s3.i)
                  case measure => omega
                  case rel => exact .inl ⟨some y, s3, rfl, hM3, hS3, fun k e => (by cases e; omega), fun res h => Hc.out _ (CatL.more Hst.out HR.out HA.out h), by omega, F2.trans f3 (fun _ _ h => h)⟩
      · have kd : decide ((s1.i : Int) < p.size) = false := decide_eq_false (by omega)
        have kstop : stopB p s1.i = true := by simp [stopB, k1]
        have Hst : Hid _ := kstop
        clear kstop
        cases l with
        | none =>
          simp only [oi]
          go_wp2_with fail
          refine wp_region_text (by kernel_rfl) (by kernel_rfl) ?_
          go_wp2_with fail
          refine ⟨by kernel_rfl, ?_⟩
          go_wp2_with fail
          rw [← ndV_emp]
          refine (addM_any (leafNd 0 noP) hM1d hS1.len B (by omega)).mono ?_
          intro v w5 hP
          have HP : Hid _ := hP
          obtain ⟨u, rfl⟩ := MPost.int hP
          go_wp2_with fail
          go_ret
          exact ⟨_, Hc.out _ (CatL.empty Hst.out), MPost.pre HP.out FJd⟩
        | some k =>
          simp only [oi]
          go_wp2_with fail
          refine wp_region_text (by kernel_rfl) (by kernel_rfl) ?_
          go_wp2_with fail
          refine ⟨by kernel_rfl, ?_⟩
          go_wp2_with fail
          go_ret
          exact ⟨.ok (k, s1), Hc.out _ (CatL.stop Hst.out), FJd, rfl, hM1d⟩
    · have HR : Hid _ := hR
      clear hR
      have hEd : MErr wr.drew r p e B := by
        obtain ⟨gE, nvE, GE, ivE, hbE, h⟩ := hE
        exact ⟨gE, nvE, GE, ivE, hbE.drew, h⟩
      have hE' := hE
      obtain ⟨gE, nvE, GE, ivE, hbE, hLE, hivE, heE⟩ := hE'
      have c4 := hbE.cell (o := 4) (by omega)
      rw [hLE.e4] at c4
      have lE := hbE.lt
      have te : (e.1 == 0) = false := by simpa using heE
      by_cases hu : u < 0
      · have hud : decide (u < 0) = true := decide_eq_true hu
        have hu' : u ≤ -1 := by omega
        clear hu
        go_wp2_with fail
        refine wp_region_text (by kernel_rfl) (by kernel_rfl) ?_
        go_wp2_with fail
        refine ⟨by kernel_rfl, ?_⟩
        go_wp2_with fail
        refine (addM_err _ _ _ _ _ _ _ _ _ _ _ _ rfl hEd).mono ?_
        rintro v w3 ⟨f3, ⟨u3, rfl⟩, hE3⟩
        go_wp2_with fail
        go_ret
        exact ⟨.error e, HR.out, FJ.drew.trans f3 (fun _ _ h => h), ⟨_, rfl⟩, hE3⟩
      · have hud : decide (u < 0) = false := decide_eq_false hu
        have hu' : 0 ≤ u := by omega
        clear hu
        go_wp2_with fail
        refine wp_region_text (by kernel_rfl) (by kernel_rfl) ?_
        go_wp2_with fail
        refine ⟨by kernel_rfl, ?_⟩
        go_wp2_with fail
        go_ret
        exact ⟨.error e, HR.out, FJ.drew, ⟨_, rfl⟩, hEd⟩
end Go.Proofs.Qxb6500283aGreat
