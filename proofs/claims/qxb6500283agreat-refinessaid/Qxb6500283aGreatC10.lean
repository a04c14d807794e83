/- The model's rep. -/
import Derived.Test.Qxb6500283aGreatC9
import Derived.Test.Qxb6500283aGreatA11
import Derived.Test.Qxb6500283aGreatSyn6
namespace Go.Proofs.Qxb6500283aGreat
open Go Go.RowKit

theorem countM_none {p : ByteArray} {i : Nat} (h : countM p i = none) : i < p.size → signB (bt p i) = false := by
  intro hi
  unfold countM at h
  split at h
  · cases h
  · rename_i hn
    cases hs : signB (bt p i) with
    | false => rfl
    | true => exact absurd ⟨hi, hs⟩ hn
theorem countM_some {p : ByteArray} {i : Nat} {o : Option (Int × Int × Nat)} (h : countM p i = some o) : i < p.size ∧ signB (bt p i) = true ∧ count p i = o := by
  unfold countM at h
  split at h
  · rename_i hn
    cases h
    exact ⟨hn.1, hn.2, rfl⟩
  · cases h
theorem MMem.nodes {w : World} {r : Nat} {p : ByteArray} {s : Sg} (h : MMem w r p s) {x : Nat} (hx : x < s.ns.length) : ∃ bk cp, w.cell? ⟨r, 2, none⟩ = some (.slice (some ⟨bk, 0, none⟩) s.ns.length cp) ∧ NPAt w bk s.ns := by
  obtain ⟨g, nv, q, hb, hL, hN, hnr⟩ := h
  obtain ⟨a, cap, hv, h⟩ := hN.sl
  rcases h with h | ⟨b, rfl, h⟩
  · rw [h] at hx; simp at hx
  · exact ⟨b, cap, by rw [hb.cell (by omega), hL.n2, hv], h⟩
set_option maxRecDepth 100000 in
set_option maxHeartbeats 16000000 in
theorem repM_any {w : World} {r : Nat} {p : ByteArray} {s : Sg} {d B : Nat} {A : Sg → Res → Prop} (hB : 210 ≤ B) (hS : SgOk p s) (hsz : p.size ≤ 129) (hi : s.i < p.size) (hAok : AltOk p A)
    (hAt : Calls Tryz.prog 151 #[.pointer (some ⟨r, 0, none⟩), .int .i64 (d : Nat)] w fun v w' => ∃ res, AtomR p d A s res ∧ MPost w r p res B v w') :
    Calls Tryz.prog 133 #[.pointer (some ⟨r, 0, none⟩), .int .i64 (d : Nat)] w fun v w' => ∃ res, RepR p d A s res ∧ MPost w r p res B v w' := by
  go_enter Tryz.func133, Tryz.ntmps133
  go_wp2_with fail
  refine hAt.mono ?_
  rintro v w1 ⟨res1, hat, hP⟩
  have hok := AtomR.ok hAok hat hS hi
  have HAt : Hid _ := hat
  have HP : Hid _ := hP
  obtain ⟨u1, rfl⟩ := hP.int
  clear hP hat hAt
  go_wp2_with fail
  go_loopg [5] p.size (fun gk xv wr => (∃ (x : Nat) (s1 : Sg), xv = .int .i64 (x : Nat) ∧ MMem wr r p s1 ∧ SgOk p s1 ∧ x + 1 = s1.ns.length ∧ (∀ res, RepL p x s1 res → RepR p d A s res) ∧ p.size ≤ s1.i + gk ∧ Fr (fun b => r ≤ b) w wr) ∨ (∃ (e : Er) (u : Int), xv = .int .i64 u ∧ MErr wr r p e B ∧ RepR p d A s (.error e) ∧ Fr (fun b => r ≤ b) w wr))
  case atStart =>
    obtain ⟨f1, hP⟩ := HP.out
    cases res1 with
    | error e =>
      obtain ⟨_, hE⟩ := hP
      exact .inr ⟨e, u1, rfl, hE, RepR.err HAt.out, f1⟩
    | ok v =>
      obtain ⟨x, s1⟩ := v
      obtain ⟨he, hM1⟩ := hP
      injection he with he
      obtain ⟨hS1, hx1⟩ := hok
      exact .inl ⟨x, s1, he, hM1, hS1, hx1, fun res h => RepR.ok HAt.out h, by omega, f1⟩
  case round =>
    clear hok HAt HP
    rcases hrel with ⟨x, s1, rfl, hM1, hS1, hx1, hcont, hig, FJ⟩ | ⟨e, u, rfl, hE, hR, FJ⟩
    · have hig' : p.size ≤ s1.i + gk := hig
      clear hig
      have Hc : Hid _ := hcont
      clear hcont
      obtain ⟨d0, d1, d4, z1, l1⟩ := hM1.cells
      have hM1' := hM1
      obtain ⟨g1, nv1, q1, hb1, hL1, hN1, hnr1⟩ := hM1'
      have hi1 := hS1.i
      go_wp2_with fail
      refine (countM_any hb1 hL1.p0 hL1.i1 hL1.e4 hsz hi1).mono ?_
      intro v w2 hC
      clear d0 d1 d4 z1 l1
      cases hcm : countM p s1.i with
      | none =>
        rw [hcm] at hC
        obtain ⟨rfl, hb2, f2⟩ := hC
        have HD : Hid _ := countM_none hcm
        clear hcm
        go_wp2_with fail
        go_ret
        exact ⟨.ok (x, s1), Hc.out _ (RepL.done HD.out), FJ.trans f2 (fun b _ h => by omega), rfl, _, nv1, q1, hb2, hL1.setI _, hN1.far hnr1 f2, hnr1⟩
      | some o =>
        obtain ⟨hlt, hsg, hct⟩ := countM_some hcm
        rw [hcm] at hC
        clear hcm
        have Hsg : Hid _ := hsg
        have Hct : Hid _ := hct
        clear hsg hct
        cases o with
        | none =>
          obtain ⟨rfl, ⟨iv, hiv, hb2⟩, f2⟩ := hC
          go_wp2_with fail
          go_ret
          exact ⟨.error (3, s1.i), Hc.out _ (RepL.bad hlt Hsg.out Hct.out), FJ.trans f2 (fun b _ h => by omega), ⟨_, rfl⟩, _, nv1, s1.g, iv, hb2, (hL1.setI _).setE 3 s1.i, by omega, by simp⟩
        | some t =>
          obtain ⟨lo, hi2, j⟩ := t
          obtain ⟨rfl, hb2, f2⟩ := hC
          have hcl := count_le hlt Hct.out
          obtain ⟨hj1, hj2, hlo0, hlo3, hhi3⟩ := hcl
          have F2 := FJ.trans f2 (fun b _ h => by omega)
          have hM2 : MMem w2 r p ⟨j, s1.ns, s1.g⟩ := ⟨_, nv1, q1, hb2, hL1.setI _, hN1.far hnr1 f2, hnr1⟩
          go_wp2_with fail
          refine (isM_any hb2 (hL1.setI _).p0 (hL1.setI _).i1 63).mono ?_
          rintro e w3 ⟨rfl, hb3, f3⟩
          have hM3 := hM2.frame f3
          have F3 := F2.trans f3 (fun _ _ h => h.elim)
          have hjb : (j : Int) ≤ 129 := by omega
          obtain ⟨d0, d1, d4, z3, l3⟩ := hM3.cells
          simp only at d1
          have hlen1 := hS1.len
          cases hz : isB p j 63 with
          | true =>
            have Hle : Hid _ := (show lazyEnd p j = j + 1 by simp [lazyEnd, hz])
            have hjs := (isB_lt hz).1
            have hM4 : MMem (w3.setCell ⟨r, 1, none⟩ (.int .i64 ((j : Int) + 1))) r p ⟨j + 1, s1.ns, s1.g⟩ := hM3.setI (j + 1)
            have F4 := F3.setC r 1 (.int .i64 ((j : Int) + 1)) (fun _ => Nat.le_refl _)
            obtain ⟨bk, cp, hcell, hNP⟩ := hM4.nodes (x := x) (by first | omega | (simp only; omega))
            simp only at hcell hNP
            clear d0
            by_cases hneg : hi2 < 0
            · have hneg' : hi2 ≤ -1 := by omega
              have hnd : decide (hi2 < 0) = true := decide_eq_true hneg
              clear hneg
              go_wp2_with fail
              refine (nullM_any hS1.wf x (by omega) _ bk cp hNP).mono ?_
              rintro e w5 ⟨rfl, f5⟩
              have hM5 := hM4.frame f5
              have F5 := F4.trans f5 (fun _ _ h => h.elim)
              clear hcell hNP
              cases hn : nul s1.ns x with
              | true =>
                obtain ⟨g5, nv5, q5, hb5, hL5, hN5, hnr5⟩ := hM5
                go_wp2_with fail
                refine (failM_any hb5 0 hL5.e4 5 s1.i).mono ?_
                rintro v w6 ⟨rfl, hb6, f6⟩
                rw [if_pos rfl] at hb6
                go_wp2_with fail
                go_ret
                exact ⟨.error (5, s1.i), Hc.out _ (RepL.loop hlt Hsg.out Hct.out (by omega) hn), F5.trans f6 (fun b _ h => by omega), ⟨_, rfl⟩, _, nv5, s1.g, _, hb6, hL5.setE 5 s1.i, by first | omega | (simp only; omega), by simp⟩
              | false =>
                have Hnn : Hid _ := (show ¬ (hi2 < 0 ∧ nul s1.ns x = true) by rw [hn]; simp)
                clear hn
                go_wp2_with fail
                have hv : ndV (repNd x lo hi2 true) = .agg #[.int .i64 6, .int .i64 (x : Nat), .int .i64 (-1), .int .i64 lo, .int .i64 hi2, .int .i64 0, .bool true, .int .u64 0, .int .u64 0, .int .u64 0, .int .u64 0] := by simp [ndV, repNd, wd_zero]
                rw [← hv]
                clear hv
                refine (addM_any (repNd x lo hi2 true) hM5 hS1.len B (by first | omega | (simp only; omega))).mono ?_
                intro v w6 hP
                have hok6 := addS_ok (p := p) (s := ⟨j + 1, s1.ns, s1.g⟩) (n := repNd x lo hi2 true) ⟨hS1.wf, hS1.len, hS1.g, by simp only; omega⟩ (okNd.rep (by first | omega | (simp only; omega)))
                cases hadd : addS ⟨j + 1, s1.ns, s1.g⟩ (repNd x lo hi2 true) with
                | error e =>
                  rw [hadd] at hP
                  obtain ⟨f6, ⟨u, rfl⟩, hE6⟩ := hP
                  have HA : Hid _ := hadd
                  clear hadd
                  go_wp2_with fail
                  go_roundg 0
                  case measure => omega
                  case rel => exact .inr ⟨e, u, rfl, hE6, Hc.out _ (RepL.big hlt Hsg.out Hct.out (by have := Hnn.out; exact this) (by rw [Hle.out, hz]; exact HA.out)), F5.trans f6 (fun _ _ h => h)⟩
                | ok yv =>
                  obtain ⟨y, s2⟩ := yv
                  rw [hadd] at hP hok6
                  obtain ⟨f6, rfl, hM6⟩ := hP
                  obtain ⟨hS6, hy6⟩ := hok6
                  have hi6 := (addS_grow hadd).1
                  simp only at hi6
                  have HA : Hid _ := hadd
                  clear hadd
                  go_wp2_with fail
                  go_roundg (p.size - s2.i)
                  case measure => omega
                  case rel => exact .inl ⟨y, s2, rfl, hM6, hS6, hy6, fun res h => Hc.out _ (RepL.more hlt Hsg.out Hct.out (by have := Hnn.out; exact this) (by rw [Hle.out, hz]; exact HA.out) h), by omega, F5.trans f6 (fun _ _ h => h)⟩
            · have hneg' : 0 ≤ hi2 := by omega
              have hnd : decide (hi2 < 0) = false := decide_eq_false hneg
              have Hnn : Hid _ := (show ¬ (hi2 < 0 ∧ nul s1.ns x = true) by intro h; exact hneg h.1)
              clear hneg hcell hNP
              have hM5 := hM4
              have F5 := F4
              go_wp2_with fail
              have hv : ndV (repNd x lo hi2 true) = .agg #[.int .i64 6, .int .i64 (x : Nat), .int .i64 (-1), .int .i64 lo, .int .i64 hi2, .int .i64 0, .bool true, .int .u64 0, .int .u64 0, .int .u64 0, .int .u64 0] := by simp [ndV, repNd, wd_zero]
              rw [← hv]
              clear hv
              refine (addM_any (repNd x lo hi2 true) hM5 hS1.len B (by first | omega | (simp only; omega))).mono ?_
              intro v w6 hP
              have hok6 := addS_ok (p := p) (s := ⟨j + 1, s1.ns, s1.g⟩) (n := repNd x lo hi2 true) ⟨hS1.wf, hS1.len, hS1.g, by simp only; omega⟩ (okNd.rep (by first | omega | (simp only; omega)))
              cases hadd : addS ⟨j + 1, s1.ns, s1.g⟩ (repNd x lo hi2 true) with
              | error e =>
                rw [hadd] at hP
                obtain ⟨f6, ⟨u, rfl⟩, hE6⟩ := hP
                have HA : Hid _ := hadd
                clear hadd
                go_wp2_with fail
                go_roundg 0
                case measure => omega
                case rel => exact .inr ⟨e, u, rfl, hE6, Hc.out _ (RepL.big hlt Hsg.out Hct.out (by have := Hnn.out; exact this) (by rw [Hle.out, hz]; exact HA.out)), F5.trans f6 (fun _ _ h => h)⟩
              | ok yv =>
                obtain ⟨y, s2⟩ := yv
                rw [hadd] at hP hok6
                obtain ⟨f6, rfl, hM6⟩ := hP
                obtain ⟨hS6, hy6⟩ := hok6
                have hi6 := (addS_grow hadd).1
                simp only at hi6
                have HA : Hid _ := hadd
                clear hadd
                go_wp2_with fail
                go_roundg (p.size - s2.i)
                case measure => omega
                case rel => exact .inl ⟨y, s2, rfl, hM6, hS6, hy6, fun res h => Hc.out _ (RepL.more hlt Hsg.out Hct.out (by have := Hnn.out; exact this) (by rw [Hle.out, hz]; exact HA.out) h), by omega, F5.trans f6 (fun _ _ h => h)⟩
          | false =>
            have Hle : Hid _ := (show lazyEnd p j = j by simp [lazyEnd, hz])
            have hM4 := hM3
            have F4 := F3
            obtain ⟨bk, cp, hcell, hNP⟩ := hM4.nodes (x := x) (by first | omega | (simp only; omega))
            simp only at hcell hNP
            clear d0
            by_cases hneg : hi2 < 0
            · have hneg' : hi2 ≤ -1 := by omega
              have hnd : decide (hi2 < 0) = true := decide_eq_true hneg
              clear hneg
              go_wp2_with fail
              refine (nullM_any hS1.wf x (by omega) _ bk cp hNP).mono ?_
              rintro e w5 ⟨rfl, f5⟩
              have hM5 := hM4.frame f5
              have F5 := F4.trans f5 (fun _ _ h => h.elim)
              clear hcell hNP
              cases hn : nul s1.ns x with
              | true =>
                obtain ⟨g5, nv5, q5, hb5, hL5, hN5, hnr5⟩ := hM5
                go_wp2_with fail
                refine (failM_any hb5 0 hL5.e4 5 s1.i).mono ?_
                rintro v w6 ⟨rfl, hb6, f6⟩
                rw [if_pos rfl] at hb6
                go_wp2_with fail
                go_ret
                exact ⟨.error (5, s1.i), Hc.out _ (RepL.loop hlt Hsg.out Hct.out (by omega) hn), F5.trans f6 (fun b _ h => by omega), ⟨_, rfl⟩, _, nv5, s1.g, _, hb6, hL5.setE 5 s1.i, by first | omega | (simp only; omega), by simp⟩
              | false =>
                have Hnn : Hid _ := (show ¬ (hi2 < 0 ∧ nul s1.ns x = true) by rw [hn]; simp)
                clear hn
                go_wp2_with fail
                have hv : ndV (repNd x lo hi2 false) = .agg #[.int .i64 6, .int .i64 (x : Nat), .int .i64 (-1), .int .i64 lo, .int .i64 hi2, .int .i64 0, .bool false, .int .u64 0, .int .u64 0, .int .u64 0, .int .u64 0] := by simp [ndV, repNd, wd_zero]
                rw [← hv]
                clear hv
                refine (addM_any (repNd x lo hi2 false) hM5 hS1.len B (by first | omega | (simp only; omega))).mono ?_
                intro v w6 hP
                have hok6 := addS_ok (p := p) (s := ⟨j, s1.ns, s1.g⟩) (n := repNd x lo hi2 false) ⟨hS1.wf, hS1.len, hS1.g, by simp only; omega⟩ (okNd.rep (by first | omega | (simp only; omega)))
                cases hadd : addS ⟨j, s1.ns, s1.g⟩ (repNd x lo hi2 false) with
                | error e =>
                  rw [hadd] at hP
                  obtain ⟨f6, ⟨u, rfl⟩, hE6⟩ := hP
                  have HA : Hid _ := hadd
                  clear hadd
                  go_wp2_with fail
                  go_roundg 0
                  case measure => omega
                  case rel => exact .inr ⟨e, u, rfl, hE6, Hc.out _ (RepL.big hlt Hsg.out Hct.out (by have := Hnn.out; exact this) (by rw [Hle.out, hz]; exact HA.out)), F5.trans f6 (fun _ _ h => h)⟩
                | ok yv =>
                  obtain ⟨y, s2⟩ := yv
                  rw [hadd] at hP hok6
                  obtain ⟨f6, rfl, hM6⟩ := hP
                  obtain ⟨hS6, hy6⟩ := hok6
                  have hi6 := (addS_grow hadd).1
                  simp only at hi6
                  have HA : Hid _ := hadd
                  clear hadd
                  go_wp2_with fail
                  go_roundg (p.size - s2.i)
                  case measure => omega
                  case rel => exact .inl ⟨y, s2, rfl, hM6, hS6, hy6, fun res h => Hc.out _ (RepL.more hlt Hsg.out Hct.out (by have := Hnn.out; exact this) (by rw [Hle.out, hz]; exact HA.out) h), by omega, F5.trans f6 (fun _ _ h => h)⟩
            · have hneg' : 0 ≤ hi2 := by omega
              have hnd : decide (hi2 < 0) = false := decide_eq_false hneg
              have Hnn : Hid _ := (show ¬ (hi2 < 0 ∧ nul s1.ns x = true) by intro h; exact hneg h.1)
              clear hneg hcell hNP
              have hM5 := hM4
              have F5 := F4
              go_wp2_with fail
              have hv : ndV (repNd x lo hi2 false) = .agg #[.int .i64 6, .int .i64 (x : Nat), .int .i64 (-1), .int .i64 lo, .int .i64 hi2, .int .i64 0, .bool false, .int .u64 0, .int .u64 0, .int .u64 0, .int .u64 0] := by simp [ndV, repNd, wd_zero]
              rw [← hv]
              clear hv
              refine (addM_any (repNd x lo hi2 false) hM5 hS1.len B (by first | omega | (simp only; omega))).mono ?_
              intro v w6 hP
              have hok6 := addS_ok (p := p) (s := ⟨j, s1.ns, s1.g⟩) (n := repNd x lo hi2 false) ⟨hS1.wf, hS1.len, hS1.g, by simp only; omega⟩ (okNd.rep (by first | omega | (simp only; omega)))
              cases hadd : addS ⟨j, s1.ns, s1.g⟩ (repNd x lo hi2 false) with
              | error e =>
                rw [hadd] at hP
                obtain ⟨f6, ⟨u, rfl⟩, hE6⟩ := hP
                have HA : Hid _ := hadd
                clear hadd
                go_wp2_with fail
                go_roundg 0
                case measure => omega
                case rel => exact .inr ⟨e, u, rfl, hE6, Hc.out _ (RepL.big hlt Hsg.out Hct.out (by have := Hnn.out; exact this) (by rw [Hle.out, hz]; exact HA.out)), F5.trans f6 (fun _ _ h => h)⟩
              | ok yv =>
                obtain ⟨y, s2⟩ := yv
                rw [hadd] at hP hok6
                obtain ⟨f6, rfl, hM6⟩ := hP
                obtain ⟨hS6, hy6⟩ := hok6
                have hi6 := (addS_grow hadd).1
                simp only at hi6
                have HA : Hid _ := hadd
                clear hadd
                go_wp2_with fail
                go_roundg (p.size - s2.i)
                case measure => omega
                case rel => exact .inl ⟨y, s2, rfl, hM6, hS6, hy6, fun res h => Hc.out _ (RepL.more hlt Hsg.out Hct.out (by have := Hnn.out; exact this) (by rw [Hle.out, hz]; exact HA.out) h), by omega, F5.trans f6 (fun _ _ h => h)⟩
    · have HR : Hid _ := hR
      clear hR
      have hE' := hE
      obtain ⟨gE, nvE, GE, ivE, hbE, hLE, hivE, heE⟩ := hE'
      have c4 := hbE.cell (o := 4) (by omega)
      rw [hLE.e4] at c4
      have lE := hbE.lt
      have te : (e.1 == 0) = false := by simpa using heE
      go_wp2_with fail
      go_ret
      exact ⟨.error e, HR.out, FJ, ⟨_, rfl⟩, hE⟩
end Go.Proofs.Qxb6500283aGreat
