/- The real parser's sign: one case. -/
import Derived.Test.Qxb6500283aGreatB7
namespace Go.Proofs.Qxb6500283aGreat
open Go Go.RowKit

set_option maxRecDepth 100000 in
set_option maxHeartbeats 16000000 in
theorem signR_brace {w : World} {x : Nat} {p : ByteArray} {T : Rs} (hM : RMem w x p T) (hT : RsOk p T) (hsz : p.size ≤ 129) (hi : T.s.i < p.size) (hcb : bt p T.s.i = 123) : Calls Tryz.prog 138 #[.pointer (some ⟨x, 0, none⟩)] w fun e w' => e = .returned (.tuple #[]) ∧ RPost w x p (signR p T) w' := by
  obtain ⟨f, q, hb, hL⟩ := hM
  obtain ⟨⟨hwf, hlen, hg3, hiz⟩, ⟨_, _, hft, _, _⟩, _, hd⟩ := hT
  obtain ⟨⟨i, ns, g⟩, ⟨al, ct, at', num, pl⟩, r⟩ := T
  simp only at hL hwf hlen hg3 hiz hd hi hft hcb
  have cd := hb.cell (o := 321) (by omega)
  rw [hL.dp] at cd
  have c0 := hb.cell (o := 0) (by omega)
  rw [hL.p0] at c0
  have c1 := hb.cell (o := 1) (by omega)
  rw [hL.i1] at c1
  have c2 := hb.cell (o := 291 + r.length * 5 + 2) (by omega)
  rw [hL.st.1 2 (by omega)] at c2
  simp only [frCell] at c2
  have z := hb.frozen
  go_enter Tryz.func138, Tryz.ntmps138
  cases at' with
  | none =>
    simp only [oi] at c2
    go_wp2_with fail
    refine (failR_any hb 3 i).mono ?_
    rintro e w1 ⟨rfl, hb1, f1⟩
    go_wp2_with fail
    refine bodyPost_ret (v := .tuple #[]) (by simp [results, Tryz.results138, go_sem]) rfl ⟨rfl, f1, ?_⟩
    rw [signR_none rfl]
    exact ⟨_, i, ns, g, _, r, hb1, hL.setE hlen hd 3 i, hwf, hlen, hg3, hd⟩
  | some a =>
    simp only [oi] at c2
    have ha := hft a rfl
    have ha24 : a < 24 := by omega
    have hc : count p i = if bt p i = 42 then some (0, -1, i + 1) else if bt p i = 43 then some (1, -1, i + 1) else if bt p i = 63 then some (0, 1, i + 1) else brace p i := rfl
    have Hbt : Hid _ := bt_at p i hi
    have cnA := hb.cell (o := 266 + a) (by omega)
    rw [hL.nl a ha] at cnA
    have t42 : (p[i].toNat == 42) = false := by have := Hbt.out; simp; omega
    have t42' : ((p[i].toNat : Int) == 42) = false := by have := Hbt.out; simp; omega
    have t43 : (p[i].toNat == 43) = false := by have := Hbt.out; simp; omega
    have t43' : ((p[i].toNat : Int) == 43) = false := by have := Hbt.out; simp; omega
    have t63 : (p[i].toNat == 63) = false := by have := Hbt.out; simp; omega
    have t63' : ((p[i].toNat : Int) == 63) = false := by have := Hbt.out; simp; omega
    rw [if_neg (by omega), if_neg (by omega), if_neg (by omega)] at hc
    have HC0 : Hid _ := hc
    clear hc
    go_wp2_with fail
    refine (braceR_any hb hL.p0 hL.i1 hsz hi).mono ?_
    intro e w1 hBr
    clear c0 c1 c2 cd z cnA
    generalize brace p i = o at *
    cases o with
    | none =>
      obtain ⟨rfl, ⟨iv, hiv, hb1⟩, f1⟩ := hBr
      have hL1 := (hL.setI iv).setE hlen hd 3 i
      have ce := hb1.cell (o := 323) (by omega)
      rw [hL1.er] at ce
      go_wp2_with fail
      refine bodyPost_ret (v := .tuple #[]) (by simp [results, Tryz.results138, go_sem]) rfl ⟨rfl, f1, ?_⟩
      rw [signR_bad (a := a) rfl HC0.out]
      exact ⟨_, iv, ns, g, _, r, hb1, hL1, hwf, hlen, hg3, hd⟩
    | some v =>
      obtain ⟨lo, hi2, j⟩ := v
      obtain ⟨rfl, hb1, f1⟩ := hBr
      have hL1 := hL.setI (j : Nat)
      have HC : Hid (count p i = some (lo, hi2, j)) := HC0.out
      clear HC0
      have hjl := (count_le hi HC.out).1
      have ce := hb1.cell (o := 323) (by omega)
      rw [hL1.er] at ce
      have c2 := hb1.cell (o := 291 + r.length * 5 + 2) (by omega)
      have z := hb1.frozen
      have cnB := hb1.cell (o := 266 + a) (by omega)
      rw [(hL1).nl a ha] at cnB
      have e0 := hb1.cell (o := 0) (by omega)
      rw [(hL1).p0] at e0
      have e1 := hb1.cell (o := 1) (by omega)
      rw [(hL1).i1] at e1
      cases hz : isB p (j) 63 with
      | true =>
        obtain ⟨y1, y2⟩ := isB_lt hz
        have yd : decide (((j : Int)) < p.size) = true := decide_eq_true (by omega)
        have Hb6 : Hid _ := bt_at p (j) y1
        have t6 : (p[j].toNat == 63) = true := by have := Hb6.out; simp; omega
        have t6' : ((p[j].toNat : Int) == 63) = true := by have := Hb6.out; simp; omega
        by_cases hneg : hi2 < 0
        · cases hnu : nul ns a with
          | true =>
            rw [hnu] at cnB
            go_wp2_with fail
            refine wp_region_text (by kernel_rfl) (by kernel_rfl) ?_
            go_wp2_with fail
            refine ⟨by kernel_rfl, ?_⟩
            go_wp2_with fail
            refine (failR_any (hb1.set 1 (.int .i64 ((j : Int) + 1))).drew 5 i).mono ?_
            rintro e w5 ⟨rfl, hb5, f5⟩
            go_wp2_with fail
            refine bodyPost_ret (v := .tuple #[]) (by simp [results, Tryz.results138, go_sem]) rfl ⟨rfl, (f1.setC x 1 (.int .i64 ((j : Int) + 1)) (fun _ => rfl)).drew.trans f5 (fun _ _ h => h), ?_⟩
            rw [signR_loop (a := a) rfl HC.out (by omega) hnu]
            exact ⟨_, _, ns, g, _, r, hb5, (((hL1).setI ((j : Int) + 1))).setE hlen hd 5 i, hwf, hlen, hg3, hd⟩
          | false =>
            rw [hnu] at cnB
            by_cases hfull : 24 ≤ ns.length
            · go_wp2_with fail
              refine wp_region_text (by kernel_rfl) (by kernel_rfl) ?_
              go_wp2_with fail
              refine ⟨by kernel_rfl, ?_⟩
              go_wp2_with fail
              go_region_with (rw [← ndV_rep]; refine (addR_any (i := j + 1) (repNd a lo hi2 true) (hb1.set 1 (.int .i64 ((j : Int) + 1))).drew.drew (((hL1).setI ((j : Int) + 1))) hlen hd (okNd.rep ha)).mono ?_; intro e w4 hA; obtain ⟨rfl, f4, f4', hb4, hL4⟩ := hA.full hfull; have b1 := hb4.cell (o := 291 + r.length * 5 + 2) (by omega); have z4 := hb4.frozen)
              all_goals
                go_end0
                refine ⟨rfl, ((f1.setC x 1 (.int .i64 ((j : Int) + 1)) (fun _ => rfl)).drew.drew.trans f4 (fun _ _ h => h)).setC x (291 + r.length * 5 + 2) _ (fun _ => rfl), ?_⟩
                rw [signR_add (a := a) rfl HC.out (fun e => by have := e.2; simp only at this; rw [hnu] at this; cases this), hz, lazy_yes hz, addS_full hfull]
                exact ⟨_, _, ns, g, _, r, hb4.set (291 + r.length * 5 + 2) _, hL4.atom hlen hd none, hwf, hlen, hg3, hd⟩
            · have hnf : ns.length < 24 := by omega
              clear hfull
              go_wp2_with fail
              refine wp_region_text (by kernel_rfl) (by kernel_rfl) ?_
              go_wp2_with fail
              refine ⟨by kernel_rfl, ?_⟩
              go_wp2_with fail
              go_region_with (rw [← ndV_rep]; refine (addR_any (i := j + 1) (repNd a lo hi2 true) (hb1.set 1 (.int .i64 ((j : Int) + 1))).drew.drew (((hL1).setI ((j : Int) + 1))) hlen hd (okNd.rep ha)).mono ?_; intro e w4 hA; obtain ⟨rfl, f4, f4', hb4, hL4⟩ := hA.room hnf; have b1 := hb4.cell (o := 291 + r.length * 5 + 2) (by omega); have z4 := hb4.frozen)
              all_goals
                go_end0
                refine ⟨rfl, ((f1.setC x 1 (.int .i64 ((j : Int) + 1)) (fun _ => rfl)).drew.drew.trans f4 (fun _ _ h => h)).setC x (291 + r.length * 5 + 2) _ (fun _ => rfl), ?_⟩
                rw [signR_add (a := a) rfl HC.out (fun e => by have := e.2; simp only at this; rw [hnu] at this; cases this), hz, lazy_yes hz, addS_room hnf]
                exact ⟨_, q, hb4.set (291 + r.length * 5 + 2) _, hL4.atom (by simp; omega) hd (some ns.length)⟩
        · have hneg' : 0 ≤ hi2 := by omega
          by_cases hfull : 24 ≤ ns.length
          · go_wp2_with fail
            refine wp_region_text (by kernel_rfl) (by kernel_rfl) ?_
            go_wp2_with fail
            refine ⟨by kernel_rfl, ?_⟩
            go_wp2_with fail
            go_region_with (rw [← ndV_rep]; refine (addR_any (i := j + 1) (repNd a lo hi2 true) (hb1.set 1 (.int .i64 ((j : Int) + 1))).drew.drew (((hL1).setI ((j : Int) + 1))) hlen hd (okNd.rep ha)).mono ?_; intro e w4 hA; obtain ⟨rfl, f4, f4', hb4, hL4⟩ := hA.full hfull; have b1 := hb4.cell (o := 291 + r.length * 5 + 2) (by omega); have z4 := hb4.frozen)
            all_goals
              go_end0
              refine ⟨rfl, ((f1.setC x 1 (.int .i64 ((j : Int) + 1)) (fun _ => rfl)).drew.drew.trans f4 (fun _ _ h => h)).setC x (291 + r.length * 5 + 2) _ (fun _ => rfl), ?_⟩
              rw [signR_add (a := a) rfl HC.out (fun e => by have := e.1; omega), hz, lazy_yes hz, addS_full hfull]
              exact ⟨_, _, ns, g, _, r, hb4.set (291 + r.length * 5 + 2) _, hL4.atom hlen hd none, hwf, hlen, hg3, hd⟩
          · have hnf : ns.length < 24 := by omega
            clear hfull
            go_wp2_with fail
            refine wp_region_text (by kernel_rfl) (by kernel_rfl) ?_
            go_wp2_with fail
            refine ⟨by kernel_rfl, ?_⟩
            go_wp2_with fail
            go_region_with (rw [← ndV_rep]; refine (addR_any (i := j + 1) (repNd a lo hi2 true) (hb1.set 1 (.int .i64 ((j : Int) + 1))).drew.drew (((hL1).setI ((j : Int) + 1))) hlen hd (okNd.rep ha)).mono ?_; intro e w4 hA; obtain ⟨rfl, f4, f4', hb4, hL4⟩ := hA.room hnf; have b1 := hb4.cell (o := 291 + r.length * 5 + 2) (by omega); have z4 := hb4.frozen)
            all_goals
              go_end0
              refine ⟨rfl, ((f1.setC x 1 (.int .i64 ((j : Int) + 1)) (fun _ => rfl)).drew.drew.trans f4 (fun _ _ h => h)).setC x (291 + r.length * 5 + 2) _ (fun _ => rfl), ?_⟩
              rw [signR_add (a := a) rfl HC.out (fun e => by have := e.1; omega), hz, lazy_yes hz, addS_room hnf]
              exact ⟨_, q, hb4.set (291 + r.length * 5 + 2) _, hL4.atom (by simp; omega) hd (some ns.length)⟩
      | false =>
        rcases isB_no hz with y1 | ⟨y1, y2⟩
        · have yd : decide (((j : Int)) < p.size) = false := decide_eq_false (by omega)
          by_cases hneg : hi2 < 0
          · cases hnu : nul ns a with
            | true =>
              rw [hnu] at cnB
              go_wp2_with fail
              refine wp_region_text (by kernel_rfl) (by kernel_rfl) ?_
              go_wp2_with fail
              refine ⟨by kernel_rfl, ?_⟩
              go_wp2_with fail
              refine (failR_any hb1.drew 5 i).mono ?_
              rintro e w5 ⟨rfl, hb5, f5⟩
              go_wp2_with fail
              refine bodyPost_ret (v := .tuple #[]) (by simp [results, Tryz.results138, go_sem]) rfl ⟨rfl, f1.drew.trans f5 (fun _ _ h => h), ?_⟩
              rw [signR_loop (a := a) rfl HC.out (by omega) hnu]
              exact ⟨_, _, ns, g, _, r, hb5, (hL1).setE hlen hd 5 i, hwf, hlen, hg3, hd⟩
            | false =>
              rw [hnu] at cnB
              by_cases hfull : 24 ≤ ns.length
              · go_wp2_with fail
                refine wp_region_text (by kernel_rfl) (by kernel_rfl) ?_
                go_wp2_with fail
                refine ⟨by kernel_rfl, ?_⟩
                go_wp2_with fail
                go_region_with (rw [← ndV_rep]; refine (addR_any (i := j) (repNd a lo hi2 false) hb1.drew.drew (hL1) hlen hd (okNd.rep ha)).mono ?_; intro e w4 hA; obtain ⟨rfl, f4, f4', hb4, hL4⟩ := hA.full hfull; have b1 := hb4.cell (o := 291 + r.length * 5 + 2) (by omega); have z4 := hb4.frozen)
                all_goals
                  go_end0
                  refine ⟨rfl, (f1.drew.drew.trans f4 (fun _ _ h => h)).setC x (291 + r.length * 5 + 2) _ (fun _ => rfl), ?_⟩
                  rw [signR_add (a := a) rfl HC.out (fun e => by have := e.2; simp only at this; rw [hnu] at this; cases this), hz, lazy_no hz, addS_full hfull]
                  exact ⟨_, _, ns, g, _, r, hb4.set (291 + r.length * 5 + 2) _, hL4.atom hlen hd none, hwf, hlen, hg3, hd⟩
              · have hnf : ns.length < 24 := by omega
                clear hfull
                go_wp2_with fail
                refine wp_region_text (by kernel_rfl) (by kernel_rfl) ?_
                go_wp2_with fail
                refine ⟨by kernel_rfl, ?_⟩
                go_wp2_with fail
                go_region_with (rw [← ndV_rep]; refine (addR_any (i := j) (repNd a lo hi2 false) hb1.drew.drew (hL1) hlen hd (okNd.rep ha)).mono ?_; intro e w4 hA; obtain ⟨rfl, f4, f4', hb4, hL4⟩ := hA.room hnf; have b1 := hb4.cell (o := 291 + r.length * 5 + 2) (by omega); have z4 := hb4.frozen)
                all_goals
                  go_end0
                  refine ⟨rfl, (f1.drew.drew.trans f4 (fun _ _ h => h)).setC x (291 + r.length * 5 + 2) _ (fun _ => rfl), ?_⟩
                  rw [signR_add (a := a) rfl HC.out (fun e => by have := e.2; simp only at this; rw [hnu] at this; cases this), hz, lazy_no hz, addS_room hnf]
                  exact ⟨_, q, hb4.set (291 + r.length * 5 + 2) _, hL4.atom (by simp; omega) hd (some ns.length)⟩
          · have hneg' : 0 ≤ hi2 := by omega
            by_cases hfull : 24 ≤ ns.length
            · go_wp2_with fail
              refine wp_region_text (by kernel_rfl) (by kernel_rfl) ?_
              go_wp2_with fail
              refine ⟨by kernel_rfl, ?_⟩
              go_wp2_with fail
              go_region_with (rw [← ndV_rep]; refine (addR_any (i := j) (repNd a lo hi2 false) hb1.drew.drew (hL1) hlen hd (okNd.rep ha)).mono ?_; intro e w4 hA; obtain ⟨rfl, f4, f4', hb4, hL4⟩ := hA.full hfull; have b1 := hb4.cell (o := 291 + r.length * 5 + 2) (by omega); have z4 := hb4.frozen)
              all_goals
                go_end0
                refine ⟨rfl, (f1.drew.drew.trans f4 (fun _ _ h => h)).setC x (291 + r.length * 5 + 2) _ (fun _ => rfl), ?_⟩
                rw [signR_add (a := a) rfl HC.out (fun e => by have := e.1; omega), hz, lazy_no hz, addS_full hfull]
                exact ⟨_, _, ns, g, _, r, hb4.set (291 + r.length * 5 + 2) _, hL4.atom hlen hd none, hwf, hlen, hg3, hd⟩
            · have hnf : ns.length < 24 := by omega
              clear hfull
              go_wp2_with fail
              refine wp_region_text (by kernel_rfl) (by kernel_rfl) ?_
              go_wp2_with fail
              refine ⟨by kernel_rfl, ?_⟩
              go_wp2_with fail
              go_region_with (rw [← ndV_rep]; refine (addR_any (i := j) (repNd a lo hi2 false) hb1.drew.drew (hL1) hlen hd (okNd.rep ha)).mono ?_; intro e w4 hA; obtain ⟨rfl, f4, f4', hb4, hL4⟩ := hA.room hnf; have b1 := hb4.cell (o := 291 + r.length * 5 + 2) (by omega); have z4 := hb4.frozen)
              all_goals
                go_end0
                refine ⟨rfl, (f1.drew.drew.trans f4 (fun _ _ h => h)).setC x (291 + r.length * 5 + 2) _ (fun _ => rfl), ?_⟩
                rw [signR_add (a := a) rfl HC.out (fun e => by have := e.1; omega), hz, lazy_no hz, addS_room hnf]
                exact ⟨_, q, hb4.set (291 + r.length * 5 + 2) _, hL4.atom (by simp; omega) hd (some ns.length)⟩
        · have yd : decide (((j : Int)) < p.size) = true := decide_eq_true (by omega)
          have Hb6 : Hid _ := bt_at p (j) y1
          have t6 : (p[j].toNat == 63) = false := by have := Hb6.out; simp; omega
          have t6' : ((p[j].toNat : Int) == 63) = false := by have := Hb6.out; simp; omega
          by_cases hneg : hi2 < 0
          · cases hnu : nul ns a with
            | true =>
              rw [hnu] at cnB
              go_wp2_with fail
              refine wp_region_text (by kernel_rfl) (by kernel_rfl) ?_
              go_wp2_with fail
              refine ⟨by kernel_rfl, ?_⟩
              go_wp2_with fail
              refine (failR_any hb1.drew 5 i).mono ?_
              rintro e w5 ⟨rfl, hb5, f5⟩
              go_wp2_with fail
              refine bodyPost_ret (v := .tuple #[]) (by simp [results, Tryz.results138, go_sem]) rfl ⟨rfl, f1.drew.trans f5 (fun _ _ h => h), ?_⟩
              rw [signR_loop (a := a) rfl HC.out (by omega) hnu]
              exact ⟨_, _, ns, g, _, r, hb5, (hL1).setE hlen hd 5 i, hwf, hlen, hg3, hd⟩
            | false =>
              rw [hnu] at cnB
              by_cases hfull : 24 ≤ ns.length
              · go_wp2_with fail
                refine wp_region_text (by kernel_rfl) (by kernel_rfl) ?_
                go_wp2_with fail
                refine ⟨by kernel_rfl, ?_⟩
                go_wp2_with fail
                go_region_with (rw [← ndV_rep]; refine (addR_any (i := j) (repNd a lo hi2 false) hb1.drew.drew (hL1) hlen hd (okNd.rep ha)).mono ?_; intro e w4 hA; obtain ⟨rfl, f4, f4', hb4, hL4⟩ := hA.full hfull; have b1 := hb4.cell (o := 291 + r.length * 5 + 2) (by omega); have z4 := hb4.frozen)
                all_goals
                  go_end0
                  refine ⟨rfl, (f1.drew.drew.trans f4 (fun _ _ h => h)).setC x (291 + r.length * 5 + 2) _ (fun _ => rfl), ?_⟩
                  rw [signR_add (a := a) rfl HC.out (fun e => by have := e.2; simp only at this; rw [hnu] at this; cases this), hz, lazy_no hz, addS_full hfull]
                  exact ⟨_, _, ns, g, _, r, hb4.set (291 + r.length * 5 + 2) _, hL4.atom hlen hd none, hwf, hlen, hg3, hd⟩
              · have hnf : ns.length < 24 := by omega
                clear hfull
                go_wp2_with fail
                refine wp_region_text (by kernel_rfl) (by kernel_rfl) ?_
                go_wp2_with fail
                refine ⟨by kernel_rfl, ?_⟩
                go_wp2_with fail
                go_region_with (rw [← ndV_rep]; refine (addR_any (i := j) (repNd a lo hi2 false) hb1.drew.drew (hL1) hlen hd (okNd.rep ha)).mono ?_; intro e w4 hA; obtain ⟨rfl, f4, f4', hb4, hL4⟩ := hA.room hnf; have b1 := hb4.cell (o := 291 + r.length * 5 + 2) (by omega); have z4 := hb4.frozen)
                all_goals
                  go_end0
                  refine ⟨rfl, (f1.drew.drew.trans f4 (fun _ _ h => h)).setC x (291 + r.length * 5 + 2) _ (fun _ => rfl), ?_⟩
                  rw [signR_add (a := a) rfl HC.out (fun e => by have := e.2; simp only at this; rw [hnu] at this; cases this), hz, lazy_no hz, addS_room hnf]
                  exact ⟨_, q, hb4.set (291 + r.length * 5 + 2) _, hL4.atom (by simp; omega) hd (some ns.length)⟩
          · have hneg' : 0 ≤ hi2 := by omega
            by_cases hfull : 24 ≤ ns.length
            · go_wp2_with fail
              refine wp_region_text (by kernel_rfl) (by kernel_rfl) ?_
              go_wp2_with fail
              refine ⟨by kernel_rfl, ?_⟩
              go_wp2_with fail
              go_region_with (rw [← ndV_rep]; refine (addR_any (i := j) (repNd a lo hi2 false) hb1.drew.drew (hL1) hlen hd (okNd.rep ha)).mono ?_; intro e w4 hA; obtain ⟨rfl, f4, f4', hb4, hL4⟩ := hA.full hfull; have b1 := hb4.cell (o := 291 + r.length * 5 + 2) (by omega); have z4 := hb4.frozen)
              all_goals
                go_end0
                refine ⟨rfl, (f1.drew.drew.trans f4 (fun _ _ h => h)).setC x (291 + r.length * 5 + 2) _ (fun _ => rfl), ?_⟩
                rw [signR_add (a := a) rfl HC.out (fun e => by have := e.1; omega), hz, lazy_no hz, addS_full hfull]
                exact ⟨_, _, ns, g, _, r, hb4.set (291 + r.length * 5 + 2) _, hL4.atom hlen hd none, hwf, hlen, hg3, hd⟩
            · have hnf : ns.length < 24 := by omega
              clear hfull
              go_wp2_with fail
              refine wp_region_text (by kernel_rfl) (by kernel_rfl) ?_
              go_wp2_with fail
              refine ⟨by kernel_rfl, ?_⟩
              go_wp2_with fail
              go_region_with (rw [← ndV_rep]; refine (addR_any (i := j) (repNd a lo hi2 false) hb1.drew.drew (hL1) hlen hd (okNd.rep ha)).mono ?_; intro e w4 hA; obtain ⟨rfl, f4, f4', hb4, hL4⟩ := hA.room hnf; have b1 := hb4.cell (o := 291 + r.length * 5 + 2) (by omega); have z4 := hb4.frozen)
              all_goals
                go_end0
                refine ⟨rfl, (f1.drew.drew.trans f4 (fun _ _ h => h)).setC x (291 + r.length * 5 + 2) _ (fun _ => rfl), ?_⟩
                rw [signR_add (a := a) rfl HC.out (fun e => by have := e.1; omega), hz, lazy_no hz, addS_room hnf]
                exact ⟨_, q, hb4.set (291 + r.length * 5 + 2) _, hL4.atom (by simp; omega) hd (some ns.length)⟩
end Go.Proofs.Qxb6500283aGreat
