/- The real parser's sign: one case. -/
import Derived.Test.Qxb6500283aGreatB7
namespace Go.Proofs.Qxb6500283aGreat
open Go Go.RowKit

set_option maxRecDepth 100000 in
set_option maxHeartbeats 16000000 in
theorem signR_63 {w : World} {x : Nat} {p : ByteArray} {T : Rs} (hM : RMem w x p T) (hT : RsOk p T) (hsz : p.size ≤ 129) (hi : T.s.i < p.size) (hcb : bt p T.s.i = 63) : Calls Tryz.prog 138 #[.pointer (some ⟨x, 0, none⟩)] w fun e w' => e = .returned (.tuple #[]) ∧ RPost w x p (signR p T) w' := by
  obtain ⟨f, q, hb, hL⟩ := hM
  obtain ⟨⟨hwf, hlen, hg3, hiz⟩, ⟨_, _, hft, _, _⟩, _, hd⟩ := hT
  obtain ⟨⟨i, ns, g⟩, ⟨al, ct, at', num, pl⟩, r⟩ := T
  simp only at hL hwf hlen hg3 hiz hd hi hft hcb
  have cd := hb.cell (o := 321) (by omega)
  rw [hL.dp] at cd
  have c0 := hb.cell (o := 0) (by omega)
  rw [hL.p0] at c0
  have c1 := hb.cell (o := 1) (by omega)
  rw [hL.i1] at c1
  have c2 := hb.cell (o := 291 + r.length * 5 + 2) (by omega)
  rw [hL.st.1 2 (by omega)] at c2
  simp only [frCell] at c2
  have z := hb.frozen
  go_enter Tryz.func138, Tryz.ntmps138
  cases at' with
  | none =>
    simp only [oi] at c2
    go_wp2_with fail
    refine (failR_any hb 3 i).mono ?_
    rintro e w1 ⟨rfl, hb1, f1⟩
    go_wp2_with fail
    refine bodyPost_ret (v := .tuple #[]) (by simp [results, Tryz.results138, go_sem]) rfl ⟨rfl, f1, ?_⟩
    rw [signR_none rfl]
    exact ⟨_, i, ns, g, _, r, hb1, hL.setE hlen hd 3 i, hwf, hlen, hg3, hd⟩
  | some a =>
    simp only [oi] at c2
    have ha := hft a rfl
    have ha24 : a < 24 := by omega
    have hc : count p i = if bt p i = 42 then some (0, -1, i + 1) else if bt p i = 43 then some (1, -1, i + 1) else if bt p i = 63 then some (0, 1, i + 1) else brace p i := rfl
    have Hbt : Hid _ := bt_at p i hi
    have cnA := hb.cell (o := 266 + a) (by omega)
    rw [hL.nl a ha] at cnA
    rw [if_neg (by omega), if_neg (by omega), if_pos hcb] at hc
    have HC : Hid _ := hc
    clear hc
    have t42 : (p[i].toNat == 42) = false := by have := Hbt.out; simp; omega
    have t42' : ((p[i].toNat : Int) == 42) = false := by have := Hbt.out; simp; omega
    have t43 : (p[i].toNat == 43) = false := by have := Hbt.out; simp; omega
    have t43' : ((p[i].toNat : Int) == 43) = false := by have := Hbt.out; simp; omega
    have t63 : (p[i].toNat == 63) = true := by have := Hbt.out; simp; omega
    have t63' : ((p[i].toNat : Int) == 63) = true := by have := Hbt.out; simp; omega
    have cnB := cnA
    cases hz : isB p (i + 1) 63 with
    | true =>
      obtain ⟨y1, y2⟩ := isB_lt hz
      have yd : decide (((i : Int) + 1) < p.size) = true := decide_eq_true (by omega)
      have Hb6 : Hid _ := bt_at p (i + 1) y1
      have t6 : (p[i + 1].toNat == 63) = true := by have := Hb6.out; simp; omega
      have t6' : ((p[i + 1].toNat : Int) == 63) = true := by have := Hb6.out; simp; omega
      by_cases hfull : 24 ≤ ns.length
      · go_wp2_with fail
        refine wp_region_text (by kernel_rfl) (by kernel_rfl) ?_
        go_wp2_with fail
        refine ⟨by kernel_rfl, ?_⟩
        go_wp2_with fail
        go_region_with (rw [← ndV_rep]; refine (addR_any (i := i + 1 + 1) (repNd a 0 1 true) ((hb.set 1 (.int .i64 ((i : Int) + 1))).set 1 (.int .i64 ((i : Int) + 1 + 1))).drew.drew (((hL.setI ((i : Int) + 1)).setI ((i : Int) + 1 + 1))) hlen hd (okNd.rep ha)).mono ?_; intro e w4 hA; obtain ⟨rfl, f4, f4', hb4, hL4⟩ := hA.full hfull; have b1 := hb4.cell (o := 291 + r.length * 5 + 2) (by omega); have z4 := hb4.frozen)
        all_goals
          go_end0
          refine ⟨rfl, ((((Fr.refl (fun b => b = x) w).setC x 1 (.int .i64 ((i : Int) + 1)) (fun _ => rfl)).setC x 1 (.int .i64 ((i : Int) + 1 + 1)) (fun _ => rfl)).drew.drew.trans f4 (fun _ _ h => h)).setC x (291 + r.length * 5 + 2) _ (fun _ => rfl), ?_⟩
          rw [signR_add (a := a) rfl HC.out (fun e => by have := e.1; omega), hz, lazy_yes hz, addS_full hfull]
          exact ⟨_, _, ns, g, _, r, hb4.set (291 + r.length * 5 + 2) _, hL4.atom hlen hd none, hwf, hlen, hg3, hd⟩
      · have hnf : ns.length < 24 := by omega
        clear hfull
        go_wp2_with fail
        refine wp_region_text (by kernel_rfl) (by kernel_rfl) ?_
        go_wp2_with fail
        refine ⟨by kernel_rfl, ?_⟩
        go_wp2_with fail
        go_region_with (rw [← ndV_rep]; refine (addR_any (i := i + 1 + 1) (repNd a 0 1 true) ((hb.set 1 (.int .i64 ((i : Int) + 1))).set 1 (.int .i64 ((i : Int) + 1 + 1))).drew.drew (((hL.setI ((i : Int) + 1)).setI ((i : Int) + 1 + 1))) hlen hd (okNd.rep ha)).mono ?_; intro e w4 hA; obtain ⟨rfl, f4, f4', hb4, hL4⟩ := hA.room hnf; have b1 := hb4.cell (o := 291 + r.length * 5 + 2) (by omega); have z4 := hb4.frozen)
        all_goals
          go_end0
          refine ⟨rfl, ((((Fr.refl (fun b => b = x) w).setC x 1 (.int .i64 ((i : Int) + 1)) (fun _ => rfl)).setC x 1 (.int .i64 ((i : Int) + 1 + 1)) (fun _ => rfl)).drew.drew.trans f4 (fun _ _ h => h)).setC x (291 + r.length * 5 + 2) _ (fun _ => rfl), ?_⟩
          rw [signR_add (a := a) rfl HC.out (fun e => by have := e.1; omega), hz, lazy_yes hz, addS_room hnf]
          exact ⟨_, q, hb4.set (291 + r.length * 5 + 2) _, hL4.atom (by simp; omega) hd (some ns.length)⟩
    | false =>
      rcases isB_no hz with y1 | ⟨y1, y2⟩
      · have yd : decide (((i : Int) + 1) < p.size) = false := decide_eq_false (by omega)
        by_cases hfull : 24 ≤ ns.length
        · go_wp2_with fail
          refine wp_region_text (by kernel_rfl) (by kernel_rfl) ?_
          go_wp2_with fail
          refine ⟨by kernel_rfl, ?_⟩
          go_wp2_with fail
          go_region_with (rw [← ndV_rep]; refine (addR_any (i := i + 1) (repNd a 0 1 false) (hb.set 1 (.int .i64 ((i : Int) + 1))).drew.drew (hL.setI ((i : Int) + 1)) hlen hd (okNd.rep ha)).mono ?_; intro e w4 hA; obtain ⟨rfl, f4, f4', hb4, hL4⟩ := hA.full hfull; have b1 := hb4.cell (o := 291 + r.length * 5 + 2) (by omega); have z4 := hb4.frozen)
          all_goals
            go_end0
            refine ⟨rfl, (((Fr.refl (fun b => b = x) w).setC x 1 (.int .i64 ((i : Int) + 1)) (fun _ => rfl)).drew.drew.trans f4 (fun _ _ h => h)).setC x (291 + r.length * 5 + 2) _ (fun _ => rfl), ?_⟩
            rw [signR_add (a := a) rfl HC.out (fun e => by have := e.1; omega), hz, lazy_no hz, addS_full hfull]
            exact ⟨_, _, ns, g, _, r, hb4.set (291 + r.length * 5 + 2) _, hL4.atom hlen hd none, hwf, hlen, hg3, hd⟩
        · have hnf : ns.length < 24 := by omega
          clear hfull
          go_wp2_with fail
          refine wp_region_text (by kernel_rfl) (by kernel_rfl) ?_
          go_wp2_with fail
          refine ⟨by kernel_rfl, ?_⟩
          go_wp2_with fail
          go_region_with (rw [← ndV_rep]; refine (addR_any (i := i + 1) (repNd a 0 1 false) (hb.set 1 (.int .i64 ((i : Int) + 1))).drew.drew (hL.setI ((i : Int) + 1)) hlen hd (okNd.rep ha)).mono ?_; intro e w4 hA; obtain ⟨rfl, f4, f4', hb4, hL4⟩ := hA.room hnf; have b1 := hb4.cell (o := 291 + r.length * 5 + 2) (by omega); have z4 := hb4.frozen)
          all_goals
            go_end0
            refine ⟨rfl, (((Fr.refl (fun b => b = x) w).setC x 1 (.int .i64 ((i : Int) + 1)) (fun _ => rfl)).drew.drew.trans f4 (fun _ _ h => h)).setC x (291 + r.length * 5 + 2) _ (fun _ => rfl), ?_⟩
            rw [signR_add (a := a) rfl HC.out (fun e => by have := e.1; omega), hz, lazy_no hz, addS_room hnf]
            exact ⟨_, q, hb4.set (291 + r.length * 5 + 2) _, hL4.atom (by simp; omega) hd (some ns.length)⟩
      · have yd : decide (((i : Int) + 1) < p.size) = true := decide_eq_true (by omega)
        have Hb6 : Hid _ := bt_at p (i + 1) y1
        have t6 : (p[i + 1].toNat == 63) = false := by have := Hb6.out; simp; omega
        have t6' : ((p[i + 1].toNat : Int) == 63) = false := by have := Hb6.out; simp; omega
        by_cases hfull : 24 ≤ ns.length
        · go_wp2_with fail
          refine wp_region_text (by kernel_rfl) (by kernel_rfl) ?_
          go_wp2_with fail
          refine ⟨by kernel_rfl, ?_⟩
          go_wp2_with fail
          go_region_with (rw [← ndV_rep]; refine (addR_any (i := i + 1) (repNd a 0 1 false) (hb.set 1 (.int .i64 ((i : Int) + 1))).drew.drew (hL.setI ((i : Int) + 1)) hlen hd (okNd.rep ha)).mono ?_; intro e w4 hA; obtain ⟨rfl, f4, f4', hb4, hL4⟩ := hA.full hfull; have b1 := hb4.cell (o := 291 + r.length * 5 + 2) (by omega); have z4 := hb4.frozen)
          all_goals
            go_end0
            refine ⟨rfl, (((Fr.refl (fun b => b = x) w).setC x 1 (.int .i64 ((i : Int) + 1)) (fun _ => rfl)).drew.drew.trans f4 (fun _ _ h => h)).setC x (291 + r.length * 5 + 2) _ (fun _ => rfl), ?_⟩
            rw [signR_add (a := a) rfl HC.out (fun e => by have := e.1; omega), hz, lazy_no hz, addS_full hfull]
            exact ⟨_, _, ns, g, _, r, hb4.set (291 + r.length * 5 + 2) _, hL4.atom hlen hd none, hwf, hlen, hg3, hd⟩
        · have hnf : ns.length < 24 := by omega
          clear hfull
          go_wp2_with fail
          refine wp_region_text (by kernel_rfl) (by kernel_rfl) ?_
          go_wp2_with fail
          refine ⟨by kernel_rfl, ?_⟩
          go_wp2_with fail
          go_region_with (rw [← ndV_rep]; refine (addR_any (i := i + 1) (repNd a 0 1 false) (hb.set 1 (.int .i64 ((i : Int) + 1))).drew.drew (hL.setI ((i : Int) + 1)) hlen hd (okNd.rep ha)).mono ?_; intro e w4 hA; obtain ⟨rfl, f4, f4', hb4, hL4⟩ := hA.room hnf; have b1 := hb4.cell (o := 291 + r.length * 5 + 2) (by omega); have z4 := hb4.frozen)
          all_goals
            go_end0
            refine ⟨rfl, (((Fr.refl (fun b => b = x) w).setC x 1 (.int .i64 ((i : Int) + 1)) (fun _ => rfl)).drew.drew.trans f4 (fun _ _ h => h)).setC x (291 + r.length * 5 + 2) _ (fun _ => rfl), ?_⟩
            rw [signR_add (a := a) rfl HC.out (fun e => by have := e.1; omega), hz, lazy_no hz, addS_room hnf]
            exact ⟨_, q, hb4.set (291 + r.length * 5 + 2) _, hL4.atom (by simp; omega) hd (some ns.length)⟩
end Go.Proofs.Qxb6500283aGreat
