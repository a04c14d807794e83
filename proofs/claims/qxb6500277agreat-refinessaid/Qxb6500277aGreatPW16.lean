/- The real parser: parameters. -/
import Derived.Test.Qxb6500277aGreatPW14
import Derived.Test.Qxb6500277aGreatPW15
namespace Go.Proofs.Qxb6500277aGreat
open Go Go.RowKit

section
variable {w w' : World} {A : Pa} {T : List Tok} {i j : Nat} {ns ms : List Nd} {fl : Bool} {er q : Int} {S : Nat → Prop}
theorem stmtF {n : Nat} (HB : BkC T n) (P : PM w A T i ns false 0 0) (hi : T.length ≤ i + n + 1) (d : Nat) (hd : d ≤ 8) {l : Int} (hl : l = 8 - (d : Int)) :
    Calls Tryz.prog 221 #[.pointer (some ⟨A.p, 0, none⟩), .int .i64 l] w (PPost w A T i ns (.stmt d)) := by
  by_cases k4 : kd T i = 4
  · exact stmt4 HB P hi d hd hl k4
  by_cases k5 : kd T i = 5
  · exact stmt5 HB P hi d hd hl k5
  by_cases k7 : kd T i = 7
  · exact stmt7 HB P hi d hd hl k7
  by_cases k8 : kd T i = 8
  · exact stmt8 HB P hi d hd hl k8
  by_cases k9 : kd T i = 9
  · exact stmt9 HB P hi d hd hl k9
  exact stmtX HB P hi d hd hl k4 k5 k7 k8 k9
theorem bkAll : ∀ n, BkC T n ∧ StC T n
  | 0 => ⟨fun w A i ns d l hi P _ _ => by have := P.lt; omega, fun w A i ns d l hi P _ _ => by have := P.lt; omega⟩
  | n + 1 => by
    have H := bkAll n
    exact ⟨fun w A i ns d l hi P hd hl => blockF H.2 P (by omega) d hd hl, fun w A i ns d l hi P hd hl => stmtF H.1 P (by omega) d hd hl⟩
/-- What a function that reads a list answers, with what follows. -/
def LP (w : World) (A : Pa) (T : List Tok) (M : Mo) (ns : List Nd) (k : Int → Nat → List Nd → Mo) (i : Nat) (e : Ending) (w' : World) : Prop := Fr (PS A) w w' ∧
  ((∃ (x : Int) (j : Nat) (ms : List Nd), e = .returned (.int .i64 x) ∧ PM w' A T j ms false 0 0 ∧ i ≤ j ∧ x < ms.length ∧ -1 ≤ x ∧ ns.length ≤ ms.length ∧ Im T (k x j ms) M) ∨ (∃ x : Int, e = .returned (.int .i64 x) ∧ -2 < x ∧ x < 200 ∧ Dd w' A T M))
theorem LP.done {M : Mo} {k : Int → Nat → List Nd → Mo} {x : Int} (f : Fr (PS A) w w') (P : PM w' A T j ms false 0 0) (C : Im T (k x j ms) M) (h1 : i ≤ j) (h2 : x < ms.length) (h3 : -1 ≤ x) (h4 : ns.length ≤ ms.length) : LP w A T M ns k i (.returned (.int .i64 x)) w' := ⟨f, .inl ⟨x, j, ms, rfl, P, h1, h2, h3, h4, C⟩⟩
theorem LP.dead {M : Mo} {k : Int → Nat → List Nd → Mo} {x : Int} (f : Fr (PS A) w w') (D : Dd w' A T M) (h1 : -2 < x) (h2 : x < 200) : LP w A T M ns k i (.returned (.int .i64 x)) w' := ⟨f, .inr ⟨x, rfl, h1, h2, D⟩⟩
set_option maxRecDepth 100000 in
set_option maxHeartbeats 8000000 in
theorem paramsF (P : PM w A T i ns false 0 0) {k : Int → Nat → List Nd → Mo} {M : Mo} (C : Im T (.call (.parL (-1) (-1)) i ns k) M) :
    Calls Tryz.prog 186 #[.pointer (some ⟨A.p, 0, none⟩)] w (LP w A T M ns k i) := by
  have HCC : Hid _ := Im.call2 C
  clear C
  go_enter Tryz.func186, Tryz.ntmps186
  go_wp2_with fail
  go_loopg [3, 4] (T.length + 1) (fun gk fv lv wr => ∃ f la : Int, fv = .int .i64 f ∧ lv = .int .i64 la ∧ Fr (PS A) w wr ∧ -2 < f ∧ f < 200 ∧ -2 < la ∧ la < 200 ∧ (Dd wr A T (body T (.parL (-1) (-1)) i ns) ∨ ∃ j ms, PM wr A T j ms false 0 0 ∧ T.length < j + gk ∧ i ≤ j ∧ ns.length ≤ ms.length ∧ Ch ms.length f la ∧ Im T (body T (.parL f la) j ms) (body T (.parL (-1) (-1)) i ns)))
  case atStart => exact ⟨-1, -1, rfl, rfl, Fr.refl _ _, by decide, by decide, by decide, by decide, .inr ⟨_, _, P, by omega, by omega, by omega, .inl ⟨rfl, rfl⟩, .refl _⟩⟩
  case round =>
    clear P
    obtain ⟨f, la, rfl, rfl, FJ, fb1, fb2, lb1, lb2, D | ⟨j, ms, Pj, hg, hij, hlen, hch, hc⟩⟩ := hrel
    · obtain ⟨er0, q0, jd0, md0, h00, Pj, hE0⟩ := D
      have HE0 : Hid _ := hE0
      clear hE0
      obtain ⟨r1, r2, r3, r4, r5⟩ := Pj.r15
      obtain ⟨b1, b2, b3⟩ := Pj.blt
      go_wp2_with fail
      go_ret
      exact .dead FJ ⟨_, _, _, _, h00, Pj, HCC.out.2 _ _ HE0.out⟩ fb1 fb2
    · have Hc : Hid _ := hc
      have Hg : Hid _ := hg
      have Hh : Hid _ := hch
      clear hc hg hch
      obtain ⟨r1, r2, r3, r4, r5⟩ := Pj.r15
      obtain ⟨b1, b2, b3⟩ := Pj.blt
      go_wp2_with fail
      refine (kindF Pj).mono ?_
      rintro v w1 ⟨rfl, f1⟩
      have P1 := Pj.same f1
      have F1 := FJ.trans f1 (fun _ _ h => h.elim)
      clear r1 r2 r3 r4 r5 b1 b2 b3
      obtain ⟨r1, r2, r3, r4, r5⟩ := P1.r15
      obtain ⟨b1, b2, b3⟩ := P1.blt
      by_cases k18 : kd T j = 18
      · have hb : (kd T j != 18) = false := by simp [k18]
        have C1 : Hid _ := Im.of (T := T) Hc.out (m := body T (.parL f la) j ms) (if_pos k18)
        clear k18
        go_wp2_with fail
        go_ret
        exact .done F1 P1 (HCC.out.1 _ _ _ C1.out) hij (by have := Ch.b Hh.out Pj.le; omega) (by omega) hlen
      · have hb : (kd T j != 18) = true := by simpa using k18
        have C1 : Hid _ := Im.of (T := T) Hc.out (m := body T (.parL f la) j ms) (if_neg k18)
        clear k18
        by_cases hf : 0 ≤ f
        · have hla : 0 ≤ la := by have := Ch.b Hh.out Pj.le; omega
          have hlab : decide (la ≥ 0) = true := decide_eq_true (by omega)
          have hfb : decide (f < 0) = false := decide_eq_false (by omega)
          have C2 : Hid _ := Im.com_y C1.out hf
          go_wp2_with fail
          refine (takeC P1 23 (by decide) C2.out).mono ?_
          rintro v w2 ⟨f2, ⟨k2, rfl, P2, hs2, c2⟩ | ⟨rfl, D2⟩⟩
          · have C2 : Hid _ := c2
            have Hk2 : Hid _ := k2
            clear c2 k2
            have F2 := F1.trans f2 (fun _ _ h => h)
            clear r1 r2 r3 r4 r5 b1 b2 b3
            obtain ⟨r1, r2, r3, r4, r5⟩ := P2.r15
            obtain ⟨b1, b2, b3⟩ := P2.blt
            go_wp2_with fail
            refine (atFp P2).mono ?_
            rintro v w3 ⟨rfl, f3⟩
            have P3 := P2.same f3
            have F3 := F2.trans f3 (fun _ _ h => h.elim)
            clear r1 r2 r3 r4 r5 b1 b2 b3
            obtain ⟨r1, r2, r3, r4, r5⟩ := P3.r15
            obtain ⟨b1, b2, b3⟩ := P3.blt
            go_wp2_with fail
            refine (freshF 1 (ps T (stp T j)) _).mono ?_
            rintro v w4 ⟨rfl, f4⟩
            have P4 := P3.same f4
            have F4 := F3.trans f4 (fun _ _ h => h.elim)
            unfold ndV fre
            clear r1 r2 r3 r4 r5 b1 b2 b3
            obtain ⟨r1, r2, r3, r4, r5⟩ := P4.r15
            obtain ⟨b1, b2, b3⟩ := P4.blt
            obtain ⟨q0, q1, q2, q3⟩ := P4.cellK
            obtain ⟨i1, i2⟩ := P4.ib
            have hlt : decide (((stp T j : Nat) : Int) < (T.length : Nat)) = true := decide_eq_true (by have := P4.lt; omega)
            have hl0 := P4.lt
            go_wp2_with fail
            refine wp_region_text (by kernel_rfl) (by kernel_rfl) ?_
            go_wp2_with fail
            refine ⟨by kernel_rfl, ?_⟩
            generalize hw5 : World.drew _ = w5
            have B5 : BM w5 A T (stp T j) ms false 0 0 w4.heap.size ⟨1, -1, -1, -1, -1, 0, ps T (stp T j), (tk T (stp T j)).text⟩ := by rw [← hw5]; exact (BM.new P4 ⟨1, -1, -1, -1, -1, 0, ps T (stp T j), (tk T (stp T j)).text⟩).same (Fr.refl _ _).drew
            have F5 : Fr (PS A) w w5 := by rw [← hw5]; exact (F4.alloc _).drew
            have Hn5 : w.heap.size ≤ w4.heap.size := F4.size
            clear hw5
            clear r1 r2 r3 r4 r5 b1 b2 b3 q0 q1 q2 q3 i1 i2 hlt hl0
            obtain ⟨r1, r2, r3, r4, r5⟩ := B5.P.r15
            obtain ⟨b1, b2, b3⟩ := B5.P.blt
            obtain ⟨x0, x1, x2, x3, x4, x5, x6, x7, xz, xl, xn1, xn2, xn3⟩ := B5.fx
            go_wp2_with fail
            refine (takeC B5.P 1 (by decide) C2.out).mono ?_
            rintro v w6 ⟨f6, ⟨k6, rfl, P6, hs6, c6⟩ | ⟨rfl, D6⟩⟩
            · have C6 : Hid _ := c6
              have Hk6 : Hid _ := k6
              clear c6 k6
              have B6 := B5.go f6 P6
              have F6 := F5.trans f6 (fun _ _ h => h)
              clear r1 r2 r3 r4 r5 b1 b2 b3 x0 x1 x2 x3 x4 x5 x6 x7 xz xl xn1 xn2 xn3
              obtain ⟨r1, r2, r3, r4, r5⟩ := B6.P.r15
              obtain ⟨b1, b2, b3⟩ := B6.P.blt
              obtain ⟨x0, x1, x2, x3, x4, x5, x6, x7, xz, xl, xn1, xn2, xn3⟩ := B6.fx
              go_wp2_with fail
              refine (typC B6.P C6.out).mono ?_
              rintro v w7 ⟨f7, ⟨t7, j7, rfl, P7, hj7, ht7, hu7, c7⟩ | ⟨rfl, D7⟩⟩
              · have C7 : Hid _ := c7
                clear c7
                have B7 := B6.go f7 P7
                have F7 := F6.trans f7 (fun _ _ h => h)
                clear r1 r2 r3 r4 r5 b1 b2 b3 x0 x1 x2 x3 x4 x5 x6 x7 xz xl xn1 xn2 xn3
                obtain ⟨r1, r2, r3, r4, r5⟩ := B7.P.r15
                obtain ⟨b1, b2, b3⟩ := B7.P.blt
                obtain ⟨x0, x1, x2, x3, x4, x5, x6, x7, xz, xl, xn1, xn2, xn3⟩ := B7.fx
                go_wp2_with fail
                have B8 := B7.setV (t7)
                have F8 := F7.setNew (b := w4.heap.size) (o := 5) (u := .int .i64 (t7)) Hn5
                refine (addC B8.P (⟨1, -1, -1, -1, -1, t7, ps T (stp T j), (tk T (stp T j)).text⟩) ⟨by simp, P2.psn, by simp; omega, by simp; omega, by simp; omega, .inl rfl⟩ C7.out).mono ?_
                rintro v w9 ⟨f9, ⟨n9, hn9, rfl, P9, hb9, c9⟩ | ⟨rfl, D9⟩⟩
                · have C9 : Hid _ := c9
                  have Hn_9 : Hid _ := hn9
                  clear c9 hn9
                  have B9 := B8.go f9 P9
                  have F9 := F8.trans f9 (fun _ _ h => h)
                  clear r1 r2 r3 r4 r5 b1 b2 b3 x0 x1 x2 x3 x4 x5 x6 x7 xz xl xn1 xn2 xn3
                  obtain ⟨r1, r2, r3, r4, r5⟩ := B9.P.r15
                  obtain ⟨b1, b2, b3⟩ := B9.P.blt
                  obtain ⟨x0, x1, x2, x3, x4, x5, x6, x7, xz, xl, xn1, xn2, xn3⟩ := B9.fx
                  have HH : Hid (Ch (ms ++ [(⟨1, -1, -1, -1, -1, t7, ps T (stp T j), (tk T (stp T j)).text⟩ : Nd)]).length f la) := Ch.mono Hh.out (by simp)
                  have hlx : la < (n9 : Int) := by have := Ch.b Hh.out Pj.le; have := Hn_9.out; omega
                  have hxl : (n9 : Int) < (ms ++ [(⟨1, -1, -1, -1, -1, t7, ps T (stp T j), (tk T (stp T j)).text⟩ : Nd)]).length := by have := Hn_9.out; simp; omega
                  have CG : Hid _ := Im.grow C9.out
                  go_wp2_with fail
                  refine (hangL B9.P HH.out hlx hxl).mono ?_
                  rintro v w10 ⟨rfl, P10, f10⟩
                  have B10 := B9.go f10 P10
                  have F10 := F9.trans f10 (fun _ _ h => h)
                  clear r1 r2 r3 r4 r5 b1 b2 b3 x0 x1 x2 x3 x4 x5 x6 x7 xz xl xn1 xn2 xn3
                  obtain ⟨r1, r2, r3, r4, r5⟩ := B10.P.r15
                  obtain ⟨b1, b2, b3⟩ := B10.P.blt
                  obtain ⟨x0, x1, x2, x3, x4, x5, x6, x7, xz, xl, xn1, xn2, xn3⟩ := B10.fx
                  go_wp2_with fail
                  go_roundg (gk - 1)
                  case measure => have := Hg.out; have := Pj.lt; omega
                  case rel => exact ⟨f, n9, rfl, rfl, F10, by omega, by omega, by omega, by omega, .inr ⟨_, _, B10.P, by have := Hg.out; have := stp_le T j; omega, by have := stp_le T j; omega, by rw [lk_len]; simp; omega, by rw [lk_len]; have := Ch.next HH.out (x := n9) (by omega) hxl; rw [if_neg (by omega)] at this; exact this, by have := Im.jump CG.out; rw [if_neg (by omega)] at this; exact this⟩⟩
                · obtain ⟨er9, q9, jd9, md9, h09, P9, hE9⟩ := D9
                  have HE9 : Hid _ := hE9
                  clear hE9
                  have B9 := B8.go f9 P9
                  have F9 := F8.trans f9 (fun _ _ h => h)
                  clear r1 r2 r3 r4 r5 b1 b2 b3 x0 x1 x2 x3 x4 x5 x6 x7 xz xl xn1 xn2 xn3
                  obtain ⟨r1, r2, r3, r4, r5⟩ := B9.P.r15
                  obtain ⟨b1, b2, b3⟩ := B9.P.blt
                  obtain ⟨x0, x1, x2, x3, x4, x5, x6, x7, xz, xl, xn1, xn2, xn3⟩ := B9.fx
                  go_wp2_with fail
                  refine (hang_no _ (.inl (by decide)) _).mono ?_
                  rintro v w11 ⟨rfl, e11⟩
                  subst w11
                  go_wp2_with fail
                  go_roundg 0
                  case measure => have := Hg.out; have := Pj.lt; omega
                  case rel => exact ⟨f, -1, rfl, rfl, F9, by omega, by omega, by omega, by omega, .inl ⟨_, _, _, _, h09, B9.P, HE9.out⟩⟩
              · obtain ⟨er7, q7, jd7, md7, h07, P7, hE7⟩ := D7
                have HE7 : Hid _ := hE7
                clear hE7
                have B7 := B6.go f7 P7
                have F7 := F6.trans f7 (fun _ _ h => h)
                clear r1 r2 r3 r4 r5 b1 b2 b3 x0 x1 x2 x3 x4 x5 x6 x7 xz xl xn1 xn2 xn3
                obtain ⟨r1, r2, r3, r4, r5⟩ := B7.P.r15
                obtain ⟨b1, b2, b3⟩ := B7.P.blt
                obtain ⟨x0, x1, x2, x3, x4, x5, x6, x7, xz, xl, xn1, xn2, xn3⟩ := B7.fx
                go_wp2_with fail
                have B12 := B7.setV (-1)
                have F12 := F7.setNew (b := w4.heap.size) (o := 5) (u := .int .i64 (-1)) Hn5
                refine (add_failed B12.P (⟨1, -1, -1, -1, -1, -1, ps T (stp T j), (tk T (stp T j)).text⟩)).mono ?_
                rintro v w13 ⟨rfl, f13⟩
                have P13 := B12.same f13
                have F13 := F12.trans f13 (fun _ _ h => h.elim)
                clear r1 r2 r3 r4 r5 b1 b2 b3 x0 x1 x2 x3 x4 x5 x6 x7 xz xl xn1 xn2 xn3
                obtain ⟨r1, r2, r3, r4, r5⟩ := P13.P.r15
                obtain ⟨b1, b2, b3⟩ := P13.P.blt
                obtain ⟨x0, x1, x2, x3, x4, x5, x6, x7, xz, xl, xn1, xn2, xn3⟩ := P13.fx
                go_wp2_with fail
                refine (hang_no _ (.inl (by decide)) _).mono ?_
                rintro v w14 ⟨rfl, e14⟩
                subst w14
                go_wp2_with fail
                go_roundg 0
                case measure => have := Hg.out; have := Pj.lt; omega
                case rel => exact ⟨f, -1, rfl, rfl, F13, by omega, by omega, by omega, by omega, .inl ⟨_, _, _, _, h07, P13.P, HE7.out⟩⟩
            · obtain ⟨er6, q6, jd6, md6, h06, P6, hE6⟩ := D6
              have HE6 : Hid _ := hE6
              clear hE6
              have B6 := B5.go f6 P6
              have F6 := F5.trans f6 (fun _ _ h => h)
              clear r1 r2 r3 r4 r5 b1 b2 b3 x0 x1 x2 x3 x4 x5 x6 x7 xz xl xn1 xn2 xn3
              obtain ⟨r1, r2, r3, r4, r5⟩ := B6.P.r15
              obtain ⟨b1, b2, b3⟩ := B6.P.blt
              obtain ⟨x0, x1, x2, x3, x4, x5, x6, x7, xz, xl, xn1, xn2, xn3⟩ := B6.fx
              go_wp2_with fail
              go_ret
              exact .dead F6 ⟨_, _, _, _, h06, B6.P, HCC.out.2 _ _ HE6.out⟩ (by decide) (by decide)
          · obtain ⟨er2, q2, jd2, md2, h02, P2, hE2⟩ := D2
            have HE2 : Hid _ := hE2
            clear hE2
            have F2 := F1.trans f2 (fun _ _ h => h)
            clear r1 r2 r3 r4 r5 b1 b2 b3
            obtain ⟨r1, r2, r3, r4, r5⟩ := P2.r15
            obtain ⟨b1, b2, b3⟩ := P2.blt
            go_wp2_with fail
            go_ret
            exact .dead F2 ⟨_, _, _, _, h02, P2, HCC.out.2 _ _ HE2.out⟩ (by decide) (by decide)
        · have hf2 : f < 0 := by omega
          have hla : la < 0 := by have := Ch.b Hh.out Pj.le; omega
          have hlab : decide (la ≥ 0) = false := decide_eq_false (by omega)
          have hfb : decide (f < 0) = true := decide_eq_true (by omega)
          have C2 : Hid _ := Im.com_n C1.out hf2
          clear hf
          go_wp2_with fail
          refine (atFp P1).mono ?_
          rintro v w15 ⟨rfl, f15⟩
          have P15 := P1.same f15
          have F15 := F1.trans f15 (fun _ _ h => h.elim)
          clear r1 r2 r3 r4 r5 b1 b2 b3
          obtain ⟨r1, r2, r3, r4, r5⟩ := P15.r15
          obtain ⟨b1, b2, b3⟩ := P15.blt
          go_wp2_with fail
          refine (freshF 1 (ps T (j)) _).mono ?_
          rintro v w16 ⟨rfl, f16⟩
          have P16 := P15.same f16
          have F16 := F15.trans f16 (fun _ _ h => h.elim)
          unfold ndV fre
          clear r1 r2 r3 r4 r5 b1 b2 b3
          obtain ⟨r1, r2, r3, r4, r5⟩ := P16.r15
          obtain ⟨b1, b2, b3⟩ := P16.blt
          obtain ⟨q0, q1, q2, q3⟩ := P16.cellK
          obtain ⟨i1, i2⟩ := P16.ib
          have hlt : decide (((j : Nat) : Int) < (T.length : Nat)) = true := decide_eq_true (by have := P16.lt; omega)
          have hl0 := P16.lt
          go_wp2_with fail
          refine wp_region_text (by kernel_rfl) (by kernel_rfl) ?_
          go_wp2_with fail
          refine ⟨by kernel_rfl, ?_⟩
          generalize hw17 : World.drew _ = w17
          have B17 : BM w17 A T (j) ms false 0 0 w16.heap.size ⟨1, -1, -1, -1, -1, 0, ps T (j), (tk T (j)).text⟩ := by rw [← hw17]; exact (BM.new P16 ⟨1, -1, -1, -1, -1, 0, ps T (j), (tk T (j)).text⟩).same (Fr.refl _ _).drew
          have F17 : Fr (PS A) w w17 := by rw [← hw17]; exact (F16.alloc _).drew
          have Hn17 : w.heap.size ≤ w16.heap.size := F16.size
          clear hw17
          clear r1 r2 r3 r4 r5 b1 b2 b3 q0 q1 q2 q3 i1 i2 hlt hl0
          obtain ⟨r1, r2, r3, r4, r5⟩ := B17.P.r15
          obtain ⟨b1, b2, b3⟩ := B17.P.blt
          obtain ⟨x0, x1, x2, x3, x4, x5, x6, x7, xz, xl, xn1, xn2, xn3⟩ := B17.fx
          go_wp2_with fail
          refine (takeC B17.P 1 (by decide) C2.out).mono ?_
          rintro v w18 ⟨f18, ⟨k18, rfl, P18, hs18, c18⟩ | ⟨rfl, D18⟩⟩
          · have C18 : Hid _ := c18
            have Hk18 : Hid _ := k18
            clear c18 k18
            have B18 := B17.go f18 P18
            have F18 := F17.trans f18 (fun _ _ h => h)
            clear r1 r2 r3 r4 r5 b1 b2 b3 x0 x1 x2 x3 x4 x5 x6 x7 xz xl xn1 xn2 xn3
            obtain ⟨r1, r2, r3, r4, r5⟩ := B18.P.r15
            obtain ⟨b1, b2, b3⟩ := B18.P.blt
            obtain ⟨x0, x1, x2, x3, x4, x5, x6, x7, xz, xl, xn1, xn2, xn3⟩ := B18.fx
            go_wp2_with fail
            refine (typC B18.P C18.out).mono ?_
            rintro v w19 ⟨f19, ⟨t19, j19, rfl, P19, hj19, ht19, hu19, c19⟩ | ⟨rfl, D19⟩⟩
            · have C19 : Hid _ := c19
              clear c19
              have B19 := B18.go f19 P19
              have F19 := F18.trans f19 (fun _ _ h => h)
              clear r1 r2 r3 r4 r5 b1 b2 b3 x0 x1 x2 x3 x4 x5 x6 x7 xz xl xn1 xn2 xn3
              obtain ⟨r1, r2, r3, r4, r5⟩ := B19.P.r15
              obtain ⟨b1, b2, b3⟩ := B19.P.blt
              obtain ⟨x0, x1, x2, x3, x4, x5, x6, x7, xz, xl, xn1, xn2, xn3⟩ := B19.fx
              go_wp2_with fail
              have B20 := B19.setV (t19)
              have F20 := F19.setNew (b := w16.heap.size) (o := 5) (u := .int .i64 (t19)) Hn17
              refine (addC B20.P (⟨1, -1, -1, -1, -1, t19, ps T (j), (tk T (j)).text⟩) ⟨by simp, Pj.psn, by simp; omega, by simp; omega, by simp; omega, .inl rfl⟩ C19.out).mono ?_
              rintro v w21 ⟨f21, ⟨n21, hn21, rfl, P21, hb21, c21⟩ | ⟨rfl, D21⟩⟩
              · have C21 : Hid _ := c21
                have Hn_21 : Hid _ := hn21
                clear c21 hn21
                have B21 := B20.go f21 P21
                have F21 := F20.trans f21 (fun _ _ h => h)
                clear r1 r2 r3 r4 r5 b1 b2 b3 x0 x1 x2 x3 x4 x5 x6 x7 xz xl xn1 xn2 xn3
                obtain ⟨r1, r2, r3, r4, r5⟩ := B21.P.r15
                obtain ⟨b1, b2, b3⟩ := B21.P.blt
                obtain ⟨x0, x1, x2, x3, x4, x5, x6, x7, xz, xl, xn1, xn2, xn3⟩ := B21.fx
                have HH : Hid (Ch (ms ++ [(⟨1, -1, -1, -1, -1, t19, ps T (j), (tk T (j)).text⟩ : Nd)]).length f la) := Ch.mono Hh.out (by simp)
                have hlx : la < (n21 : Int) := by have := Ch.b Hh.out Pj.le; have := Hn_21.out; omega
                have hxl : (n21 : Int) < (ms ++ [(⟨1, -1, -1, -1, -1, t19, ps T (j), (tk T (j)).text⟩ : Nd)]).length := by have := Hn_21.out; simp; omega
                have CG : Hid _ := Im.grow C21.out
                go_wp2_with fail
                refine (hangL B21.P HH.out hlx hxl).mono ?_
                rintro v w22 ⟨rfl, P22, f22⟩
                have B22 := B21.go f22 P22
                have F22 := F21.trans f22 (fun _ _ h => h)
                clear r1 r2 r3 r4 r5 b1 b2 b3 x0 x1 x2 x3 x4 x5 x6 x7 xz xl xn1 xn2 xn3
                obtain ⟨r1, r2, r3, r4, r5⟩ := B22.P.r15
                obtain ⟨b1, b2, b3⟩ := B22.P.blt
                obtain ⟨x0, x1, x2, x3, x4, x5, x6, x7, xz, xl, xn1, xn2, xn3⟩ := B22.fx
                go_wp2_with fail
                go_roundg (gk - 1)
                case measure => have := Hg.out; have := Pj.lt; omega
                case rel => exact ⟨n21, n21, rfl, rfl, F22, by omega, by omega, by omega, by omega, .inr ⟨_, _, B22.P, by have := Hg.out; have := stp_le T j; omega, by have := stp_le T j; omega, by rw [lk_len]; simp; omega, by rw [lk_len]; have := Ch.next HH.out (x := n21) (by omega) hxl; rw [if_pos (by omega)] at this; exact this, by have := Im.jump CG.out; rw [if_pos (by omega)] at this; exact this⟩⟩
              · obtain ⟨er21, q21, jd21, md21, h021, P21, hE21⟩ := D21
                have HE21 : Hid _ := hE21
                clear hE21
                have B21 := B20.go f21 P21
                have F21 := F20.trans f21 (fun _ _ h => h)
                clear r1 r2 r3 r4 r5 b1 b2 b3 x0 x1 x2 x3 x4 x5 x6 x7 xz xl xn1 xn2 xn3
                obtain ⟨r1, r2, r3, r4, r5⟩ := B21.P.r15
                obtain ⟨b1, b2, b3⟩ := B21.P.blt
                obtain ⟨x0, x1, x2, x3, x4, x5, x6, x7, xz, xl, xn1, xn2, xn3⟩ := B21.fx
                go_wp2_with fail
                refine (hang_no _ (.inl (by decide)) _).mono ?_
                rintro v w23 ⟨rfl, e23⟩
                subst w23
                go_wp2_with fail
                go_roundg 0
                case measure => have := Hg.out; have := Pj.lt; omega
                case rel => exact ⟨-1, -1, rfl, rfl, F21, by omega, by omega, by omega, by omega, .inl ⟨_, _, _, _, h021, B21.P, HE21.out⟩⟩
            · obtain ⟨er19, q19, jd19, md19, h019, P19, hE19⟩ := D19
              have HE19 : Hid _ := hE19
              clear hE19
              have B19 := B18.go f19 P19
              have F19 := F18.trans f19 (fun _ _ h => h)
              clear r1 r2 r3 r4 r5 b1 b2 b3 x0 x1 x2 x3 x4 x5 x6 x7 xz xl xn1 xn2 xn3
              obtain ⟨r1, r2, r3, r4, r5⟩ := B19.P.r15
              obtain ⟨b1, b2, b3⟩ := B19.P.blt
              obtain ⟨x0, x1, x2, x3, x4, x5, x6, x7, xz, xl, xn1, xn2, xn3⟩ := B19.fx
              go_wp2_with fail
              have B24 := B19.setV (-1)
              have F24 := F19.setNew (b := w16.heap.size) (o := 5) (u := .int .i64 (-1)) Hn17
              refine (add_failed B24.P (⟨1, -1, -1, -1, -1, -1, ps T (j), (tk T (j)).text⟩)).mono ?_
              rintro v w25 ⟨rfl, f25⟩
              have P25 := B24.same f25
              have F25 := F24.trans f25 (fun _ _ h => h.elim)
              clear r1 r2 r3 r4 r5 b1 b2 b3 x0 x1 x2 x3 x4 x5 x6 x7 xz xl xn1 xn2 xn3
              obtain ⟨r1, r2, r3, r4, r5⟩ := P25.P.r15
              obtain ⟨b1, b2, b3⟩ := P25.P.blt
              obtain ⟨x0, x1, x2, x3, x4, x5, x6, x7, xz, xl, xn1, xn2, xn3⟩ := P25.fx
              go_wp2_with fail
              refine (hang_no _ (.inl (by decide)) _).mono ?_
              rintro v w26 ⟨rfl, e26⟩
              subst w26
              go_wp2_with fail
              go_roundg 0
              case measure => have := Hg.out; have := Pj.lt; omega
              case rel => exact ⟨-1, -1, rfl, rfl, F25, by omega, by omega, by omega, by omega, .inl ⟨_, _, _, _, h019, P25.P, HE19.out⟩⟩
          · obtain ⟨er18, q18, jd18, md18, h018, P18, hE18⟩ := D18
            have HE18 : Hid _ := hE18
            clear hE18
            have B18 := B17.go f18 P18
            have F18 := F17.trans f18 (fun _ _ h => h)
            clear r1 r2 r3 r4 r5 b1 b2 b3 x0 x1 x2 x3 x4 x5 x6 x7 xz xl xn1 xn2 xn3
            obtain ⟨r1, r2, r3, r4, r5⟩ := B18.P.r15
            obtain ⟨b1, b2, b3⟩ := B18.P.blt
            obtain ⟨x0, x1, x2, x3, x4, x5, x6, x7, xz, xl, xn1, xn2, xn3⟩ := B18.fx
            go_wp2_with fail
            go_ret
            exact .dead F18 ⟨_, _, _, _, h018, B18.P, HCC.out.2 _ _ HE18.out⟩ (by decide) (by decide)
end
end Go.Proofs.Qxb6500277aGreat
