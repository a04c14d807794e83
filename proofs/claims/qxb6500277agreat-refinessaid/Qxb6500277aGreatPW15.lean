/- The real parser: block. -/
import Derived.Test.Qxb6500277aGreatPW13
namespace Go.Proofs.Qxb6500277aGreat
open Go Go.RowKit

section
variable {w w' : World} {A : Pa} {T : List Tok} {i j : Nat} {ns ms : List Nd} {fl : Bool} {er q : Int} {S : Nat → Prop}
set_option maxRecDepth 100000 in
set_option maxHeartbeats 8000000 in
theorem blockF {n : Nat} (HS : StC T n) (P : PM w A T i ns false 0 0) (hi : T.length ≤ i + n + 1) (d : Nat) (hd : d ≤ 8) {l : Int} (hl : l = 8 - (d : Int)) :
    Calls Tryz.prog 188 #[.pointer (some ⟨A.p, 0, none⟩), .int .i64 l] w (PPost w A T i ns (.block d)) := by
  have Hl : Hid _ := hl
  have l1 : -1 < l := by omega
  have l2 : l < 9 := by omega
  clear hl
  have F0 : Fr (PS A) w w := Fr.refl _ _
  have Hi : Hid _ := hi
  clear hi
  obtain ⟨r1, r2, r3, r4, r5⟩ := P.r15
  obtain ⟨b1, b2, b3⟩ := P.blt
  by_cases k19 : kd T i = 19
  · have hb : (kd T i != 19) = false := by simp [k19]
    have Hs : Hid _ := P.nxt (by omega)
    have C0 : Hid _ := Im.of_eq (T := T) (M := body T (.block d) i ns) (if_pos k19)
    clear k19
    go_enter Tryz.func188, Tryz.ntmps188
    go_wp2_with fail
    refine (kindF P).mono ?_
    rintro v w55 ⟨rfl, f55⟩
    have P55 := P.same f55
    have F55 := F0.trans f55 (fun _ _ h => h.elim)
    clear r1 r2 r3 r4 r5 b1 b2 b3
    obtain ⟨r1, r2, r3, r4, r5⟩ := P55.r15
    obtain ⟨b1, b2, b3⟩ := P55.blt
    go_wp2_with fail
    refine (openC P55 (d) (by omega) Hl.out C0.out).mono ?_
    rintro v w56 ⟨f56, ⟨h856, rfl, e56, c56⟩ | ⟨rfl, D56⟩⟩
    · subst w56
      have C56 : Hid _ := c56
      clear c56 f56
      go_wp2_with fail
      refine (atFp P55).mono ?_
      rintro v w57 ⟨rfl, f57⟩
      have P57 := P55.same f57
      have F57 := F55.trans f57 (fun _ _ h => h.elim)
      clear r1 r2 r3 r4 r5 b1 b2 b3
      obtain ⟨r1, r2, r3, r4, r5⟩ := P57.r15
      obtain ⟨b1, b2, b3⟩ := P57.blt
      go_wp2_with fail
      refine (freshF 2 (ps T i) _).mono ?_
      rintro v w58 ⟨rfl, f58⟩
      have P58 := P57.same f58
      have F58 := F57.trans f58 (fun _ _ h => h.elim)
      unfold ndV fre
      clear r1 r2 r3 r4 r5 b1 b2 b3
      obtain ⟨r1, r2, r3, r4, r5⟩ := P58.r15
      obtain ⟨b1, b2, b3⟩ := P58.blt
      go_wp2_with fail
      have B58 := BM.new P58 (⟨2, -1, -1, -1, -1, 0, ps T i, ⟨#[]⟩⟩)
      have G58 := F58.alloc (boxN (⟨2, -1, -1, -1, -1, 0, ps T i, ⟨#[]⟩⟩))
      have Hn58 : w.heap.size ≤ w58.heap.size := F58.size
      refine (stepFp B58.P).mono ?_
      rintro v w59 ⟨rfl, P59, f59⟩
      have B59 := B58.go f59 P59
      have F59 := G58.trans f59 (fun _ _ h => h)
      clear r1 r2 r3 r4 r5 b1 b2 b3
      obtain ⟨r1, r2, r3, r4, r5⟩ := B59.P.r15
      obtain ⟨b1, b2, b3⟩ := B59.P.blt
      obtain ⟨x0, x1, x2, x3, x4, x5, x6, x7, xz, xl, xn1, xn2, xn3⟩ := B59.fx
      go_wp2_with fail
      have HCC : Hid _ := Im.call2 C56.out
      have HQ : Hid _ := B59
      have HF : Hid _ := F59
      clear r1 r2 r3 r4 r5 b1 b2 b3 x0 x1 x2 x3 x4 x5 x6 x7 xz xl xn1 xn2 xn3
      generalize w58.heap.size = bx at *
      go_loopg [8] (T.length + 1) (fun gk lv wr => ∃ f la : Int, lv = .int .i64 la ∧ Fr (PS A) w wr ∧ -2 < f ∧ f < 200 ∧ -2 < la ∧ la < 200 ∧ ((∃ er q j ms, er ≠ 0 ∧ BM wr A T j ms true er q bx ⟨2, f, -1, -1, -1, 0, ps T i, ⟨#[]⟩⟩ ∧ EvM T (body T (.blkL d (-1) (-1)) (stp T i) ns) (.bad er q)) ∨ ∃ j ms, BM wr A T j ms false 0 0 bx ⟨2, f, -1, -1, -1, 0, ps T i, ⟨#[]⟩⟩ ∧ T.length < j + gk ∧ i < j ∧ ns.length ≤ ms.length ∧ Ch ms.length f la ∧ Im T (body T (.blkL d f la) j ms) (body T (.blkL d (-1) (-1)) (stp T i) ns)))
      case atStart => exact ⟨-1, -1, rfl, HF.out, by decide, by decide, by decide, by decide, .inr ⟨_, _, HQ.out, by have := Hs.out; omega, by have := Hs.out; omega, by omega, .inl ⟨rfl, rfl⟩, .refl _⟩⟩
      case round =>
        clear HQ HF B59 F59
        obtain ⟨f, la, rfl, FJ, fb1, fb2, lb1, lb2, ⟨er0, q0, jd0, md0, h00, Pj, hE0⟩ | ⟨j, ms, Pj, hg, hij, hlen, hch, hc⟩⟩ := hrel
        · have HE0 : Hid _ := hE0
          clear hE0
          obtain ⟨r1, r2, r3, r4, r5⟩ := Pj.P.r15
          obtain ⟨b1, b2, b3⟩ := Pj.P.blt
          obtain ⟨x0, x1, x2, x3, x4, x5, x6, x7, xz, xl, xn1, xn2, xn3⟩ := Pj.fx
          go_wp2_with fail
          refine (take_failed Pj.P 20).mono ?_
          rintro v w60 ⟨rfl, e60⟩
          subst w60
          go_wp2_with fail
          go_ret
          exact .dead FJ ⟨_, _, _, _, h00, Pj.P, HCC.out.2 _ _ HE0.out⟩
        · have Hc : Hid _ := hc
          have Hg : Hid _ := hg
          have Hh : Hid _ := hch
          clear hc hg hch
          obtain ⟨r1, r2, r3, r4, r5⟩ := Pj.P.r15
          obtain ⟨b1, b2, b3⟩ := Pj.P.blt
          obtain ⟨x0, x1, x2, x3, x4, x5, x6, x7, xz, xl, xn1, xn2, xn3⟩ := Pj.fx
          go_wp2_with fail
          refine (kindF Pj.P).mono ?_
          rintro v w61 ⟨rfl, f61⟩
          have P61 := Pj.same f61
          have F61 := FJ.trans f61 (fun _ _ h => h.elim)
          clear r1 r2 r3 r4 r5 b1 b2 b3 x0 x1 x2 x3 x4 x5 x6 x7 xz xl xn1 xn2 xn3
          obtain ⟨r1, r2, r3, r4, r5⟩ := P61.P.r15
          obtain ⟨b1, b2, b3⟩ := P61.P.blt
          obtain ⟨x0, x1, x2, x3, x4, x5, x6, x7, xz, xl, xn1, xn2, xn3⟩ := P61.fx
          by_cases k20 : kd T j = 20
          · have hb : (kd T j != 20) = false := by simp [k20]
            have C1 : Hid _ := Im.of (T := T) Hc.out (m := body T (.blkL d f la) j ms) (if_pos k20)
            have Hk : Hid _ := k20
            clear k20
            go_wp2_with fail
            refine (takeF P61.P 20).mono ?_
            rintro v w62 ⟨f62, ⟨k20, rfl, P62⟩ | ⟨k20, rfl, P62⟩⟩
            · clear k20
              have CA : Hid _ := HCC.out.1 _ _ _ C1.out
              have B62 := P61.go f62 P62
              have F62 := F61.trans f62 (fun _ _ h => h)
              clear r1 r2 r3 r4 r5 b1 b2 b3 x0 x1 x2 x3 x4 x5 x6 x7 xz xl xn1 xn2 xn3
              obtain ⟨r1, r2, r3, r4, r5⟩ := B62.P.r15
              obtain ⟨b1, b2, b3⟩ := B62.P.blt
              obtain ⟨x0, x1, x2, x3, x4, x5, x6, x7, xz, xl, xn1, xn2, xn3⟩ := B62.fx
              go_wp2_with fail
              refine (addC B62.P (⟨2, f, -1, -1, -1, 0, ps T i, ⟨#[]⟩⟩) ⟨by simp, P.psn, by have := Ch.b Hh.out Pj.P.le; simp; omega, by simp; omega, by simp; omega, .inl rfl⟩ CA.out).mono ?_
              rintro v w63 ⟨f63, ⟨n63, hn63, rfl, P63, hb63, c63⟩ | ⟨rfl, D63⟩⟩
              · have C63 : Hid _ := c63
                have Hn_63 : Hid _ := hn63
                clear c63 hn63
                have B63 := B62.go f63 P63
                have F63 := F62.trans f63 (fun _ _ h => h)
                clear r1 r2 r3 r4 r5 b1 b2 b3 x0 x1 x2 x3 x4 x5 x6 x7 xz xl xn1 xn2 xn3
                obtain ⟨r1, r2, r3, r4, r5⟩ := B63.P.r15
                obtain ⟨b1, b2, b3⟩ := B63.P.blt
                obtain ⟨x0, x1, x2, x3, x4, x5, x6, x7, xz, xl, xn1, xn2, xn3⟩ := B63.fx
                go_wp2_with fail
                go_ret
                exact .done F63 B63.P C63.out (by have := stp_le T j; omega) (by have := Hn_63.out; simp; omega) (by have := Hn_63.out; omega)
              · obtain ⟨er63, q63, jd63, md63, h063, P63, hE63⟩ := D63
                have HE63 : Hid _ := hE63
                clear hE63
                have B63 := B62.go f63 P63
                have F63 := F62.trans f63 (fun _ _ h => h)
                clear r1 r2 r3 r4 r5 b1 b2 b3 x0 x1 x2 x3 x4 x5 x6 x7 xz xl xn1 xn2 xn3
                obtain ⟨r1, r2, r3, r4, r5⟩ := B63.P.r15
                obtain ⟨b1, b2, b3⟩ := B63.P.blt
                obtain ⟨x0, x1, x2, x3, x4, x5, x6, x7, xz, xl, xn1, xn2, xn3⟩ := B63.fx
                go_wp2_with fail
                go_ret
                exact .dead F63 ⟨_, _, _, _, h063, B63.P, HE63.out⟩
            · exact absurd Hk.out k20
          · have hb : (kd T j != 20) = true := by simpa using k20
            have C1 : Hid _ := Im.of (T := T) Hc.out (m := body T (.blkL d f la) j ms) (if_neg k20)
            clear k20
            go_wp2_with fail
            refine ((HS _ A _ _ (d + 1) (l - 1) (by have := Hi.out; omega) P61.P (by omega) (by have := Hl.out; omega)).mono fun _ _ h => h.use C1.out).mono ?_
            rintro v w64 ⟨f64, ⟨x64_, j64, m64, rfl, P64, hj64, hx64, hn64, c64⟩ | ⟨rfl, D64⟩⟩
            · have C64 : Hid _ := c64
              have Hx64 : Hid _ := hx64
              have xb64 : x64_ < 200 := by have := P64.le; omega
              have xc64 : -1 < x64_ := by omega
              clear c64 hx64
              have B64 := P61.go f64 P64
              have F64 := F61.trans f64 (fun _ _ h => h)
              clear r1 r2 r3 r4 r5 b1 b2 b3 x0 x1 x2 x3 x4 x5 x6 x7 xz xl xn1 xn2 xn3
              obtain ⟨r1, r2, r3, r4, r5⟩ := B64.P.r15
              obtain ⟨b1, b2, b3⟩ := B64.P.blt
              obtain ⟨x0, x1, x2, x3, x4, x5, x6, x7, xz, xl, xn1, xn2, xn3⟩ := B64.fx
              have HH : Hid (Ch m64.length f la) := Ch.mono Hh.out (by have := Hx64.out; omega)
              have hlx : la < x64_ := by have := Ch.b Hh.out Pj.P.le; have := Hx64.out; omega
              have CG : Hid _ := Im.grow C64.out
              go_wp2_with fail
              refine (hangL B64.P HH.out hlx (by have := Hx64.out; omega)).mono ?_
              rintro v w65 ⟨rfl, P65, f65⟩
              have B65 := B64.go f65 P65
              have F65 := F64.trans f65 (fun _ _ h => h)
              clear r1 r2 r3 r4 r5 b1 b2 b3 x0 x1 x2 x3 x4 x5 x6 x7 xz xl xn1 xn2 xn3
              obtain ⟨r1, r2, r3, r4, r5⟩ := B65.P.r15
              obtain ⟨b1, b2, b3⟩ := B65.P.blt
              obtain ⟨x0, x1, x2, x3, x4, x5, x6, x7, xz, xl, xn1, xn2, xn3⟩ := B65.fx
              by_cases hf : f < 0
              · have hfb : decide (f < 0) = true := decide_eq_true hf
                go_wp2_with fail
                have B66 := B65.setA (x64_)
                have F66 := F65.setNew (b := bx) (o := 1) (u := .int .i64 (x64_)) Hn58
                go_roundg (gk - 1)
                case measure => have := Hg.out; have := P64.lt; omega
                case rel => exact ⟨x64_, x64_, rfl, F66, by omega, by omega, by omega, by omega, .inr ⟨_, _, B66, by have := Hg.out; omega, by omega, by rw [lk_len]; have := Hx64.out; omega, by rw [lk_len]; have := Ch.next HH.out (x := x64_) (by omega) (by have := Hx64.out; omega); rw [if_pos (by omega)] at this; exact this, by have := Im.jump CG.out; rw [if_pos (by omega)] at this; exact this⟩⟩
              · have hfb : decide (f < 0) = false := decide_eq_false hf
                go_wp2_with fail
                go_roundg (gk - 1)
                case measure => have := Hg.out; have := P64.lt; omega
                case rel => exact ⟨f, x64_, rfl, F65, by omega, by omega, by omega, by omega, .inr ⟨_, _, B65, by have := Hg.out; omega, by omega, by rw [lk_len]; have := Hx64.out; omega, by rw [lk_len]; have := Ch.next HH.out (x := x64_) (by omega) (by have := Hx64.out; omega); rw [if_neg (by omega)] at this; exact this, by have := Im.jump CG.out; rw [if_neg (by omega)] at this; exact this⟩⟩
            · obtain ⟨er64, q64, jd64, md64, h064, P64, hE64⟩ := D64
              have HE64 : Hid _ := hE64
              clear hE64
              have B64 := P61.go f64 P64
              have F64 := F61.trans f64 (fun _ _ h => h)
              clear r1 r2 r3 r4 r5 b1 b2 b3 x0 x1 x2 x3 x4 x5 x6 x7 xz xl xn1 xn2 xn3
              obtain ⟨r1, r2, r3, r4, r5⟩ := B64.P.r15
              obtain ⟨b1, b2, b3⟩ := B64.P.blt
              obtain ⟨x0, x1, x2, x3, x4, x5, x6, x7, xz, xl, xn1, xn2, xn3⟩ := B64.fx
              go_wp2_with fail
              refine (hang_no _ (.inl (by decide)) _).mono ?_
              rintro v w67 ⟨rfl, e67⟩
              subst w67
              by_cases hf : f < 0
              · have hfb : decide (f < 0) = true := decide_eq_true hf
                go_wp2_with fail
                have B68 := B64.setA (-1)
                have F68 := F64.setNew (b := bx) (o := 1) (u := .int .i64 (-1)) Hn58
                go_roundg 0
                case measure => have := Hg.out; have := Pj.P.lt; omega
                case rel => exact ⟨-1, -1, rfl, F68, by omega, by omega, by omega, by omega, .inl ⟨_, _, _, _, h064, B68, HE64.out⟩⟩
              · have hfb : decide (f < 0) = false := decide_eq_false hf
                go_wp2_with fail
                go_roundg 0
                case measure => have := Hg.out; have := Pj.P.lt; omega
                case rel => exact ⟨f, -1, rfl, F64, by omega, by omega, by omega, by omega, .inl ⟨_, _, _, _, h064, B64, HE64.out⟩⟩
    · obtain ⟨er56, q56, jd56, md56, h056, P56, hE56⟩ := D56
      have HE56 : Hid _ := hE56
      clear hE56
      have F56 := F55.trans f56 (fun _ _ h => h)
      clear r1 r2 r3 r4 r5 b1 b2 b3
      obtain ⟨r1, r2, r3, r4, r5⟩ := P56.r15
      obtain ⟨b1, b2, b3⟩ := P56.blt
      go_wp2_with fail
      go_ret
      exact .dead F56 ⟨_, _, _, _, h056, P56, HE56.out⟩
  · have hb : (kd T i != 19) = true := by simpa using k19
    have C0 : Hid _ := Im.of_eq (T := T) (M := body T (.block d) i ns) (if_neg k19)
    clear k19
    go_enter Tryz.func188, Tryz.ntmps188
    go_wp2_with fail
    refine (kindF P).mono ?_
    rintro v w69 ⟨rfl, f69⟩
    have P69 := P.same f69
    have F69 := F0.trans f69 (fun _ _ h => h.elim)
    clear r1 r2 r3 r4 r5 b1 b2 b3
    obtain ⟨r1, r2, r3, r4, r5⟩ := P69.r15
    obtain ⟨b1, b2, b3⟩ := P69.blt
    go_wp2_with fail
    refine (atFp P69).mono ?_
    rintro v w70 ⟨rfl, f70⟩
    have P70 := P69.same f70
    have F70 := F69.trans f70 (fun _ _ h => h.elim)
    clear r1 r2 r3 r4 r5 b1 b2 b3
    obtain ⟨r1, r2, r3, r4, r5⟩ := P70.r15
    obtain ⟨b1, b2, b3⟩ := P70.blt
    go_wp2_with fail
    refine (failF P70 10 (ps T i)).mono ?_
    rintro v w9 ⟨rfl, P9, f9⟩
    go_wp2_with fail
    go_ret
    exact .dead (F70.trans f9 (fun _ _ h => h)) ⟨_, _, _, _, by decide, P9, C0.out _ (.ret _)⟩
end
end Go.Proofs.Qxb6500277aGreat
