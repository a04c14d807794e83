/- The real parser: brackets, postfix. -/
import Derived.Test.Qxb6500277aGreatPW4
namespace Go.Proofs.Qxb6500277aGreat
open Go Go.RowKit

section
variable {w w' : World} {A : Pa} {T : List Tok} {i j : Nat} {ns ms : List Nd} {fl : Bool} {er q : Int} {S : Nat → Prop}
theorem Im.of_eq {m M : Mo} (e : M = m) : Im T m M := by rw [e]; exact .refl _
theorem Im.of {m m' M : Mo} (h : Im T m M) (e : m = m') : Im T m' M := by rw [← e]; exact h
set_option maxRecDepth 100000 in
set_option maxHeartbeats 8000000 in
theorem bracketF {n : Nat} (H : LvC T n) (P : PM w A T i ns false 0 0) (hi : T.length ≤ i + n + 1) (d : Nat) (hd : d ≤ 8) {l : Int} (hl : l = 8 - (d : Int)) :
    Calls Tryz.prog 247 #[.pointer (some ⟨A.p, 0, none⟩), .int .i64 l] w (PPost w A T i ns (.inner d)) := by
  have Hl : Hid _ := hl
  have Hi : Hid _ := hi
  have l1 : -1 < l := by omega
  have l2 : l < 9 := by omega
  clear hl hi
  have F0 : Fr (PS A) w w := Fr.refl _ _
  obtain ⟨r1, r2, r3, r4, r5⟩ := P.r15
  obtain ⟨b1, b2, b3⟩ := P.blt
  by_cases k17 : kd T i = 17
  · have hb : (kd T i != 17) = false := by simp [k17]
    have Hs : Hid _ := P.nxt (by omega)
    have C0 : Hid _ := Im.of_eq (T := T) (M := body T (.inner d) i ns) (if_pos k17)
    clear k17
    go_enter Tryz.func247, Tryz.ntmps247
    go_wp2_with fail
    refine (kindF P).mono ?_
    rintro v w1 ⟨rfl, f1⟩
    have P1 := P.same f1
    have F1 := F0.trans f1 (fun _ _ h => h.elim)
    clear r1 r2 r3 r4 r5 b1 b2 b3
    obtain ⟨r1, r2, r3, r4, r5⟩ := P1.r15
    obtain ⟨b1, b2, b3⟩ := P1.blt
    go_wp2_with fail
    refine (openC P1 (d) (by omega) Hl.out C0.out).mono ?_
    rintro v w2 ⟨f2, ⟨h82, rfl, e2, c2⟩ | ⟨rfl, D2⟩⟩
    · subst w2
      have C2 : Hid _ := c2
      clear c2 f2
      go_wp2_with fail
      refine (stepFp P1).mono ?_
      rintro v w3 ⟨rfl, P3, f3⟩
      have F3 := F1.trans f3 (fun _ _ h => h)
      clear r1 r2 r3 r4 r5 b1 b2 b3
      obtain ⟨r1, r2, r3, r4, r5⟩ := P3.r15
      obtain ⟨b1, b2, b3⟩ := P3.blt
      go_wp2_with fail
      refine (H.use (by have := Hi.out; have := Hs.out; omega) P3 (d := d + 1) (l := l - 1) (by omega) (by have := Hl.out; omega) C2.out).mono ?_
      rintro v w4 ⟨f4, ⟨x4_, j4, m4, rfl, P4, hj4, hx4, hn4, c4⟩ | ⟨rfl, D4⟩⟩
      · have C4 : Hid _ := c4
        have Hx4 : Hid _ := hx4
        have xb4 : x4_ < 200 := by have := P4.le; omega
        have xc4 : -1 < x4_ := by omega
        clear c4 hx4
        have F4 := F3.trans f4 (fun _ _ h => h)
        clear r1 r2 r3 r4 r5 b1 b2 b3
        obtain ⟨r1, r2, r3, r4, r5⟩ := P4.r15
        obtain ⟨b1, b2, b3⟩ := P4.blt
        go_wp2_with fail
        refine (takeC P4 18 (by decide) C4.out).mono ?_
        rintro v w5 ⟨f5, ⟨k5, rfl, P5, hs5, c5⟩ | ⟨rfl, D5⟩⟩
        · have C5 : Hid _ := c5
          have Hk5 : Hid _ := k5
          clear c5 k5
          have F5 := F4.trans f5 (fun _ _ h => h)
          clear r1 r2 r3 r4 r5 b1 b2 b3
          obtain ⟨r1, r2, r3, r4, r5⟩ := P5.r15
          obtain ⟨b1, b2, b3⟩ := P5.blt
          go_wp2_with fail
          go_ret
          exact .done F5 P5 C5.out (by have := stp_le T i; omega) Hx4.out hn4
        · obtain ⟨er5, q5, jd5, md5, h05, P5, hE5⟩ := D5
          have HE5 : Hid _ := hE5
          clear hE5
          have F5 := F4.trans f5 (fun _ _ h => h)
          clear r1 r2 r3 r4 r5 b1 b2 b3
          obtain ⟨r1, r2, r3, r4, r5⟩ := P5.r15
          obtain ⟨b1, b2, b3⟩ := P5.blt
          go_wp2_with fail
          go_ret
          exact .dead F5 ⟨_, _, _, _, h05, P5, HE5.out⟩
      · obtain ⟨er4, q4, jd4, md4, h04, P4, hE4⟩ := D4
        have HE4 : Hid _ := hE4
        clear hE4
        have F4 := F3.trans f4 (fun _ _ h => h)
        clear r1 r2 r3 r4 r5 b1 b2 b3
        obtain ⟨r1, r2, r3, r4, r5⟩ := P4.r15
        obtain ⟨b1, b2, b3⟩ := P4.blt
        go_wp2_with fail
        refine (take_failed P4 18).mono ?_
        rintro v w6 ⟨rfl, e6⟩
        subst w6
        go_wp2_with fail
        go_ret
        exact .dead F4 ⟨_, _, _, _, h04, P4, HE4.out⟩
    · obtain ⟨er2, q2, jd2, md2, h02, P2, hE2⟩ := D2
      have HE2 : Hid _ := hE2
      clear hE2
      have F2 := F1.trans f2 (fun _ _ h => h)
      clear r1 r2 r3 r4 r5 b1 b2 b3
      obtain ⟨r1, r2, r3, r4, r5⟩ := P2.r15
      obtain ⟨b1, b2, b3⟩ := P2.blt
      go_wp2_with fail
      go_ret
      exact .dead F2 ⟨_, _, _, _, h02, P2, HE2.out⟩
  · have hb : (kd T i != 17) = true := by simpa using k17
    have C0 : Hid _ := Im.of_eq (T := T) (M := body T (.inner d) i ns) (if_neg k17)
    clear k17
    go_enter Tryz.func247, Tryz.ntmps247
    go_wp2_with fail
    refine (kindF P).mono ?_
    rintro v w7 ⟨rfl, f7⟩
    have P7 := P.same f7
    have F7 := F0.trans f7 (fun _ _ h => h.elim)
    clear r1 r2 r3 r4 r5 b1 b2 b3
    obtain ⟨r1, r2, r3, r4, r5⟩ := P7.r15
    obtain ⟨b1, b2, b3⟩ := P7.blt
    go_wp2_with fail
    refine (atFp P7).mono ?_
    rintro v w8 ⟨rfl, f8⟩
    have P8 := P7.same f8
    have F8 := F7.trans f8 (fun _ _ h => h.elim)
    clear r1 r2 r3 r4 r5 b1 b2 b3
    obtain ⟨r1, r2, r3, r4, r5⟩ := P8.r15
    obtain ⟨b1, b2, b3⟩ := P8.blt
    go_wp2_with fail
    refine (failF P8 10 (ps T i)).mono ?_
    rintro v w9 ⟨rfl, P9, f9⟩
    go_wp2_with fail
    go_ret
    exact .dead (F8.trans f9 (fun _ _ h => h)) ⟨_, _, _, _, by decide, P9, C0.out _ (.ret _)⟩
set_option maxRecDepth 100000 in
set_option maxHeartbeats 1000000 in
theorem bracket_failed (P : PM w A T i ns true er q) (l : Int) : Calls Tryz.prog 247 #[.pointer (some ⟨A.p, 0, none⟩), .int .i64 l] w fun v w' => v = .returned (.int .i64 (-1)) ∧ w' = w := by
  obtain ⟨r1, r2, r3, r4, r5⟩ := P.r15
  obtain ⟨b1, b2, b3⟩ := P.blt
  go_enter Tryz.func247, Tryz.ntmps247
  go_wp2_with fail
  go_ret
  exact ⟨rfl, rfl⟩
/-- primary at i. -/
def PrC (T : List Tok) (i : Nat) : Prop := ∀ (w : World) (A : Pa) (ns : List Nd) (d : Nat) (l : Int), PM w A T i ns false 0 0 → d ≤ 8 → l = 8 - (d : Int) → Calls Tryz.prog 245 #[.pointer (some ⟨A.p, 0, none⟩), .int .i64 l] w (PPost w A T i ns (.prim d))
set_option maxRecDepth 100000 in
set_option maxHeartbeats 8000000 in
theorem postF {n : Nat} (H : LvC T n) (hp : PrC T i) (P : PM w A T i ns false 0 0) (hi : T.length ≤ i + n + 1) (d : Nat) (hd : d ≤ 8) {l : Int} (hl : l = 8 - (d : Int)) :
    Calls Tryz.prog 243 #[.pointer (some ⟨A.p, 0, none⟩), .int .i64 l] w (PPost w A T i ns (.post d)) := by
  have Hl : Hid _ := hl
  have Hi : Hid _ := hi
  have l1 : -1 < l := by omega
  have l2 : l < 9 := by omega
  clear hl hi
  have F0 : Fr (PS A) w w := Fr.refl _ _
  go_enter Tryz.func243, Tryz.ntmps243
  go_wp2_with fail
  refine (hp w A ns d l P hd Hl.out).mono ?_
  intro v w1 h1
  obtain ⟨f1, h1⟩ := h1.use (Im.refl (T := T) (body T (.post d) i ns))
  have hv : ∃ x0 : Int, v = .returned (.int .i64 x0) ∧ ((x0 = -1 ∧ Dd w1 A T (body T (.post d) i ns)) ∨ ∃ j ms, PM w1 A T j ms false 0 0 ∧ i < j ∧ x0 + 1 = ms.length ∧ (ns.length : Int) ≤ x0 ∧ Im T (body T (.postL d x0) j ms) (body T (.post d) i ns)) := by
    rcases h1 with ⟨x, j, ms, e, a, b, c, d', C⟩ | ⟨e, D⟩
    · exact ⟨x, e, .inr ⟨j, ms, a, b, c, d', C.jump⟩⟩
    · exact ⟨-1, e, .inl ⟨rfl, D⟩⟩
  obtain ⟨x0, rfl, h2'⟩ := hv
  have h2 : Hid _ := h2'
  clear h1 h2' P hp F0
  go_wp2_with fail
  go_loopg [5] (T.length + 1) (fun gk xv wr => ∃ x : Int, xv = .int .i64 x ∧ Fr (PS A) w wr ∧ ((x = -1 ∧ Dd wr A T (body T (.post d) i ns)) ∨ ∃ j ms, PM wr A T j ms false 0 0 ∧ T.length < j + gk ∧ i < j ∧ x + 1 = ms.length ∧ (ns.length : Int) ≤ x ∧ Im T (body T (.postL d x) j ms) (body T (.post d) i ns)))
  case atStart =>
    refine ⟨x0, rfl, f1, h2.out.imp id ?_⟩
    rintro ⟨j, ms, a, b, c⟩
    exact ⟨j, ms, a, by omega, b, c⟩
  case round =>
    clear h2 f1
    obtain ⟨x, rfl, FJ, ⟨rfl, D⟩ | ⟨j, ms, Pj, hg, hij, hx, hn, hc⟩⟩ := hrel
    · obtain ⟨er0, q0, jd0, md0, h00, Pj, hE0⟩ := D
      have HE0 : Hid _ := hE0
      clear hE0
      obtain ⟨r1, r2, r3, r4, r5⟩ := Pj.r15
      obtain ⟨b1, b2, b3⟩ := Pj.blt
      go_wp2_with fail
      go_ret
      exact .dead FJ ⟨_, _, _, _, h00, Pj, HE0.out⟩
    · have Hx : Hid _ := hx
      have Hc : Hid _ := hc
      have Hg : Hid _ := hg
      clear hx hc hg
      have xb : x < 200 := by have := Pj.le; have := Hx.out; omega
      have xb0 : -1 < x := by omega
      obtain ⟨r1, r2, r3, r4, r5⟩ := Pj.r15
      obtain ⟨b1, b2, b3⟩ := Pj.blt
      go_wp2_with fail
      refine (kindF Pj).mono ?_
      rintro v w9 ⟨rfl, f9⟩
      have P9 := Pj.same f9
      have F9 := FJ.trans f9 (fun _ _ h => h.elim)
      clear r1 r2 r3 r4 r5 b1 b2 b3
      obtain ⟨r1, r2, r3, r4, r5⟩ := P9.r15
      obtain ⟨b1, b2, b3⟩ := P9.blt
      by_cases k21 : kd T j = 21
      · have hb : (kd T j == 21) = true := by simp [k21]
        have Hs : Hid _ := P9.nxt (by omega)
        have C0 : Hid _ := Im.of (T := T) Hc.out (m := body T (.postL d x) j ms) (if_pos k21)
        clear k21
        go_wp2_with fail
        refine (openC P9 (d) (by omega) Hl.out C0.out).mono ?_
        rintro v w10 ⟨f10, ⟨h810, rfl, e10, c10⟩ | ⟨rfl, D10⟩⟩
        · subst w10
          have C10 : Hid _ := c10
          clear c10 f10
          go_wp2_with fail
          refine (atFp P9).mono ?_
          rintro v w11 ⟨rfl, f11⟩
          have P11 := P9.same f11
          have F11 := F9.trans f11 (fun _ _ h => h.elim)
          clear r1 r2 r3 r4 r5 b1 b2 b3
          obtain ⟨r1, r2, r3, r4, r5⟩ := P11.r15
          obtain ⟨b1, b2, b3⟩ := P11.blt
          go_wp2_with fail
          refine (freshF 14 (ps T j) _).mono ?_
          rintro v w12 ⟨rfl, f12⟩
          have P12 := P11.same f12
          have F12 := F11.trans f12 (fun _ _ h => h.elim)
          unfold ndV fre
          clear r1 r2 r3 r4 r5 b1 b2 b3
          obtain ⟨r1, r2, r3, r4, r5⟩ := P12.r15
          obtain ⟨b1, b2, b3⟩ := P12.blt
          go_wp2_with fail
          have B12 := BM.new P12 (⟨14, -1, -1, -1, -1, 0, ps T j, ⟨#[]⟩⟩)
          have G12 := F12.alloc (boxN (⟨14, -1, -1, -1, -1, 0, ps T j, ⟨#[]⟩⟩))
          have Hn12 : w.heap.size ≤ w12.heap.size := F12.size
          refine (stepFp B12.P).mono ?_
          rintro v w13 ⟨rfl, P13, f13⟩
          have B13 := B12.go f13 P13
          have F13 := G12.trans f13 (fun _ _ h => h)
          clear r1 r2 r3 r4 r5 b1 b2 b3
          obtain ⟨r1, r2, r3, r4, r5⟩ := B13.P.r15
          obtain ⟨b1, b2, b3⟩ := B13.P.blt
          obtain ⟨x0, x1, x2, x3, x4, x5, x6, x7, xz, xl, xn1, xn2, xn3⟩ := B13.fx
          go_wp2_with fail
          have B14 := B13.setA (x)
          have F14 := F13.setNew (b := w12.heap.size) (o := 1) (u := .int .i64 (x)) Hn12
          refine (H.use (by have := Hi.out; have := Hs.out; omega) B14.P (d := d + 1) (l := l - 1) (by omega) (by have := Hl.out; omega) C10.out).mono ?_
          rintro v w15 ⟨f15, ⟨x15_, j15, m15, rfl, P15, hj15, hx15, hn15, c15⟩ | ⟨rfl, D15⟩⟩
          · have C15 : Hid _ := c15
            have Hx15 : Hid _ := hx15
            have xb15 : x15_ < 200 := by have := P15.le; omega
            have xc15 : -1 < x15_ := by omega
            clear c15 hx15
            have B15 := B14.go f15 P15
            have F15 := F14.trans f15 (fun _ _ h => h)
            clear r1 r2 r3 r4 r5 b1 b2 b3 x0 x1 x2 x3 x4 x5 x6 x7 xz xl xn1 xn2 xn3
            obtain ⟨r1, r2, r3, r4, r5⟩ := B15.P.r15
            obtain ⟨b1, b2, b3⟩ := B15.P.blt
            obtain ⟨x0, x1, x2, x3, x4, x5, x6, x7, xz, xl, xn1, xn2, xn3⟩ := B15.fx
            go_wp2_with fail
            have B16 := B15.setB (x15_)
            have F16 := F15.setNew (b := w12.heap.size) (o := 2) (u := .int .i64 (x15_)) Hn12
            refine (takeC B16.P 22 (by decide) C15.out).mono ?_
            rintro v w17 ⟨f17, ⟨k17, rfl, P17, hs17, c17⟩ | ⟨rfl, D17⟩⟩
            · have C17 : Hid _ := c17
              have Hk17 : Hid _ := k17
              clear c17 k17
              have B17 := B16.go f17 P17
              have F17 := F16.trans f17 (fun _ _ h => h)
              clear r1 r2 r3 r4 r5 b1 b2 b3 x0 x1 x2 x3 x4 x5 x6 x7 xz xl xn1 xn2 xn3
              obtain ⟨r1, r2, r3, r4, r5⟩ := B17.P.r15
              obtain ⟨b1, b2, b3⟩ := B17.P.blt
              obtain ⟨x0, x1, x2, x3, x4, x5, x6, x7, xz, xl, xn1, xn2, xn3⟩ := B17.fx
              go_wp2_with fail
              refine (addC B17.P (⟨14, x, x15_, -1, -1, 0, ps T j, ⟨#[]⟩⟩) ⟨by simp, Pj.psn, by have := Hx.out; have := Hx15.out; simp; omega, by have := Hx.out; have := Hx15.out; simp; omega, by simp; omega, .inl rfl⟩ C17.out).mono ?_
              rintro v w18 ⟨f18, ⟨n18, hn18, rfl, P18, hb18, c18⟩ | ⟨rfl, D18⟩⟩
              · have C18 : Hid _ := c18
                have Hn_18 : Hid _ := hn18
                clear c18 hn18
                have B18 := B17.go f18 P18
                have F18 := F17.trans f18 (fun _ _ h => h)
                clear r1 r2 r3 r4 r5 b1 b2 b3 x0 x1 x2 x3 x4 x5 x6 x7 xz xl xn1 xn2 xn3
                obtain ⟨r1, r2, r3, r4, r5⟩ := B18.P.r15
                obtain ⟨b1, b2, b3⟩ := B18.P.blt
                obtain ⟨x0, x1, x2, x3, x4, x5, x6, x7, xz, xl, xn1, xn2, xn3⟩ := B18.fx
                go_wp2_with fail
                go_roundg (gk - 1)
                case measure => have := Hg.out; have := Pj.lt; omega
                case rel => exact ⟨n18, rfl, F18, .inr ⟨_, _, B18.P, by have := Hg.out; have := Hs.out; omega, by have := Hs.out; omega, by have := Hn_18.out; simp; omega, by have := Hn_18.out; have := Hx.out; have := Hx15.out; omega, Im.jump C18.out⟩⟩
              · obtain ⟨er18, q18, jd18, md18, h018, P18, hE18⟩ := D18
                have HE18 : Hid _ := hE18
                clear hE18
                have B18 := B17.go f18 P18
                have F18 := F17.trans f18 (fun _ _ h => h)
                clear r1 r2 r3 r4 r5 b1 b2 b3 x0 x1 x2 x3 x4 x5 x6 x7 xz xl xn1 xn2 xn3
                obtain ⟨r1, r2, r3, r4, r5⟩ := B18.P.r15
                obtain ⟨b1, b2, b3⟩ := B18.P.blt
                obtain ⟨x0, x1, x2, x3, x4, x5, x6, x7, xz, xl, xn1, xn2, xn3⟩ := B18.fx
                go_wp2_with fail
                go_roundg 0
                case measure => have := Hg.out; have := Pj.lt; omega
                case rel => exact ⟨-1, rfl, F18, .inl ⟨rfl, ⟨_, _, _, _, h018, B18.P, HE18.out⟩⟩⟩
            · obtain ⟨er17, q17, jd17, md17, h017, P17, hE17⟩ := D17
              have HE17 : Hid _ := hE17
              clear hE17
              have B17 := B16.go f17 P17
              have F17 := F16.trans f17 (fun _ _ h => h)
              clear r1 r2 r3 r4 r5 b1 b2 b3 x0 x1 x2 x3 x4 x5 x6 x7 xz xl xn1 xn2 xn3
              obtain ⟨r1, r2, r3, r4, r5⟩ := B17.P.r15
              obtain ⟨b1, b2, b3⟩ := B17.P.blt
              obtain ⟨x0, x1, x2, x3, x4, x5, x6, x7, xz, xl, xn1, xn2, xn3⟩ := B17.fx
              go_wp2_with fail
              go_ret
              exact .dead F17 ⟨_, _, _, _, h017, B17.P, HE17.out⟩
          · obtain ⟨er15, q15, jd15, md15, h015, P15, hE15⟩ := D15
            have HE15 : Hid _ := hE15
            clear hE15
            have B15 := B14.go f15 P15
            have F15 := F14.trans f15 (fun _ _ h => h)
            clear r1 r2 r3 r4 r5 b1 b2 b3 x0 x1 x2 x3 x4 x5 x6 x7 xz xl xn1 xn2 xn3
            obtain ⟨r1, r2, r3, r4, r5⟩ := B15.P.r15
            obtain ⟨b1, b2, b3⟩ := B15.P.blt
            obtain ⟨x0, x1, x2, x3, x4, x5, x6, x7, xz, xl, xn1, xn2, xn3⟩ := B15.fx
            go_wp2_with fail
            have B19 := B15.setB (-1)
            have F19 := F15.setNew (b := w12.heap.size) (o := 2) (u := .int .i64 (-1)) Hn12
            refine (take_failed B19.P 22).mono ?_
            rintro v w20 ⟨rfl, e20⟩
            subst w20
            go_wp2_with fail
            go_ret
            exact .dead F19 ⟨_, _, _, _, h015, B19.P, HE15.out⟩
        · obtain ⟨er10, q10, jd10, md10, h010, P10, hE10⟩ := D10
          have HE10 : Hid _ := hE10
          clear hE10
          have F10 := F9.trans f10 (fun _ _ h => h)
          clear r1 r2 r3 r4 r5 b1 b2 b3
          obtain ⟨r1, r2, r3, r4, r5⟩ := P10.r15
          obtain ⟨b1, b2, b3⟩ := P10.blt
          go_wp2_with fail
          go_ret
          exact .dead F10 ⟨_, _, _, _, h010, P10, HE10.out⟩
      · have hb : (kd T j == 21) = false := by simpa using k21
        have C0 : Hid _ := Im.of (T := T) Hc.out (m := body T (.postL d x) j ms) (if_neg k21)
        clear k21
        go_wp2_with fail
        go_ret
        exact .done F9 P9 C0.out hij Hx.out hn
end
end Go.Proofs.Qxb6500277aGreat
