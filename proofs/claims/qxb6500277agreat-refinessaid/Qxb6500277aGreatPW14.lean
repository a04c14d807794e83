/- The real parser: if. -/
import Derived.Test.Qxb6500277aGreatPW13
namespace Go.Proofs.Qxb6500277aGreat
open Go Go.RowKit

section
variable {w w' : World} {A : Pa} {T : List Tok} {i j : Nat} {ns ms : List Nd} {fl : Bool} {er q : Int} {S : Nat → Prop}
set_option maxRecDepth 100000 in
set_option maxHeartbeats 8000000 in
theorem stmt5 {n : Nat} (HB : BkC T n) (P : PM w A T i ns false 0 0) (hi : T.length ≤ i + n + 1) (d : Nat) (hd : d ≤ 8) {l : Int} (hl : l = 8 - (d : Int)) (k0 : kd T i = 5) :
    Calls Tryz.prog 221 #[.pointer (some ⟨A.p, 0, none⟩), .int .i64 l] w (PPost w A T i ns (.stmt d)) := by
  have F0 : Fr (PS A) w w := Fr.refl _ _
  have Hl : Hid _ := hl
  have l1 : -1 < l := by omega
  have l2 : l < 9 := by omega
  clear hl
  have Hi : Hid _ := hi
  clear hi
  obtain ⟨r1, r2, r3, r4, r5⟩ := P.r15
  obtain ⟨b1, b2, b3⟩ := P.blt
  have C0 : Hid _ := Im.of_eq (T := T) (M := body T (.stmt d) i ns) ((if_neg (by omega)).trans (if_pos k0))
  have Hs : Hid _ := P.nxt (by omega)
  have z4 : (kd T i == 4) = false := by simp [k0]
  have z5 : (kd T i == 5) = true := by simp [k0]
  clear k0
  go_enter Tryz.func221, Tryz.ntmps221
  go_wp2_with fail
  refine (atFp P).mono ?_
  rintro v w33 ⟨rfl, f33⟩
  have P33 := P.same f33
  have F33 := F0.trans f33 (fun _ _ h => h.elim)
  clear r1 r2 r3 r4 r5 b1 b2 b3
  obtain ⟨r1, r2, r3, r4, r5⟩ := P33.r15
  obtain ⟨b1, b2, b3⟩ := P33.blt
  go_wp2_with fail
  refine (kindF P33).mono ?_
  rintro v w34 ⟨rfl, f34⟩
  have P34 := P33.same f34
  have F34 := F33.trans f34 (fun _ _ h => h.elim)
  clear r1 r2 r3 r4 r5 b1 b2 b3
  obtain ⟨r1, r2, r3, r4, r5⟩ := P34.r15
  obtain ⟨b1, b2, b3⟩ := P34.blt
  go_wp2_with fail
  refine (stepFp P34).mono ?_
  rintro v w35 ⟨rfl, P35, f35⟩
  have F35 := F34.trans f35 (fun _ _ h => h)
  clear r1 r2 r3 r4 r5 b1 b2 b3
  obtain ⟨r1, r2, r3, r4, r5⟩ := P35.r15
  obtain ⟨b1, b2, b3⟩ := P35.blt
  go_wp2_with fail
  refine (freshF 5 (ps T i) _).mono ?_
  rintro v w36 ⟨rfl, f36⟩
  have P36 := P35.same f36
  have F36 := F35.trans f36 (fun _ _ h => h.elim)
  unfold ndV fre
  clear r1 r2 r3 r4 r5 b1 b2 b3
  obtain ⟨r1, r2, r3, r4, r5⟩ := P36.r15
  obtain ⟨b1, b2, b3⟩ := P36.blt
  go_wp2_with fail
  have B36 := BM.new P36 (⟨5, -1, -1, -1, -1, 0, ps T i, ⟨#[]⟩⟩)
  have G36 := F36.alloc (boxN (⟨5, -1, -1, -1, -1, 0, ps T i, ⟨#[]⟩⟩))
  have Hn36 : w.heap.size ≤ w36.heap.size := F36.size
  refine (exprC B36.P hd Hl.out C0.out).mono ?_
  rintro v w37 ⟨f37, ⟨x37_, j37, m37, rfl, P37, hj37, hx37, hn37, c37⟩ | ⟨rfl, D37⟩⟩
  · have C37 : Hid _ := c37
    have Hx37 : Hid _ := hx37
    have xb37 : x37_ < 200 := by have := P37.le; omega
    have xc37 : -1 < x37_ := by omega
    clear c37 hx37
    have B37 := B36.go f37 P37
    have F37 := G36.trans f37 (fun _ _ h => h)
    clear r1 r2 r3 r4 r5 b1 b2 b3
    obtain ⟨r1, r2, r3, r4, r5⟩ := B37.P.r15
    obtain ⟨b1, b2, b3⟩ := B37.P.blt
    obtain ⟨x0, x1, x2, x3, x4, x5, x6, x7, xz, xl, xn1, xn2, xn3⟩ := B37.fx
    go_wp2_with fail
    have B38 := B37.setA (x37_)
    have F38 := F37.setNew (b := w36.heap.size) (o := 1) (u := .int .i64 (x37_)) Hn36
    refine ((HB _ A _ _ d l (by have := Hi.out; have := Hs.out; omega) B38.P hd Hl.out).mono fun _ _ h => h.use C37.out).mono ?_
    rintro v w39 ⟨f39, ⟨x39_, j39, m39, rfl, P39, hj39, hx39, hn39, c39⟩ | ⟨rfl, D39⟩⟩
    · have C39 : Hid _ := c39
      have Hx39 : Hid _ := hx39
      have xb39 : x39_ < 200 := by have := P39.le; omega
      have xc39 : -1 < x39_ := by omega
      clear c39 hx39
      have B39 := B38.go f39 P39
      have F39 := F38.trans f39 (fun _ _ h => h)
      clear r1 r2 r3 r4 r5 b1 b2 b3 x0 x1 x2 x3 x4 x5 x6 x7 xz xl xn1 xn2 xn3
      obtain ⟨r1, r2, r3, r4, r5⟩ := B39.P.r15
      obtain ⟨b1, b2, b3⟩ := B39.P.blt
      obtain ⟨x0, x1, x2, x3, x4, x5, x6, x7, xz, xl, xn1, xn2, xn3⟩ := B39.fx
      go_wp2_with fail
      have B40 := B39.setB (x39_)
      have F40 := F39.setNew (b := w36.heap.size) (o := 2) (u := .int .i64 (x39_)) Hn36
      refine (kindF B40.P).mono ?_
      rintro v w41 ⟨rfl, f41⟩
      have P41 := B40.same f41
      have F41 := F40.trans f41 (fun _ _ h => h.elim)
      clear r1 r2 r3 r4 r5 b1 b2 b3 x0 x1 x2 x3 x4 x5 x6 x7 xz xl xn1 xn2 xn3
      obtain ⟨r1, r2, r3, r4, r5⟩ := P41.P.r15
      obtain ⟨b1, b2, b3⟩ := P41.P.blt
      obtain ⟨x0, x1, x2, x3, x4, x5, x6, x7, xz, xl, xn1, xn2, xn3⟩ := P41.fx
      by_cases k6 : kd T j39 = 6
      · have z6 : (kd T j39 == 6) = true := by simp [k6]
        have Hs6 : Hid _ := P41.P.nxt (by omega)
        have C6 : Hid _ := Im.of (T := T) C39.out (if_pos k6)
        clear k6
        go_wp2_with fail
        refine (stepFp P41.P).mono ?_
        rintro v w42 ⟨rfl, P42, f42⟩
        have B42 := P41.go f42 P42
        have F42 := F41.trans f42 (fun _ _ h => h)
        clear r1 r2 r3 r4 r5 b1 b2 b3 x0 x1 x2 x3 x4 x5 x6 x7 xz xl xn1 xn2 xn3
        obtain ⟨r1, r2, r3, r4, r5⟩ := B42.P.r15
        obtain ⟨b1, b2, b3⟩ := B42.P.blt
        obtain ⟨x0, x1, x2, x3, x4, x5, x6, x7, xz, xl, xn1, xn2, xn3⟩ := B42.fx
        go_wp2_with fail
        refine ((HB _ A _ _ d l (by have := Hi.out; have := Hs.out; have := Hs6.out; omega) B42.P hd Hl.out).mono fun _ _ h => h.use C6.out).mono ?_
        rintro v w43 ⟨f43, ⟨x43_, j43, m43, rfl, P43, hj43, hx43, hn43, c43⟩ | ⟨rfl, D43⟩⟩
        · have C43 : Hid _ := c43
          have Hx43 : Hid _ := hx43
          have xb43 : x43_ < 200 := by have := P43.le; omega
          have xc43 : -1 < x43_ := by omega
          clear c43 hx43
          have B43 := B42.go f43 P43
          have F43 := F42.trans f43 (fun _ _ h => h)
          clear r1 r2 r3 r4 r5 b1 b2 b3 x0 x1 x2 x3 x4 x5 x6 x7 xz xl xn1 xn2 xn3
          obtain ⟨r1, r2, r3, r4, r5⟩ := B43.P.r15
          obtain ⟨b1, b2, b3⟩ := B43.P.blt
          obtain ⟨x0, x1, x2, x3, x4, x5, x6, x7, xz, xl, xn1, xn2, xn3⟩ := B43.fx
          go_wp2_with fail
          have B44 := B43.setC (x43_)
          have F44 := F43.setNew (b := w36.heap.size) (o := 3) (u := .int .i64 (x43_)) Hn36
          refine (addC B44.P (⟨5, x37_, x39_, x43_, -1, 0, ps T i, ⟨#[]⟩⟩) ⟨by simp, P.psn, by have := Hx37.out; have := Hx39.out; have := Hx43.out; simp; omega, by have := Hx37.out; have := Hx39.out; have := Hx43.out; simp; omega, by have := Hx37.out; have := Hx39.out; have := Hx43.out; simp; omega, .inl rfl⟩ C43.out).mono ?_
          rintro v w45 ⟨f45, ⟨n45, hn45, rfl, P45, hb45, c45⟩ | ⟨rfl, D45⟩⟩
          · have C45 : Hid _ := c45
            have Hn_45 : Hid _ := hn45
            clear c45 hn45
            have B45 := B44.go f45 P45
            have F45 := F44.trans f45 (fun _ _ h => h)
            clear r1 r2 r3 r4 r5 b1 b2 b3 x0 x1 x2 x3 x4 x5 x6 x7 xz xl xn1 xn2 xn3
            obtain ⟨r1, r2, r3, r4, r5⟩ := B45.P.r15
            obtain ⟨b1, b2, b3⟩ := B45.P.blt
            obtain ⟨x0, x1, x2, x3, x4, x5, x6, x7, xz, xl, xn1, xn2, xn3⟩ := B45.fx
            go_wp2_with fail
            go_ret
            exact .done F45 B45.P C45.out (by have := Hs.out; have := Hs6.out; omega) (by have := Hn_45.out; simp; omega) (by have := Hn_45.out; have := Hx37.out; have := Hx39.out; have := Hx43.out; omega)
          · obtain ⟨er45, q45, jd45, md45, h045, P45, hE45⟩ := D45
            have HE45 : Hid _ := hE45
            clear hE45
            have B45 := B44.go f45 P45
            have F45 := F44.trans f45 (fun _ _ h => h)
            clear r1 r2 r3 r4 r5 b1 b2 b3 x0 x1 x2 x3 x4 x5 x6 x7 xz xl xn1 xn2 xn3
            obtain ⟨r1, r2, r3, r4, r5⟩ := B45.P.r15
            obtain ⟨b1, b2, b3⟩ := B45.P.blt
            obtain ⟨x0, x1, x2, x3, x4, x5, x6, x7, xz, xl, xn1, xn2, xn3⟩ := B45.fx
            go_wp2_with fail
            go_ret
            exact .dead F45 ⟨_, _, _, _, h045, B45.P, HE45.out⟩
        · obtain ⟨er43, q43, jd43, md43, h043, P43, hE43⟩ := D43
          have HE43 : Hid _ := hE43
          clear hE43
          have B43 := B42.go f43 P43
          have F43 := F42.trans f43 (fun _ _ h => h)
          clear r1 r2 r3 r4 r5 b1 b2 b3 x0 x1 x2 x3 x4 x5 x6 x7 xz xl xn1 xn2 xn3
          obtain ⟨r1, r2, r3, r4, r5⟩ := B43.P.r15
          obtain ⟨b1, b2, b3⟩ := B43.P.blt
          obtain ⟨x0, x1, x2, x3, x4, x5, x6, x7, xz, xl, xn1, xn2, xn3⟩ := B43.fx
          go_wp2_with fail
          have B46 := B43.setC (-1)
          have F46 := F43.setNew (b := w36.heap.size) (o := 3) (u := .int .i64 (-1)) Hn36
          refine (add_failed B46.P (⟨5, x37_, x39_, -1, -1, 0, ps T i, ⟨#[]⟩⟩)).mono ?_
          rintro v w47 ⟨rfl, f47⟩
          have P47 := B46.same f47
          have F47 := F46.trans f47 (fun _ _ h => h.elim)
          clear r1 r2 r3 r4 r5 b1 b2 b3 x0 x1 x2 x3 x4 x5 x6 x7 xz xl xn1 xn2 xn3
          obtain ⟨r1, r2, r3, r4, r5⟩ := P47.P.r15
          obtain ⟨b1, b2, b3⟩ := P47.P.blt
          obtain ⟨x0, x1, x2, x3, x4, x5, x6, x7, xz, xl, xn1, xn2, xn3⟩ := P47.fx
          go_wp2_with fail
          go_ret
          exact .dead F47 ⟨_, _, _, _, h043, P47.P, HE43.out⟩
      · have z6 : (kd T j39 == 6) = false := by simpa using k6
        have C6 : Hid _ := Im.of (T := T) C39.out (if_neg k6)
        clear k6
        go_wp2_with fail
        refine (addC P41.P (⟨5, x37_, x39_, -1, -1, 0, ps T i, ⟨#[]⟩⟩) ⟨by simp, P.psn, by have := Hx37.out; have := Hx39.out; simp; omega, by have := Hx37.out; have := Hx39.out; simp; omega, by have := Hx37.out; have := Hx39.out; simp; omega, .inl rfl⟩ C6.out).mono ?_
        rintro v w48 ⟨f48, ⟨n48, hn48, rfl, P48, hb48, c48⟩ | ⟨rfl, D48⟩⟩
        · have C48 : Hid _ := c48
          have Hn_48 : Hid _ := hn48
          clear c48 hn48
          have B48 := P41.go f48 P48
          have F48 := F41.trans f48 (fun _ _ h => h)
          clear r1 r2 r3 r4 r5 b1 b2 b3 x0 x1 x2 x3 x4 x5 x6 x7 xz xl xn1 xn2 xn3
          obtain ⟨r1, r2, r3, r4, r5⟩ := B48.P.r15
          obtain ⟨b1, b2, b3⟩ := B48.P.blt
          obtain ⟨x0, x1, x2, x3, x4, x5, x6, x7, xz, xl, xn1, xn2, xn3⟩ := B48.fx
          go_wp2_with fail
          go_ret
          exact .done F48 B48.P C48.out (by have := Hs.out; omega) (by have := Hn_48.out; simp; omega) (by have := Hn_48.out; have := Hx37.out; have := Hx39.out; omega)
        · obtain ⟨er48, q48, jd48, md48, h048, P48, hE48⟩ := D48
          have HE48 : Hid _ := hE48
          clear hE48
          have B48 := P41.go f48 P48
          have F48 := F41.trans f48 (fun _ _ h => h)
          clear r1 r2 r3 r4 r5 b1 b2 b3 x0 x1 x2 x3 x4 x5 x6 x7 xz xl xn1 xn2 xn3
          obtain ⟨r1, r2, r3, r4, r5⟩ := B48.P.r15
          obtain ⟨b1, b2, b3⟩ := B48.P.blt
          obtain ⟨x0, x1, x2, x3, x4, x5, x6, x7, xz, xl, xn1, xn2, xn3⟩ := B48.fx
          go_wp2_with fail
          go_ret
          exact .dead F48 ⟨_, _, _, _, h048, B48.P, HE48.out⟩
    · obtain ⟨er39, q39, jd39, md39, h039, P39, hE39⟩ := D39
      have HE39 : Hid _ := hE39
      clear hE39
      have B39 := B38.go f39 P39
      have F39 := F38.trans f39 (fun _ _ h => h)
      clear r1 r2 r3 r4 r5 b1 b2 b3 x0 x1 x2 x3 x4 x5 x6 x7 xz xl xn1 xn2 xn3
      obtain ⟨r1, r2, r3, r4, r5⟩ := B39.P.r15
      obtain ⟨b1, b2, b3⟩ := B39.P.blt
      obtain ⟨x0, x1, x2, x3, x4, x5, x6, x7, xz, xl, xn1, xn2, xn3⟩ := B39.fx
      go_wp2_with fail
      have B49 := B39.setB (-1)
      have F49 := F39.setNew (b := w36.heap.size) (o := 2) (u := .int .i64 (-1)) Hn36
      refine (add_failed B49.P (⟨5, x37_, -1, -1, -1, 0, ps T i, ⟨#[]⟩⟩)).mono ?_
      rintro v w50 ⟨rfl, f50⟩
      have P50 := B49.same f50
      have F50 := F49.trans f50 (fun _ _ h => h.elim)
      clear r1 r2 r3 r4 r5 b1 b2 b3 x0 x1 x2 x3 x4 x5 x6 x7 xz xl xn1 xn2 xn3
      obtain ⟨r1, r2, r3, r4, r5⟩ := P50.P.r15
      obtain ⟨b1, b2, b3⟩ := P50.P.blt
      obtain ⟨x0, x1, x2, x3, x4, x5, x6, x7, xz, xl, xn1, xn2, xn3⟩ := P50.fx
      go_wp2_with fail
      go_ret
      exact .dead F50 ⟨_, _, _, _, h039, P50.P, HE39.out⟩
  · obtain ⟨er37, q37, jd37, md37, h037, P37, hE37⟩ := D37
    have HE37 : Hid _ := hE37
    clear hE37
    have B37 := B36.go f37 P37
    have F37 := G36.trans f37 (fun _ _ h => h)
    clear r1 r2 r3 r4 r5 b1 b2 b3
    obtain ⟨r1, r2, r3, r4, r5⟩ := B37.P.r15
    obtain ⟨b1, b2, b3⟩ := B37.P.blt
    obtain ⟨x0, x1, x2, x3, x4, x5, x6, x7, xz, xl, xn1, xn2, xn3⟩ := B37.fx
    go_wp2_with fail
    have B51 := B37.setA (-1)
    have F51 := F37.setNew (b := w36.heap.size) (o := 1) (u := .int .i64 (-1)) Hn36
    refine (block_failed B51.P l).mono ?_
    rintro v w52 ⟨rfl, e52⟩
    subst w52
    go_wp2_with fail
    have B53 := B51.setB (-1)
    have F53 := F51.setNew (b := w36.heap.size) (o := 2) (u := .int .i64 (-1)) Hn36
    refine (add_failed B53.P (⟨5, -1, -1, -1, -1, 0, ps T i, ⟨#[]⟩⟩)).mono ?_
    rintro v w54 ⟨rfl, f54⟩
    have P54 := B53.same f54
    have F54 := F53.trans f54 (fun _ _ h => h.elim)
    clear r1 r2 r3 r4 r5 b1 b2 b3 x0 x1 x2 x3 x4 x5 x6 x7 xz xl xn1 xn2 xn3
    obtain ⟨r1, r2, r3, r4, r5⟩ := P54.P.r15
    obtain ⟨b1, b2, b3⟩ := P54.P.blt
    obtain ⟨x0, x1, x2, x3, x4, x5, x6, x7, xz, xl, xn1, xn2, xn3⟩ := P54.fx
    go_wp2_with fail
    go_ret
    exact .dead F54 ⟨_, _, _, _, h037, P54.P, HE37.out⟩
end
end Go.Proofs.Qxb6500277aGreat
