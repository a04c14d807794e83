/- The real parser: statements. -/
import Derived.Test.Qxb6500277aGreatPW12
namespace Go.Proofs.Qxb6500277aGreat
open Go Go.RowKit

section
variable {w w' : World} {A : Pa} {T : List Tok} {i j : Nat} {ns ms : List Nd} {fl : Bool} {er q : Int} {S : Nat → Prop}
def BkC (T : List Tok) (n : Nat) : Prop := ∀ (w : World) (A : Pa) (i : Nat) (ns : List Nd) (d : Nat) (l : Int), T.length ≤ i + n → PM w A T i ns false 0 0 → d ≤ 8 → l = 8 - (d : Int) → Calls Tryz.prog 188 #[.pointer (some ⟨A.p, 0, none⟩), .int .i64 l] w (PPost w A T i ns (.block d))
def StC (T : List Tok) (n : Nat) : Prop := ∀ (w : World) (A : Pa) (i : Nat) (ns : List Nd) (d : Nat) (l : Int), T.length ≤ i + n → PM w A T i ns false 0 0 → d ≤ 8 → l = 8 - (d : Int) → Calls Tryz.prog 221 #[.pointer (some ⟨A.p, 0, none⟩), .int .i64 l] w (PPost w A T i ns (.stmt d))
set_option maxRecDepth 100000 in
set_option maxHeartbeats 1000000 in
theorem block_failed (P : PM w A T i ns true er q) (l : Int) : Calls Tryz.prog 188 #[.pointer (some ⟨A.p, 0, none⟩), .int .i64 l] w fun v w' => v = .returned (.int .i64 (-1)) ∧ w' = w := by
  obtain ⟨r1, r2, r3, r4, r5⟩ := P.r15
  obtain ⟨b1, b2, b3⟩ := P.blt
  go_enter Tryz.func188, Tryz.ntmps188
  go_wp2_with fail
  go_ret
  exact ⟨rfl, rfl⟩
set_option maxRecDepth 100000 in
set_option maxHeartbeats 8000000 in
theorem stmt4 {n : Nat} (_HB : BkC T n) (P : PM w A T i ns false 0 0) (hi : T.length ≤ i + n + 1) (d : Nat) (hd : d ≤ 8) {l : Int} (hl : l = 8 - (d : Int)) (k0 : kd T i = 4) :
    Calls Tryz.prog 221 #[.pointer (some ⟨A.p, 0, none⟩), .int .i64 l] w (PPost w A T i ns (.stmt d)) := by
  have F0 : Fr (PS A) w w := Fr.refl _ _
  have Hl : Hid _ := hl
  have l1 : -1 < l := by omega
  have l2 : l < 9 := by omega
  clear hl
  have Hi : Hid _ := hi
  clear hi
  obtain ⟨r1, r2, r3, r4, r5⟩ := P.r15
  obtain ⟨b1, b2, b3⟩ := P.blt
  have C0 : Hid _ := Im.of_eq (T := T) (M := body T (.stmt d) i ns) (if_pos k0)
  have Hs : Hid _ := P.nxt (by omega)
  have z4 : (kd T i == 4) = true := by simp [k0]
  clear k0
  go_enter Tryz.func221, Tryz.ntmps221
  go_wp2_with fail
  refine (atFp P).mono ?_
  rintro v w1 ⟨rfl, f1⟩
  have P1 := P.same f1
  have F1 := F0.trans f1 (fun _ _ h => h.elim)
  clear r1 r2 r3 r4 r5 b1 b2 b3
  obtain ⟨r1, r2, r3, r4, r5⟩ := P1.r15
  obtain ⟨b1, b2, b3⟩ := P1.blt
  go_wp2_with fail
  refine (kindF P1).mono ?_
  rintro v w2 ⟨rfl, f2⟩
  have P2 := P1.same f2
  have F2 := F1.trans f2 (fun _ _ h => h.elim)
  clear r1 r2 r3 r4 r5 b1 b2 b3
  obtain ⟨r1, r2, r3, r4, r5⟩ := P2.r15
  obtain ⟨b1, b2, b3⟩ := P2.blt
  go_wp2_with fail
  refine (stepFp P2).mono ?_
  rintro v w3 ⟨rfl, P3, f3⟩
  have F3 := F2.trans f3 (fun _ _ h => h)
  clear r1 r2 r3 r4 r5 b1 b2 b3
  obtain ⟨r1, r2, r3, r4, r5⟩ := P3.r15
  obtain ⟨b1, b2, b3⟩ := P3.blt
  go_wp2_with fail
  refine (varF P3 d hd Hl.out C0.out).mono ?_
  rintro v w4 ⟨f4, ⟨x, j4, m4, rfl, P4, hj4, hx4, hn4, c4⟩ | ⟨rfl, D4⟩⟩
  · have Hx : Hid _ := hx4
    have C4 : Hid _ := c4
    clear c4 hx4
    have F4 := F3.trans f4 (fun _ _ h => h)
    clear r1 r2 r3 r4 r5 b1 b2 b3
    go_wp2_with fail
    go_ret
    exact .done F4 P4 C4.out (by have := Hs.out; omega) Hx.out hn4
  · obtain ⟨er4, q4, jd4, md4, h04, P4, hE4⟩ := D4
    have HE4 : Hid _ := hE4
    clear hE4
    have F4 := F3.trans f4 (fun _ _ h => h)
    clear r1 r2 r3 r4 r5 b1 b2 b3
    obtain ⟨r1, r2, r3, r4, r5⟩ := P4.r15
    obtain ⟨b1, b2, b3⟩ := P4.blt
    clear r1 r2 r3 r4 r5 b1 b2 b3
    go_wp2_with fail
    go_ret
    exact .dead F4 ⟨_, _, _, _, h04, P4, HE4.out⟩
set_option maxRecDepth 100000 in
set_option maxHeartbeats 8000000 in
theorem stmt8 {n : Nat} (_HB : BkC T n) (P : PM w A T i ns false 0 0) (hi : T.length ≤ i + n + 1) (d : Nat) (hd : d ≤ 8) {l : Int} (hl : l = 8 - (d : Int)) (k0 : kd T i = 8) :
    Calls Tryz.prog 221 #[.pointer (some ⟨A.p, 0, none⟩), .int .i64 l] w (PPost w A T i ns (.stmt d)) := by
  have F0 : Fr (PS A) w w := Fr.refl _ _
  have Hl : Hid _ := hl
  have l1 : -1 < l := by omega
  have l2 : l < 9 := by omega
  clear hl
  have Hi : Hid _ := hi
  clear hi
  obtain ⟨r1, r2, r3, r4, r5⟩ := P.r15
  obtain ⟨b1, b2, b3⟩ := P.blt
  have C0 : Hid _ := Im.of_eq (T := T) (M := body T (.stmt d) i ns) ((if_neg (by omega)).trans ((if_neg (by omega)).trans ((if_neg (by omega)).trans (if_pos k0))))
  have Hs : Hid _ := P.nxt (by omega)
  have z4 : (kd T i == 4) = false := by simp [k0]
  have z5 : (kd T i == 5) = false := by simp [k0]
  have z7 : (kd T i == 7) = false := by simp [k0]
  have z8 : (kd T i == 8) = true := by simp [k0]
  clear k0
  go_enter Tryz.func221, Tryz.ntmps221
  go_wp2_with fail
  refine (atFp P).mono ?_
  rintro v w5 ⟨rfl, f5⟩
  have P5 := P.same f5
  have F5 := F0.trans f5 (fun _ _ h => h.elim)
  clear r1 r2 r3 r4 r5 b1 b2 b3
  obtain ⟨r1, r2, r3, r4, r5⟩ := P5.r15
  obtain ⟨b1, b2, b3⟩ := P5.blt
  go_wp2_with fail
  refine (kindF P5).mono ?_
  rintro v w6 ⟨rfl, f6⟩
  have P6 := P5.same f6
  have F6 := F5.trans f6 (fun _ _ h => h.elim)
  clear r1 r2 r3 r4 r5 b1 b2 b3
  obtain ⟨r1, r2, r3, r4, r5⟩ := P6.r15
  obtain ⟨b1, b2, b3⟩ := P6.blt
  go_wp2_with fail
  refine (stepFp P6).mono ?_
  rintro v w7 ⟨rfl, P7, f7⟩
  have F7 := F6.trans f7 (fun _ _ h => h)
  clear r1 r2 r3 r4 r5 b1 b2 b3
  obtain ⟨r1, r2, r3, r4, r5⟩ := P7.r15
  obtain ⟨b1, b2, b3⟩ := P7.blt
  go_wp2_with fail
  refine (freshF 7 (ps T i) _).mono ?_
  rintro v w8 ⟨rfl, f8⟩
  have P8 := P7.same f8
  have F8 := F7.trans f8 (fun _ _ h => h.elim)
  unfold ndV fre
  clear r1 r2 r3 r4 r5 b1 b2 b3
  obtain ⟨r1, r2, r3, r4, r5⟩ := P8.r15
  obtain ⟨b1, b2, b3⟩ := P8.blt
  go_wp2_with fail
  have B8 := BM.new P8 (⟨7, -1, -1, -1, -1, 0, ps T i, ⟨#[]⟩⟩)
  have G8 := F8.alloc (boxN (⟨7, -1, -1, -1, -1, 0, ps T i, ⟨#[]⟩⟩))
  have Hn8 : w.heap.size ≤ w8.heap.size := F8.size
  refine (closedF B8.P d hd Hl.out (k := 7) (by decide) P.psn C0.out).mono ?_
  rintro v w9 ⟨f9, ⟨x, j9, m9, rfl, P9, hj9, hx9, hn9, c9⟩ | ⟨rfl, D9⟩⟩
  · have Hx : Hid _ := hx9
    have C9 : Hid _ := c9
    clear c9 hx9
    have B9 := B8.go f9 P9
    have F9 := G8.trans f9 (fun _ _ h => h)
    clear r1 r2 r3 r4 r5 b1 b2 b3
    go_wp2_with fail
    go_ret
    exact .done F9 B9.P C9.out (by have := Hs.out; omega) Hx.out hn9
  · obtain ⟨er9, q9, jd9, md9, h09, P9, hE9⟩ := D9
    have HE9 : Hid _ := hE9
    clear hE9
    have B9 := B8.go f9 P9
    have F9 := G8.trans f9 (fun _ _ h => h)
    clear r1 r2 r3 r4 r5 b1 b2 b3
    obtain ⟨r1, r2, r3, r4, r5⟩ := B9.P.r15
    obtain ⟨b1, b2, b3⟩ := B9.P.blt
    obtain ⟨x0, x1, x2, x3, x4, x5, x6, x7, xz, xl, xn1, xn2, xn3⟩ := B9.fx
    clear r1 r2 r3 r4 r5 b1 b2 b3 x0 x1 x2 x3 x4 x5 x6 x7 xz xl xn1 xn2 xn3
    go_wp2_with fail
    go_ret
    exact .dead F9 ⟨_, _, _, _, h09, B9.P, HE9.out⟩
set_option maxRecDepth 100000 in
set_option maxHeartbeats 8000000 in
theorem stmt9 {n : Nat} (_HB : BkC T n) (P : PM w A T i ns false 0 0) (hi : T.length ≤ i + n + 1) (d : Nat) (hd : d ≤ 8) {l : Int} (hl : l = 8 - (d : Int)) (k0 : kd T i = 9) :
    Calls Tryz.prog 221 #[.pointer (some ⟨A.p, 0, none⟩), .int .i64 l] w (PPost w A T i ns (.stmt d)) := by
  have F0 : Fr (PS A) w w := Fr.refl _ _
  have Hl : Hid _ := hl
  have l1 : -1 < l := by omega
  have l2 : l < 9 := by omega
  clear hl
  have Hi : Hid _ := hi
  clear hi
  obtain ⟨r1, r2, r3, r4, r5⟩ := P.r15
  obtain ⟨b1, b2, b3⟩ := P.blt
  have C0 : Hid _ := Im.of_eq (T := T) (M := body T (.stmt d) i ns) ((if_neg (by omega)).trans ((if_neg (by omega)).trans ((if_neg (by omega)).trans ((if_neg (by omega)).trans (if_pos k0)))))
  have Hs : Hid _ := P.nxt (by omega)
  have z4 : (kd T i == 4) = false := by simp [k0]
  have z5 : (kd T i == 5) = false := by simp [k0]
  have z7 : (kd T i == 7) = false := by simp [k0]
  have z8 : (kd T i == 8) = false := by simp [k0]
  have z9 : (kd T i == 9) = true := by simp [k0]
  clear k0
  go_enter Tryz.func221, Tryz.ntmps221
  go_wp2_with fail
  refine (atFp P).mono ?_
  rintro v w10 ⟨rfl, f10⟩
  have P10 := P.same f10
  have F10 := F0.trans f10 (fun _ _ h => h.elim)
  clear r1 r2 r3 r4 r5 b1 b2 b3
  obtain ⟨r1, r2, r3, r4, r5⟩ := P10.r15
  obtain ⟨b1, b2, b3⟩ := P10.blt
  go_wp2_with fail
  refine (kindF P10).mono ?_
  rintro v w11 ⟨rfl, f11⟩
  have P11 := P10.same f11
  have F11 := F10.trans f11 (fun _ _ h => h.elim)
  clear r1 r2 r3 r4 r5 b1 b2 b3
  obtain ⟨r1, r2, r3, r4, r5⟩ := P11.r15
  obtain ⟨b1, b2, b3⟩ := P11.blt
  go_wp2_with fail
  refine (stepFp P11).mono ?_
  rintro v w12 ⟨rfl, P12, f12⟩
  have F12 := F11.trans f12 (fun _ _ h => h)
  clear r1 r2 r3 r4 r5 b1 b2 b3
  obtain ⟨r1, r2, r3, r4, r5⟩ := P12.r15
  obtain ⟨b1, b2, b3⟩ := P12.blt
  go_wp2_with fail
  refine (freshF 8 (ps T i) _).mono ?_
  rintro v w13 ⟨rfl, f13⟩
  have P13 := P12.same f13
  have F13 := F12.trans f13 (fun _ _ h => h.elim)
  unfold ndV fre
  clear r1 r2 r3 r4 r5 b1 b2 b3
  obtain ⟨r1, r2, r3, r4, r5⟩ := P13.r15
  obtain ⟨b1, b2, b3⟩ := P13.blt
  go_wp2_with fail
  have B13 := BM.new P13 (⟨8, -1, -1, -1, -1, 0, ps T i, ⟨#[]⟩⟩)
  have G13 := F13.alloc (boxN (⟨8, -1, -1, -1, -1, 0, ps T i, ⟨#[]⟩⟩))
  have Hn13 : w.heap.size ≤ w13.heap.size := F13.size
  refine (closedF B13.P d hd Hl.out (k := 8) (by decide) P.psn C0.out).mono ?_
  rintro v w14 ⟨f14, ⟨x, j14, m14, rfl, P14, hj14, hx14, hn14, c14⟩ | ⟨rfl, D14⟩⟩
  · have Hx : Hid _ := hx14
    have C14 : Hid _ := c14
    clear c14 hx14
    have B14 := B13.go f14 P14
    have F14 := G13.trans f14 (fun _ _ h => h)
    clear r1 r2 r3 r4 r5 b1 b2 b3
    go_wp2_with fail
    go_ret
    exact .done F14 B14.P C14.out (by have := Hs.out; omega) Hx.out hn14
  · obtain ⟨er14, q14, jd14, md14, h014, P14, hE14⟩ := D14
    have HE14 : Hid _ := hE14
    clear hE14
    have B14 := B13.go f14 P14
    have F14 := G13.trans f14 (fun _ _ h => h)
    clear r1 r2 r3 r4 r5 b1 b2 b3
    obtain ⟨r1, r2, r3, r4, r5⟩ := B14.P.r15
    obtain ⟨b1, b2, b3⟩ := B14.P.blt
    obtain ⟨x0, x1, x2, x3, x4, x5, x6, x7, xz, xl, xn1, xn2, xn3⟩ := B14.fx
    clear r1 r2 r3 r4 r5 b1 b2 b3 x0 x1 x2 x3 x4 x5 x6 x7 xz xl xn1 xn2 xn3
    go_wp2_with fail
    go_ret
    exact .dead F14 ⟨_, _, _, _, h014, B14.P, HE14.out⟩
set_option maxRecDepth 100000 in
set_option maxHeartbeats 8000000 in
theorem stmtX {n : Nat} (_HB : BkC T n) (P : PM w A T i ns false 0 0) (hi : T.length ≤ i + n + 1) (d : Nat) (hd : d ≤ 8) {l : Int} (hl : l = 8 - (d : Int)) (k4 : kd T i ≠ 4) (k5 : kd T i ≠ 5) (k7 : kd T i ≠ 7) (k8 : kd T i ≠ 8) (k9 : kd T i ≠ 9) :
    Calls Tryz.prog 221 #[.pointer (some ⟨A.p, 0, none⟩), .int .i64 l] w (PPost w A T i ns (.stmt d)) := by
  have F0 : Fr (PS A) w w := Fr.refl _ _
  have Hl : Hid _ := hl
  have l1 : -1 < l := by omega
  have l2 : l < 9 := by omega
  clear hl
  have Hi : Hid _ := hi
  clear hi
  obtain ⟨r1, r2, r3, r4, r5⟩ := P.r15
  obtain ⟨b1, b2, b3⟩ := P.blt
  have C0 : Hid _ := Im.of_eq (T := T) (M := body T (.stmt d) i ns) ((if_neg k4).trans ((if_neg k5).trans ((if_neg k7).trans ((if_neg k8).trans (if_neg k9)))))
  have z4 : (kd T i == 4) = false := by simpa using k4
  have z5 : (kd T i == 5) = false := by simpa using k5
  have z7 : (kd T i == 7) = false := by simpa using k7
  have z8 : (kd T i == 8) = false := by simpa using k8
  have z9 : (kd T i == 9) = false := by simpa using k9
  clear k4 k5 k7 k8 k9
  go_enter Tryz.func221, Tryz.ntmps221
  go_wp2_with fail
  refine (atFp P).mono ?_
  rintro v w15 ⟨rfl, f15⟩
  have P15 := P.same f15
  have F15 := F0.trans f15 (fun _ _ h => h.elim)
  clear r1 r2 r3 r4 r5 b1 b2 b3
  obtain ⟨r1, r2, r3, r4, r5⟩ := P15.r15
  obtain ⟨b1, b2, b3⟩ := P15.blt
  go_wp2_with fail
  refine (kindF P15).mono ?_
  rintro v w16 ⟨rfl, f16⟩
  have P16 := P15.same f16
  have F16 := F15.trans f16 (fun _ _ h => h.elim)
  clear r1 r2 r3 r4 r5 b1 b2 b3
  obtain ⟨r1, r2, r3, r4, r5⟩ := P16.r15
  obtain ⟨b1, b2, b3⟩ := P16.blt
  go_wp2_with fail
  refine (plainF P16 d hd Hl.out C0.out).mono ?_
  rintro v w17 ⟨f17, ⟨x, j17, m17, rfl, P17, hj17, hx17, hn17, c17⟩ | ⟨rfl, D17⟩⟩
  · have Hx : Hid _ := hx17
    have C17 : Hid _ := c17
    clear c17 hx17
    have F17 := F16.trans f17 (fun _ _ h => h)
    clear r1 r2 r3 r4 r5 b1 b2 b3
    go_wp2_with fail
    go_ret
    exact .done F17 P17 C17.out (by omega) Hx.out hn17
  · obtain ⟨er17, q17, jd17, md17, h017, P17, hE17⟩ := D17
    have HE17 : Hid _ := hE17
    clear hE17
    have F17 := F16.trans f17 (fun _ _ h => h)
    clear r1 r2 r3 r4 r5 b1 b2 b3
    obtain ⟨r1, r2, r3, r4, r5⟩ := P17.r15
    obtain ⟨b1, b2, b3⟩ := P17.blt
    clear r1 r2 r3 r4 r5 b1 b2 b3
    go_wp2_with fail
    go_ret
    exact .dead F17 ⟨_, _, _, _, h017, P17, HE17.out⟩
set_option maxRecDepth 100000 in
set_option maxHeartbeats 8000000 in
theorem stmt7 {n : Nat} (HB : BkC T n) (P : PM w A T i ns false 0 0) (hi : T.length ≤ i + n + 1) (d : Nat) (hd : d ≤ 8) {l : Int} (hl : l = 8 - (d : Int)) (k0 : kd T i = 7) :
    Calls Tryz.prog 221 #[.pointer (some ⟨A.p, 0, none⟩), .int .i64 l] w (PPost w A T i ns (.stmt d)) := by
  have F0 : Fr (PS A) w w := Fr.refl _ _
  have Hl : Hid _ := hl
  have l1 : -1 < l := by omega
  have l2 : l < 9 := by omega
  clear hl
  have Hi : Hid _ := hi
  clear hi
  obtain ⟨r1, r2, r3, r4, r5⟩ := P.r15
  obtain ⟨b1, b2, b3⟩ := P.blt
  have C0 : Hid _ := Im.of_eq (T := T) (M := body T (.stmt d) i ns) ((if_neg (by omega)).trans ((if_neg (by omega)).trans (if_pos k0)))
  have Hs : Hid _ := P.nxt (by omega)
  have z4 : (kd T i == 4) = false := by simp [k0]
  have z5 : (kd T i == 5) = false := by simp [k0]
  have z7 : (kd T i == 7) = true := by simp [k0]
  clear k0
  go_enter Tryz.func221, Tryz.ntmps221
  go_wp2_with fail
  refine (atFp P).mono ?_
  rintro v w18 ⟨rfl, f18⟩
  have P18 := P.same f18
  have F18 := F0.trans f18 (fun _ _ h => h.elim)
  clear r1 r2 r3 r4 r5 b1 b2 b3
  obtain ⟨r1, r2, r3, r4, r5⟩ := P18.r15
  obtain ⟨b1, b2, b3⟩ := P18.blt
  go_wp2_with fail
  refine (kindF P18).mono ?_
  rintro v w19 ⟨rfl, f19⟩
  have P19 := P18.same f19
  have F19 := F18.trans f19 (fun _ _ h => h.elim)
  clear r1 r2 r3 r4 r5 b1 b2 b3
  obtain ⟨r1, r2, r3, r4, r5⟩ := P19.r15
  obtain ⟨b1, b2, b3⟩ := P19.blt
  go_wp2_with fail
  refine (stepFp P19).mono ?_
  rintro v w20 ⟨rfl, P20, f20⟩
  have F20 := F19.trans f20 (fun _ _ h => h)
  clear r1 r2 r3 r4 r5 b1 b2 b3
  obtain ⟨r1, r2, r3, r4, r5⟩ := P20.r15
  obtain ⟨b1, b2, b3⟩ := P20.blt
  go_wp2_with fail
  refine (freshF 6 (ps T i) _).mono ?_
  rintro v w21 ⟨rfl, f21⟩
  have P21 := P20.same f21
  have F21 := F20.trans f21 (fun _ _ h => h.elim)
  unfold ndV fre
  clear r1 r2 r3 r4 r5 b1 b2 b3
  obtain ⟨r1, r2, r3, r4, r5⟩ := P21.r15
  obtain ⟨b1, b2, b3⟩ := P21.blt
  go_wp2_with fail
  have B21 := BM.new P21 (⟨6, -1, -1, -1, -1, 0, ps T i, ⟨#[]⟩⟩)
  have G21 := F21.alloc (boxN (⟨6, -1, -1, -1, -1, 0, ps T i, ⟨#[]⟩⟩))
  have Hn21 : w.heap.size ≤ w21.heap.size := F21.size
  refine (exprC B21.P hd Hl.out C0.out).mono ?_
  rintro v w22 ⟨f22, ⟨x22_, j22, m22, rfl, P22, hj22, hx22, hn22, c22⟩ | ⟨rfl, D22⟩⟩
  · have C22 : Hid _ := c22
    have Hx22 : Hid _ := hx22
    have xb22 : x22_ < 200 := by have := P22.le; omega
    have xc22 : -1 < x22_ := by omega
    clear c22 hx22
    have B22 := B21.go f22 P22
    have F22 := G21.trans f22 (fun _ _ h => h)
    clear r1 r2 r3 r4 r5 b1 b2 b3
    obtain ⟨r1, r2, r3, r4, r5⟩ := B22.P.r15
    obtain ⟨b1, b2, b3⟩ := B22.P.blt
    obtain ⟨x0, x1, x2, x3, x4, x5, x6, x7, xz, xl, xn1, xn2, xn3⟩ := B22.fx
    go_wp2_with fail
    have B23 := B22.setA (x22_)
    have F23 := F22.setNew (b := w21.heap.size) (o := 1) (u := .int .i64 (x22_)) Hn21
    refine ((HB _ A _ _ d l (by have := Hi.out; have := Hs.out; omega) B23.P hd Hl.out).mono fun _ _ h => h.use C22.out).mono ?_
    rintro v w24 ⟨f24, ⟨x24_, j24, m24, rfl, P24, hj24, hx24, hn24, c24⟩ | ⟨rfl, D24⟩⟩
    · have C24 : Hid _ := c24
      have Hx24 : Hid _ := hx24
      have xb24 : x24_ < 200 := by have := P24.le; omega
      have xc24 : -1 < x24_ := by omega
      clear c24 hx24
      have B24 := B23.go f24 P24
      have F24 := F23.trans f24 (fun _ _ h => h)
      clear r1 r2 r3 r4 r5 b1 b2 b3 x0 x1 x2 x3 x4 x5 x6 x7 xz xl xn1 xn2 xn3
      obtain ⟨r1, r2, r3, r4, r5⟩ := B24.P.r15
      obtain ⟨b1, b2, b3⟩ := B24.P.blt
      obtain ⟨x0, x1, x2, x3, x4, x5, x6, x7, xz, xl, xn1, xn2, xn3⟩ := B24.fx
      go_wp2_with fail
      have B25 := B24.setB (x24_)
      have F25 := F24.setNew (b := w21.heap.size) (o := 2) (u := .int .i64 (x24_)) Hn21
      refine (addC B25.P (⟨6, x22_, x24_, -1, -1, 0, ps T i, ⟨#[]⟩⟩) ⟨by simp, P.psn, by have := Hx22.out; have := Hx24.out; simp; omega, by have := Hx22.out; have := Hx24.out; simp; omega, by have := Hx22.out; have := Hx24.out; simp; omega, .inl rfl⟩ C24.out).mono ?_
      rintro v w26 ⟨f26, ⟨n26, hn26, rfl, P26, hb26, c26⟩ | ⟨rfl, D26⟩⟩
      · have C26 : Hid _ := c26
        have Hn_26 : Hid _ := hn26
        clear c26 hn26
        have B26 := B25.go f26 P26
        have F26 := F25.trans f26 (fun _ _ h => h)
        clear r1 r2 r3 r4 r5 b1 b2 b3 x0 x1 x2 x3 x4 x5 x6 x7 xz xl xn1 xn2 xn3
        obtain ⟨r1, r2, r3, r4, r5⟩ := B26.P.r15
        obtain ⟨b1, b2, b3⟩ := B26.P.blt
        obtain ⟨x0, x1, x2, x3, x4, x5, x6, x7, xz, xl, xn1, xn2, xn3⟩ := B26.fx
        go_wp2_with fail
        go_ret
        exact .done F26 B26.P C26.out (by have := Hs.out; omega) (by have := Hn_26.out; simp; omega) (by have := Hn_26.out; have := Hx22.out; have := Hx24.out; omega)
      · obtain ⟨er26, q26, jd26, md26, h026, P26, hE26⟩ := D26
        have HE26 : Hid _ := hE26
        clear hE26
        have B26 := B25.go f26 P26
        have F26 := F25.trans f26 (fun _ _ h => h)
        clear r1 r2 r3 r4 r5 b1 b2 b3 x0 x1 x2 x3 x4 x5 x6 x7 xz xl xn1 xn2 xn3
        obtain ⟨r1, r2, r3, r4, r5⟩ := B26.P.r15
        obtain ⟨b1, b2, b3⟩ := B26.P.blt
        obtain ⟨x0, x1, x2, x3, x4, x5, x6, x7, xz, xl, xn1, xn2, xn3⟩ := B26.fx
        go_wp2_with fail
        go_ret
        exact .dead F26 ⟨_, _, _, _, h026, B26.P, HE26.out⟩
    · obtain ⟨er24, q24, jd24, md24, h024, P24, hE24⟩ := D24
      have HE24 : Hid _ := hE24
      clear hE24
      have B24 := B23.go f24 P24
      have F24 := F23.trans f24 (fun _ _ h => h)
      clear r1 r2 r3 r4 r5 b1 b2 b3 x0 x1 x2 x3 x4 x5 x6 x7 xz xl xn1 xn2 xn3
      obtain ⟨r1, r2, r3, r4, r5⟩ := B24.P.r15
      obtain ⟨b1, b2, b3⟩ := B24.P.blt
      obtain ⟨x0, x1, x2, x3, x4, x5, x6, x7, xz, xl, xn1, xn2, xn3⟩ := B24.fx
      go_wp2_with fail
      have B27 := B24.setB (-1)
      have F27 := F24.setNew (b := w21.heap.size) (o := 2) (u := .int .i64 (-1)) Hn21
      refine (add_failed B27.P (⟨6, x22_, -1, -1, -1, 0, ps T i, ⟨#[]⟩⟩)).mono ?_
      rintro v w28 ⟨rfl, f28⟩
      have P28 := B27.same f28
      have F28 := F27.trans f28 (fun _ _ h => h.elim)
      clear r1 r2 r3 r4 r5 b1 b2 b3 x0 x1 x2 x3 x4 x5 x6 x7 xz xl xn1 xn2 xn3
      obtain ⟨r1, r2, r3, r4, r5⟩ := P28.P.r15
      obtain ⟨b1, b2, b3⟩ := P28.P.blt
      obtain ⟨x0, x1, x2, x3, x4, x5, x6, x7, xz, xl, xn1, xn2, xn3⟩ := P28.fx
      go_wp2_with fail
      go_ret
      exact .dead F28 ⟨_, _, _, _, h024, P28.P, HE24.out⟩
  · obtain ⟨er22, q22, jd22, md22, h022, P22, hE22⟩ := D22
    have HE22 : Hid _ := hE22
    clear hE22
    have B22 := B21.go f22 P22
    have F22 := G21.trans f22 (fun _ _ h => h)
    clear r1 r2 r3 r4 r5 b1 b2 b3
    obtain ⟨r1, r2, r3, r4, r5⟩ := B22.P.r15
    obtain ⟨b1, b2, b3⟩ := B22.P.blt
    obtain ⟨x0, x1, x2, x3, x4, x5, x6, x7, xz, xl, xn1, xn2, xn3⟩ := B22.fx
    go_wp2_with fail
    have B29 := B22.setA (-1)
    have F29 := F22.setNew (b := w21.heap.size) (o := 1) (u := .int .i64 (-1)) Hn21
    refine (block_failed B29.P l).mono ?_
    rintro v w30 ⟨rfl, e30⟩
    subst w30
    go_wp2_with fail
    have B31 := B29.setB (-1)
    have F31 := F29.setNew (b := w21.heap.size) (o := 2) (u := .int .i64 (-1)) Hn21
    refine (add_failed B31.P (⟨6, -1, -1, -1, -1, 0, ps T i, ⟨#[]⟩⟩)).mono ?_
    rintro v w32 ⟨rfl, f32⟩
    have P32 := B31.same f32
    have F32 := F31.trans f32 (fun _ _ h => h.elim)
    clear r1 r2 r3 r4 r5 b1 b2 b3 x0 x1 x2 x3 x4 x5 x6 x7 xz xl xn1 xn2 xn3
    obtain ⟨r1, r2, r3, r4, r5⟩ := P32.P.r15
    obtain ⟨b1, b2, b3⟩ := P32.P.blt
    obtain ⟨x0, x1, x2, x3, x4, x5, x6, x7, xz, xl, xn1, xn2, xn3⟩ := P32.fx
    go_wp2_with fail
    go_ret
    exact .dead F32 ⟨_, _, _, _, h022, P32.P, HE22.out⟩
end
end Go.Proofs.Qxb6500277aGreat
