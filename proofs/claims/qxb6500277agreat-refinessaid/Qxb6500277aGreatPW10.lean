/- The real parser: primary: calls. -/
import Derived.Test.Qxb6500277aGreatPW9
namespace Go.Proofs.Qxb6500277aGreat
open Go Go.RowKit

section
variable {w w' : World} {A : Pa} {T : List Tok} {i j : Nat} {ns ms : List Nd} {fl : Bool} {er q : Int} {S : Nat → Prop}
set_option maxRecDepth 100000 in
set_option maxHeartbeats 8000000 in
theorem prim12 {n : Nat} (H : LvC T n) (P : PM w A T i ns false 0 0) (hi : T.length ≤ i + n + 1) (d : Nat) (hd : d ≤ 8) {l : Int} (hl : l = 8 - (d : Int)) (k0 : kd T i = 12) :
    Calls Tryz.prog 245 #[.pointer (some ⟨A.p, 0, none⟩), .int .i64 l] w (PPost w A T i ns (.prim d)) := by
  have Hl : Hid _ := hl
  have Hi : Hid _ := hi
  have l1 : -1 < l := by omega
  have l2 : l < 9 := by omega
  clear hl hi
  have F0 : Fr (PS A) w w := Fr.refl _ _
  obtain ⟨r1, r2, r3, r4, r5⟩ := P.r15
  obtain ⟨b1, b2, b3⟩ := P.blt
  obtain ⟨q0, q1, q2, q3⟩ := P.cellK
  obtain ⟨i1, i2⟩ := P.ib
  have hlt : decide ((i : Int) < (T.length : Nat)) = true := decide_eq_true (by have := P.lt; omega)
  have hl0 := P.lt
  have C0 : Hid _ := Im.of_eq (T := T) (M := body T (.prim d) i ns) ((if_neg (by omega)).trans ((if_neg (by omega)).trans ((if_neg (by omega)).trans ((if_neg (by omega)).trans (if_pos k0)))))
  have Hs : Hid _ := P.nxt (by omega)
  have z2 : (kd T i == 2) = false := by simp [k0]
  have z10 : (kd T i == 10) = false := by simp [k0]
  have z11 : (kd T i == 11) = false := by simp [k0]
  have z17 : (kd T i == 17) = false := by simp [k0]
  have z12 : (kd T i == 12) = true := by simp [k0]
  clear k0
  go_enter Tryz.func245, Tryz.ntmps245
  go_wp2_with fail
  refine wp_region_text (by kernel_rfl) (by kernel_rfl) ?_
  go_wp2_with fail
  refine ⟨by kernel_rfl, ?_⟩
  generalize hw0 : World.drew _ = w0
  have f0 : Fr (fun _ => False) w w0 := by rw [← hw0]; exact ((Fr.refl _ _).alloc _).drew
  have X0 : Blk w0 w.heap.size 4 (tokCell (tk T i)) := by rw [← hw0]; exact (boxT_blk w (tk T i)).drew
  have P0 := P.same f0
  have G0 := f0.mono (S' := PS A) (fun _ _ h => h.elim)
  have tne : w.heap.size ≠ A.p ∧ w.heap.size ≠ A.tb ∧ w.heap.size ≠ A.ab := by have := P.blt; omega
  clear hw0
  clear r1 r2 r3 r4 r5 b1 b2 b3 q0 q1 q2 q3 i1 i2 hlt hl0
  obtain ⟨r1, r2, r3, r4, r5⟩ := P0.r15
  obtain ⟨b1, b2, b3⟩ := P0.blt
  obtain ⟨t0, t1, t2, t3, t4⟩ := tokX X0
  go_wp2_with fail
  refine (stepFp P0).mono ?_
  rintro v w16 ⟨rfl, P16, f16⟩
  have X16 := X0.frame f16 (by unfold PS; omega)
  have F16 := G0.trans f16 (fun _ _ h => h)
  clear r1 r2 r3 r4 r5 b1 b2 b3 t0 t1 t2 t3 t4
  obtain ⟨r1, r2, r3, r4, r5⟩ := P16.r15
  obtain ⟨b1, b2, b3⟩ := P16.blt
  obtain ⟨t0, t1, t2, t3, t4⟩ := tokX X16
  go_wp2_with fail
  refine (freshF 15 (ps T i) _).mono ?_
  rintro v w17 ⟨rfl, f17⟩
  have P17 := P16.same f17
  have F17 := F16.trans f17 (fun _ _ h => h.elim)
  unfold ndV fre
  have X17 := X16.frame f17 (fun h => h)
  clear r1 r2 r3 r4 r5 b1 b2 b3 t0 t1 t2 t3 t4
  obtain ⟨r1, r2, r3, r4, r5⟩ := P17.r15
  obtain ⟨b1, b2, b3⟩ := P17.blt
  obtain ⟨t0, t1, t2, t3, t4⟩ := tokX X17
  go_wp2_with fail
  have B17 := BM.new P17 (⟨15, -1, -1, -1, -1, 0, ps T i, ⟨#[]⟩⟩)
  have G17 := F17.alloc (boxN (⟨15, -1, -1, -1, -1, 0, ps T i, ⟨#[]⟩⟩))
  have Hn17 : w.heap.size ≤ w17.heap.size := F17.size
  refine (typC B17.P C0.out).mono ?_
  rintro v w18 ⟨f18, ⟨t18, j18, rfl, P18, hj18, ht18, hu18, c18⟩ | ⟨rfl, D18⟩⟩
  · have C18 : Hid _ := c18
    clear c18
    have B18 := B17.go f18 P18
    have F18 := G17.trans f18 (fun _ _ h => h)
    clear r1 r2 r3 r4 r5 b1 b2 b3 t0 t1 t2 t3 t4
    obtain ⟨r1, r2, r3, r4, r5⟩ := B18.P.r15
    obtain ⟨b1, b2, b3⟩ := B18.P.blt
    obtain ⟨x0, x1, x2, x3, x4, x5, x6, x7, xz, xl, xn1, xn2, xn3⟩ := B18.fx
    go_wp2_with fail
    have B19 := B18.setV (t18)
    have F19 := F18.setNew (b := w17.heap.size) (o := 5) (u := .int .i64 (t18)) Hn17
    refine ((bracketF H B19.P (by have := Hi.out; have := Hs.out; omega) d hd Hl.out).mono fun _ _ h => h.use C18.out).mono ?_
    rintro v w20 ⟨f20, ⟨x20_, j20, m20, rfl, P20, hj20, hx20, hn20, c20⟩ | ⟨rfl, D20⟩⟩
    · have C20 : Hid _ := c20
      have Hx20 : Hid _ := hx20
      have xb20 : x20_ < 200 := by have := P20.le; omega
      have xc20 : -1 < x20_ := by omega
      clear c20 hx20
      have B20 := B19.go f20 P20
      have F20 := F19.trans f20 (fun _ _ h => h)
      clear r1 r2 r3 r4 r5 b1 b2 b3 x0 x1 x2 x3 x4 x5 x6 x7 xz xl xn1 xn2 xn3
      obtain ⟨r1, r2, r3, r4, r5⟩ := B20.P.r15
      obtain ⟨b1, b2, b3⟩ := B20.P.blt
      obtain ⟨x0, x1, x2, x3, x4, x5, x6, x7, xz, xl, xn1, xn2, xn3⟩ := B20.fx
      go_wp2_with fail
      have B21 := B20.setA (x20_)
      have F21 := F20.setNew (b := w17.heap.size) (o := 1) (u := .int .i64 (x20_)) Hn17
      refine (addC B21.P (⟨15, x20_, -1, -1, -1, t18, ps T i, ⟨#[]⟩⟩) ⟨by simp, P.psn, by have := Hx20.out; simp; omega, by simp; omega, by simp; omega, .inl rfl⟩ C20.out).mono ?_
      rintro v w22 ⟨f22, ⟨n22, hn22, rfl, P22, hb22, c22⟩ | ⟨rfl, D22⟩⟩
      · have C22 : Hid _ := c22
        have Hn_22 : Hid _ := hn22
        clear c22 hn22
        have B22 := B21.go f22 P22
        have F22 := F21.trans f22 (fun _ _ h => h)
        clear r1 r2 r3 r4 r5 b1 b2 b3 x0 x1 x2 x3 x4 x5 x6 x7 xz xl xn1 xn2 xn3
        obtain ⟨r1, r2, r3, r4, r5⟩ := B22.P.r15
        obtain ⟨b1, b2, b3⟩ := B22.P.blt
        obtain ⟨x0, x1, x2, x3, x4, x5, x6, x7, xz, xl, xn1, xn2, xn3⟩ := B22.fx
        go_wp2_with fail
        go_ret
        exact .done F22 B22.P C22.out (by have := Hs.out; omega) (by have := Hn_22.out; simp; omega) (by have := Hn_22.out; have := Hx20.out; omega)
      · obtain ⟨er22, q22, jd22, md22, h022, P22, hE22⟩ := D22
        have HE22 : Hid _ := hE22
        clear hE22
        have B22 := B21.go f22 P22
        have F22 := F21.trans f22 (fun _ _ h => h)
        clear r1 r2 r3 r4 r5 b1 b2 b3 x0 x1 x2 x3 x4 x5 x6 x7 xz xl xn1 xn2 xn3
        obtain ⟨r1, r2, r3, r4, r5⟩ := B22.P.r15
        obtain ⟨b1, b2, b3⟩ := B22.P.blt
        obtain ⟨x0, x1, x2, x3, x4, x5, x6, x7, xz, xl, xn1, xn2, xn3⟩ := B22.fx
        go_wp2_with fail
        go_ret
        exact .dead F22 ⟨_, _, _, _, h022, B22.P, HE22.out⟩
    · obtain ⟨er20, q20, jd20, md20, h020, P20, hE20⟩ := D20
      have HE20 : Hid _ := hE20
      clear hE20
      have B20 := B19.go f20 P20
      have F20 := F19.trans f20 (fun _ _ h => h)
      clear r1 r2 r3 r4 r5 b1 b2 b3 x0 x1 x2 x3 x4 x5 x6 x7 xz xl xn1 xn2 xn3
      obtain ⟨r1, r2, r3, r4, r5⟩ := B20.P.r15
      obtain ⟨b1, b2, b3⟩ := B20.P.blt
      obtain ⟨x0, x1, x2, x3, x4, x5, x6, x7, xz, xl, xn1, xn2, xn3⟩ := B20.fx
      go_wp2_with fail
      have B23 := B20.setA (-1)
      have F23 := F20.setNew (b := w17.heap.size) (o := 1) (u := .int .i64 (-1)) Hn17
      refine (add_failed B23.P (⟨15, -1, -1, -1, -1, t18, ps T i, ⟨#[]⟩⟩)).mono ?_
      rintro v w24 ⟨rfl, f24⟩
      have P24 := B23.same f24
      have F24 := F23.trans f24 (fun _ _ h => h.elim)
      clear r1 r2 r3 r4 r5 b1 b2 b3 x0 x1 x2 x3 x4 x5 x6 x7 xz xl xn1 xn2 xn3
      obtain ⟨r1, r2, r3, r4, r5⟩ := P24.P.r15
      obtain ⟨b1, b2, b3⟩ := P24.P.blt
      obtain ⟨x0, x1, x2, x3, x4, x5, x6, x7, xz, xl, xn1, xn2, xn3⟩ := P24.fx
      go_wp2_with fail
      go_ret
      exact .dead F24 ⟨_, _, _, _, h020, P24.P, HE20.out⟩
  · obtain ⟨er18, q18, jd18, md18, h018, P18, hE18⟩ := D18
    have HE18 : Hid _ := hE18
    clear hE18
    have B18 := B17.go f18 P18
    have F18 := G17.trans f18 (fun _ _ h => h)
    clear r1 r2 r3 r4 r5 b1 b2 b3 t0 t1 t2 t3 t4
    obtain ⟨r1, r2, r3, r4, r5⟩ := B18.P.r15
    obtain ⟨b1, b2, b3⟩ := B18.P.blt
    obtain ⟨x0, x1, x2, x3, x4, x5, x6, x7, xz, xl, xn1, xn2, xn3⟩ := B18.fx
    go_wp2_with fail
    have B25 := B18.setV (-1)
    have F25 := F18.setNew (b := w17.heap.size) (o := 5) (u := .int .i64 (-1)) Hn17
    refine (bracket_failed B25.P l).mono ?_
    rintro v w26 ⟨rfl, e26⟩
    subst w26
    go_wp2_with fail
    have B27 := B25.setA (-1)
    have F27 := F25.setNew (b := w17.heap.size) (o := 1) (u := .int .i64 (-1)) Hn17
    refine (add_failed B27.P (⟨15, -1, -1, -1, -1, -1, ps T i, ⟨#[]⟩⟩)).mono ?_
    rintro v w28 ⟨rfl, f28⟩
    have P28 := B27.same f28
    have F28 := F27.trans f28 (fun _ _ h => h.elim)
    clear r1 r2 r3 r4 r5 b1 b2 b3 x0 x1 x2 x3 x4 x5 x6 x7 xz xl xn1 xn2 xn3
    obtain ⟨r1, r2, r3, r4, r5⟩ := P28.P.r15
    obtain ⟨b1, b2, b3⟩ := P28.P.blt
    obtain ⟨x0, x1, x2, x3, x4, x5, x6, x7, xz, xl, xn1, xn2, xn3⟩ := P28.fx
    go_wp2_with fail
    go_ret
    exact .dead F28 ⟨_, _, _, _, h018, P28.P, HE18.out⟩
set_option maxRecDepth 100000 in
set_option maxHeartbeats 8000000 in
theorem prim13 {n : Nat} (H : LvC T n) (P : PM w A T i ns false 0 0) (hi : T.length ≤ i + n + 1) (d : Nat) (hd : d ≤ 8) {l : Int} (hl : l = 8 - (d : Int)) (k0 : kd T i = 13) :
    Calls Tryz.prog 245 #[.pointer (some ⟨A.p, 0, none⟩), .int .i64 l] w (PPost w A T i ns (.prim d)) := by
  have Hl : Hid _ := hl
  have Hi : Hid _ := hi
  have l1 : -1 < l := by omega
  have l2 : l < 9 := by omega
  clear hl hi
  have F0 : Fr (PS A) w w := Fr.refl _ _
  obtain ⟨r1, r2, r3, r4, r5⟩ := P.r15
  obtain ⟨b1, b2, b3⟩ := P.blt
  obtain ⟨q0, q1, q2, q3⟩ := P.cellK
  obtain ⟨i1, i2⟩ := P.ib
  have hlt : decide ((i : Int) < (T.length : Nat)) = true := decide_eq_true (by have := P.lt; omega)
  have hl0 := P.lt
  have C0 : Hid _ := Im.of_eq (T := T) (M := body T (.prim d) i ns) ((if_neg (by omega)).trans ((if_neg (by omega)).trans ((if_neg (by omega)).trans ((if_neg (by omega)).trans ((if_neg (by omega)).trans (if_pos k0))))))
  have Hs : Hid _ := P.nxt (by omega)
  have z2 : (kd T i == 2) = false := by simp [k0]
  have z10 : (kd T i == 10) = false := by simp [k0]
  have z11 : (kd T i == 11) = false := by simp [k0]
  have z17 : (kd T i == 17) = false := by simp [k0]
  have z12 : (kd T i == 12) = false := by simp [k0]
  have z13 : (kd T i == 13) = true := by simp [k0]
  clear k0
  go_enter Tryz.func245, Tryz.ntmps245
  go_wp2_with fail
  refine wp_region_text (by kernel_rfl) (by kernel_rfl) ?_
  go_wp2_with fail
  refine ⟨by kernel_rfl, ?_⟩
  generalize hw0 : World.drew _ = w0
  have f0 : Fr (fun _ => False) w w0 := by rw [← hw0]; exact ((Fr.refl _ _).alloc _).drew
  have X0 : Blk w0 w.heap.size 4 (tokCell (tk T i)) := by rw [← hw0]; exact (boxT_blk w (tk T i)).drew
  have P0 := P.same f0
  have G0 := f0.mono (S' := PS A) (fun _ _ h => h.elim)
  have tne : w.heap.size ≠ A.p ∧ w.heap.size ≠ A.tb ∧ w.heap.size ≠ A.ab := by have := P.blt; omega
  clear hw0
  clear r1 r2 r3 r4 r5 b1 b2 b3 q0 q1 q2 q3 i1 i2 hlt hl0
  obtain ⟨r1, r2, r3, r4, r5⟩ := P0.r15
  obtain ⟨b1, b2, b3⟩ := P0.blt
  obtain ⟨t0, t1, t2, t3, t4⟩ := tokX X0
  go_wp2_with fail
  refine (stepFp P0).mono ?_
  rintro v w29 ⟨rfl, P29, f29⟩
  have X29 := X0.frame f29 (by unfold PS; omega)
  have F29 := G0.trans f29 (fun _ _ h => h)
  clear r1 r2 r3 r4 r5 b1 b2 b3 t0 t1 t2 t3 t4
  obtain ⟨r1, r2, r3, r4, r5⟩ := P29.r15
  obtain ⟨b1, b2, b3⟩ := P29.blt
  obtain ⟨t0, t1, t2, t3, t4⟩ := tokX X29
  go_wp2_with fail
  refine (freshF 16 (ps T i) _).mono ?_
  rintro v w30 ⟨rfl, f30⟩
  have P30 := P29.same f30
  have F30 := F29.trans f30 (fun _ _ h => h.elim)
  unfold ndV fre
  have X30 := X29.frame f30 (fun h => h)
  clear r1 r2 r3 r4 r5 b1 b2 b3 t0 t1 t2 t3 t4
  obtain ⟨r1, r2, r3, r4, r5⟩ := P30.r15
  obtain ⟨b1, b2, b3⟩ := P30.blt
  obtain ⟨t0, t1, t2, t3, t4⟩ := tokX X30
  go_wp2_with fail
  have B30 := BM.new P30 (⟨16, -1, -1, -1, -1, 0, ps T i, ⟨#[]⟩⟩)
  have G30 := F30.alloc (boxN (⟨16, -1, -1, -1, -1, 0, ps T i, ⟨#[]⟩⟩))
  have Hn30 : w.heap.size ≤ w30.heap.size := F30.size
  refine ((bracketF H B30.P (by have := Hi.out; have := Hs.out; omega) d hd Hl.out).mono fun _ _ h => h.use C0.out).mono ?_
  rintro v w31 ⟨f31, ⟨x31_, j31, m31, rfl, P31, hj31, hx31, hn31, c31⟩ | ⟨rfl, D31⟩⟩
  · have C31 : Hid _ := c31
    have Hx31 : Hid _ := hx31
    have xb31 : x31_ < 200 := by have := P31.le; omega
    have xc31 : -1 < x31_ := by omega
    clear c31 hx31
    have B31 := B30.go f31 P31
    have F31 := G30.trans f31 (fun _ _ h => h)
    clear r1 r2 r3 r4 r5 b1 b2 b3 t0 t1 t2 t3 t4
    obtain ⟨r1, r2, r3, r4, r5⟩ := B31.P.r15
    obtain ⟨b1, b2, b3⟩ := B31.P.blt
    obtain ⟨x0, x1, x2, x3, x4, x5, x6, x7, xz, xl, xn1, xn2, xn3⟩ := B31.fx
    go_wp2_with fail
    have B32 := B31.setA (x31_)
    have F32 := F31.setNew (b := w30.heap.size) (o := 1) (u := .int .i64 (x31_)) Hn30
    refine (addC B32.P (⟨16, x31_, -1, -1, -1, 0, ps T i, ⟨#[]⟩⟩) ⟨by simp, P.psn, by have := Hx31.out; simp; omega, by simp; omega, by simp; omega, .inl rfl⟩ C31.out).mono ?_
    rintro v w33 ⟨f33, ⟨n33, hn33, rfl, P33, hb33, c33⟩ | ⟨rfl, D33⟩⟩
    · have C33 : Hid _ := c33
      have Hn_33 : Hid _ := hn33
      clear c33 hn33
      have B33 := B32.go f33 P33
      have F33 := F32.trans f33 (fun _ _ h => h)
      clear r1 r2 r3 r4 r5 b1 b2 b3 x0 x1 x2 x3 x4 x5 x6 x7 xz xl xn1 xn2 xn3
      obtain ⟨r1, r2, r3, r4, r5⟩ := B33.P.r15
      obtain ⟨b1, b2, b3⟩ := B33.P.blt
      obtain ⟨x0, x1, x2, x3, x4, x5, x6, x7, xz, xl, xn1, xn2, xn3⟩ := B33.fx
      go_wp2_with fail
      go_ret
      exact .done F33 B33.P C33.out (by have := Hs.out; omega) (by have := Hn_33.out; simp; omega) (by have := Hn_33.out; have := Hx31.out; omega)
    · obtain ⟨er33, q33, jd33, md33, h033, P33, hE33⟩ := D33
      have HE33 : Hid _ := hE33
      clear hE33
      have B33 := B32.go f33 P33
      have F33 := F32.trans f33 (fun _ _ h => h)
      clear r1 r2 r3 r4 r5 b1 b2 b3 x0 x1 x2 x3 x4 x5 x6 x7 xz xl xn1 xn2 xn3
      obtain ⟨r1, r2, r3, r4, r5⟩ := B33.P.r15
      obtain ⟨b1, b2, b3⟩ := B33.P.blt
      obtain ⟨x0, x1, x2, x3, x4, x5, x6, x7, xz, xl, xn1, xn2, xn3⟩ := B33.fx
      go_wp2_with fail
      go_ret
      exact .dead F33 ⟨_, _, _, _, h033, B33.P, HE33.out⟩
  · obtain ⟨er31, q31, jd31, md31, h031, P31, hE31⟩ := D31
    have HE31 : Hid _ := hE31
    clear hE31
    have B31 := B30.go f31 P31
    have F31 := G30.trans f31 (fun _ _ h => h)
    clear r1 r2 r3 r4 r5 b1 b2 b3 t0 t1 t2 t3 t4
    obtain ⟨r1, r2, r3, r4, r5⟩ := B31.P.r15
    obtain ⟨b1, b2, b3⟩ := B31.P.blt
    obtain ⟨x0, x1, x2, x3, x4, x5, x6, x7, xz, xl, xn1, xn2, xn3⟩ := B31.fx
    go_wp2_with fail
    have B34 := B31.setA (-1)
    have F34 := F31.setNew (b := w30.heap.size) (o := 1) (u := .int .i64 (-1)) Hn30
    refine (add_failed B34.P (⟨16, -1, -1, -1, -1, 0, ps T i, ⟨#[]⟩⟩)).mono ?_
    rintro v w35 ⟨rfl, f35⟩
    have P35 := B34.same f35
    have F35 := F34.trans f35 (fun _ _ h => h.elim)
    clear r1 r2 r3 r4 r5 b1 b2 b3 x0 x1 x2 x3 x4 x5 x6 x7 xz xl xn1 xn2 xn3
    obtain ⟨r1, r2, r3, r4, r5⟩ := P35.P.r15
    obtain ⟨b1, b2, b3⟩ := P35.P.blt
    obtain ⟨x0, x1, x2, x3, x4, x5, x6, x7, xz, xl, xn1, xn2, xn3⟩ := P35.fx
    go_wp2_with fail
    go_ret
    exact .dead F35 ⟨_, _, _, _, h031, P35.P, HE31.out⟩
set_option maxRecDepth 100000 in
set_option maxHeartbeats 8000000 in
theorem prim1 {n : Nat} (H : LvC T n) (P : PM w A T i ns false 0 0) (hi : T.length ≤ i + n + 1) (d : Nat) (hd : d ≤ 8) {l : Int} (hl : l = 8 - (d : Int)) (k0 : kd T i = 1) :
    Calls Tryz.prog 245 #[.pointer (some ⟨A.p, 0, none⟩), .int .i64 l] w (PPost w A T i ns (.prim d)) := by
  have Hl : Hid _ := hl
  have Hi : Hid _ := hi
  have l1 : -1 < l := by omega
  have l2 : l < 9 := by omega
  clear hl hi
  have F0 : Fr (PS A) w w := Fr.refl _ _
  obtain ⟨r1, r2, r3, r4, r5⟩ := P.r15
  obtain ⟨b1, b2, b3⟩ := P.blt
  obtain ⟨q0, q1, q2, q3⟩ := P.cellK
  obtain ⟨i1, i2⟩ := P.ib
  have hlt : decide ((i : Int) < (T.length : Nat)) = true := decide_eq_true (by have := P.lt; omega)
  have hl0 := P.lt
  have C0 : Hid _ := Im.of_eq (T := T) (M := body T (.prim d) i ns) ((if_neg (by omega)).trans ((if_neg (by omega)).trans ((if_neg (by omega)).trans ((if_neg (by omega)).trans ((if_neg (by omega)).trans ((if_neg (by omega)).trans ((if_neg (by omega)).trans (if_pos k0))))))))
  have Hs : Hid _ := P.nxt (by omega)
  have z2 : (kd T i == 2) = false := by simp [k0]
  have z10 : (kd T i == 10) = false := by simp [k0]
  have z11 : (kd T i == 11) = false := by simp [k0]
  have z17 : (kd T i == 17) = false := by simp [k0]
  have z12 : (kd T i == 12) = false := by simp [k0]
  have z13 : (kd T i == 13) = false := by simp [k0]
  have z14 : (kd T i == 14) = false := by simp [k0]
  have z1 : (kd T i == 1) = true := by simp [k0]
  clear k0
  go_enter Tryz.func245, Tryz.ntmps245
  go_wp2_with fail
  refine wp_region_text (by kernel_rfl) (by kernel_rfl) ?_
  go_wp2_with fail
  refine ⟨by kernel_rfl, ?_⟩
  generalize hw0 : World.drew _ = w0
  have f0 : Fr (fun _ => False) w w0 := by rw [← hw0]; exact ((Fr.refl _ _).alloc _).drew
  have X0 : Blk w0 w.heap.size 4 (tokCell (tk T i)) := by rw [← hw0]; exact (boxT_blk w (tk T i)).drew
  have P0 := P.same f0
  have G0 := f0.mono (S' := PS A) (fun _ _ h => h.elim)
  have tne : w.heap.size ≠ A.p ∧ w.heap.size ≠ A.tb ∧ w.heap.size ≠ A.ab := by have := P.blt; omega
  clear hw0
  clear r1 r2 r3 r4 r5 b1 b2 b3 q0 q1 q2 q3 i1 i2 hlt hl0
  obtain ⟨r1, r2, r3, r4, r5⟩ := P0.r15
  obtain ⟨b1, b2, b3⟩ := P0.blt
  obtain ⟨t0, t1, t2, t3, t4⟩ := tokX X0
  go_wp2_with fail
  refine (stepFp P0).mono ?_
  rintro v w36 ⟨rfl, P36, f36⟩
  have X36 := X0.frame f36 (by unfold PS; omega)
  have F36 := G0.trans f36 (fun _ _ h => h)
  clear r1 r2 r3 r4 r5 b1 b2 b3 t0 t1 t2 t3 t4
  obtain ⟨r1, r2, r3, r4, r5⟩ := P36.r15
  obtain ⟨b1, b2, b3⟩ := P36.blt
  obtain ⟨t0, t1, t2, t3, t4⟩ := tokX X36
  go_wp2_with fail
  refine (freshF 12 (ps T i) _).mono ?_
  rintro v w37 ⟨rfl, f37⟩
  have P37 := P36.same f37
  have F37 := F36.trans f37 (fun _ _ h => h.elim)
  unfold ndV fre
  have X37 := X36.frame f37 (fun h => h)
  clear r1 r2 r3 r4 r5 b1 b2 b3 t0 t1 t2 t3 t4
  obtain ⟨r1, r2, r3, r4, r5⟩ := P37.r15
  obtain ⟨b1, b2, b3⟩ := P37.blt
  obtain ⟨t0, t1, t2, t3, t4⟩ := tokX X37
  go_wp2_with fail
  have B37 := BM.new P37 (⟨12, -1, -1, -1, -1, 0, ps T i, (tk T i).text⟩)
  have G37 := F37.alloc (boxN (⟨12, -1, -1, -1, -1, 0, ps T i, (tk T i).text⟩))
  have Hn37 : w.heap.size ≤ w37.heap.size := F37.size
  refine (kindF B37.P).mono ?_
  rintro v w38 ⟨rfl, f38⟩
  have P38 := B37.same f38
  have F38 := G37.trans f38 (fun _ _ h => h.elim)
  clear r1 r2 r3 r4 r5 b1 b2 b3 t0 t1 t2 t3 t4
  obtain ⟨r1, r2, r3, r4, r5⟩ := P38.P.r15
  obtain ⟨b1, b2, b3⟩ := P38.P.blt
  obtain ⟨x0, x1, x2, x3, x4, x5, x6, x7, xz, xl, xn1, xn2, xn3⟩ := P38.fx
  by_cases k17 : kd T (stp T i) = 17
  · have zz : (kd T (stp T i) == 17) = true := by simp [k17]
    have C9 : Hid _ := Im.of (T := T) C0.out (if_pos k17)
    have hk0 : kd T (stp T i) ≠ 0 := by omega
    clear k17
    go_wp2_with fail
    have B39 := P38.setK (13)
    have F39 := F38.setNew (b := w37.heap.size) (o := 0) (u := .int .i64 (13)) Hn37
    refine ((argsF H B39.P (by have := Hi.out; have := Hs.out; omega) d hd Hl.out hk0 C9.out)).mono ?_
    rintro v w40 ⟨f40, ⟨x40_, j40, m40, rfl, P40, hj40, hx40, hy40, hn40, c40⟩ | ⟨rfl, D40⟩⟩
    · have C40 : Hid _ := c40
      have xb40 : x40_ < 200 := by have := P40.le; omega
      clear c40
      have B40 := B39.go f40 P40
      have F40 := F39.trans f40 (fun _ _ h => h)
      clear r1 r2 r3 r4 r5 b1 b2 b3 x0 x1 x2 x3 x4 x5 x6 x7 xz xl xn1 xn2 xn3
      obtain ⟨r1, r2, r3, r4, r5⟩ := B40.P.r15
      obtain ⟨b1, b2, b3⟩ := B40.P.blt
      obtain ⟨x0, x1, x2, x3, x4, x5, x6, x7, xz, xl, xn1, xn2, xn3⟩ := B40.fx
      go_wp2_with fail
      have B41 := B40.setA (x40_)
      have F41 := F40.setNew (b := w37.heap.size) (o := 1) (u := .int .i64 (x40_)) Hn37
      refine (addC B41.P (⟨13, x40_, -1, -1, -1, 0, ps T i, (tk T i).text⟩) ⟨by simp, P.psn, by simp; omega, by simp; omega, by simp; omega, .inl rfl⟩ C40.out).mono ?_
      rintro v w42 ⟨f42, ⟨n42, hn42, rfl, P42, hb42, c42⟩ | ⟨rfl, D42⟩⟩
      · have C42 : Hid _ := c42
        have Hn_42 : Hid _ := hn42
        clear c42 hn42
        have B42 := B41.go f42 P42
        have F42 := F41.trans f42 (fun _ _ h => h)
        clear r1 r2 r3 r4 r5 b1 b2 b3 x0 x1 x2 x3 x4 x5 x6 x7 xz xl xn1 xn2 xn3
        obtain ⟨r1, r2, r3, r4, r5⟩ := B42.P.r15
        obtain ⟨b1, b2, b3⟩ := B42.P.blt
        obtain ⟨x0, x1, x2, x3, x4, x5, x6, x7, xz, xl, xn1, xn2, xn3⟩ := B42.fx
        go_wp2_with fail
        go_ret
        exact .done F42 B42.P C42.out (by have := Hs.out; omega) (by have := Hn_42.out; simp; omega) (by have := Hn_42.out; omega)
      · obtain ⟨er42, q42, jd42, md42, h042, P42, hE42⟩ := D42
        have HE42 : Hid _ := hE42
        clear hE42
        have B42 := B41.go f42 P42
        have F42 := F41.trans f42 (fun _ _ h => h)
        clear r1 r2 r3 r4 r5 b1 b2 b3 x0 x1 x2 x3 x4 x5 x6 x7 xz xl xn1 xn2 xn3
        obtain ⟨r1, r2, r3, r4, r5⟩ := B42.P.r15
        obtain ⟨b1, b2, b3⟩ := B42.P.blt
        obtain ⟨x0, x1, x2, x3, x4, x5, x6, x7, xz, xl, xn1, xn2, xn3⟩ := B42.fx
        go_wp2_with fail
        go_ret
        exact .dead F42 ⟨_, _, _, _, h042, B42.P, HE42.out⟩
    · obtain ⟨er40, q40, jd40, md40, h040, P40, hE40⟩ := D40
      have HE40 : Hid _ := hE40
      clear hE40
      have B40 := B39.go f40 P40
      have F40 := F39.trans f40 (fun _ _ h => h)
      clear r1 r2 r3 r4 r5 b1 b2 b3 x0 x1 x2 x3 x4 x5 x6 x7 xz xl xn1 xn2 xn3
      obtain ⟨r1, r2, r3, r4, r5⟩ := B40.P.r15
      obtain ⟨b1, b2, b3⟩ := B40.P.blt
      obtain ⟨x0, x1, x2, x3, x4, x5, x6, x7, xz, xl, xn1, xn2, xn3⟩ := B40.fx
      go_wp2_with fail
      have B43 := B40.setA (-1)
      have F43 := F40.setNew (b := w37.heap.size) (o := 1) (u := .int .i64 (-1)) Hn37
      refine (add_failed B43.P (⟨13, -1, -1, -1, -1, 0, ps T i, (tk T i).text⟩)).mono ?_
      rintro v w44 ⟨rfl, f44⟩
      have P44 := B43.same f44
      have F44 := F43.trans f44 (fun _ _ h => h.elim)
      clear r1 r2 r3 r4 r5 b1 b2 b3 x0 x1 x2 x3 x4 x5 x6 x7 xz xl xn1 xn2 xn3
      obtain ⟨r1, r2, r3, r4, r5⟩ := P44.P.r15
      obtain ⟨b1, b2, b3⟩ := P44.P.blt
      obtain ⟨x0, x1, x2, x3, x4, x5, x6, x7, xz, xl, xn1, xn2, xn3⟩ := P44.fx
      go_wp2_with fail
      go_ret
      exact .dead F44 ⟨_, _, _, _, h040, P44.P, HE40.out⟩
  · have zz : (kd T (stp T i) == 17) = false := by simpa using k17
    have C9 : Hid _ := Im.of (T := T) C0.out (if_neg k17)
    clear k17
    go_wp2_with fail
    refine (addC P38.P (⟨12, -1, -1, -1, -1, 0, ps T i, (tk T i).text⟩) ⟨by simp, P.psn, by simp; omega, by simp; omega, by simp; omega, .inl rfl⟩ C9.out).mono ?_
    rintro v w45 ⟨f45, ⟨n45, hn45, rfl, P45, hb45, c45⟩ | ⟨rfl, D45⟩⟩
    · have C45 : Hid _ := c45
      have Hn_45 : Hid _ := hn45
      clear c45 hn45
      have B45 := P38.go f45 P45
      have F45 := F38.trans f45 (fun _ _ h => h)
      clear r1 r2 r3 r4 r5 b1 b2 b3 x0 x1 x2 x3 x4 x5 x6 x7 xz xl xn1 xn2 xn3
      obtain ⟨r1, r2, r3, r4, r5⟩ := B45.P.r15
      obtain ⟨b1, b2, b3⟩ := B45.P.blt
      obtain ⟨x0, x1, x2, x3, x4, x5, x6, x7, xz, xl, xn1, xn2, xn3⟩ := B45.fx
      go_wp2_with fail
      go_ret
      exact .done F45 B45.P C45.out (by have := Hs.out; omega) (by have := Hn_45.out; simp; omega) (by have := Hn_45.out; omega)
    · obtain ⟨er45, q45, jd45, md45, h045, P45, hE45⟩ := D45
      have HE45 : Hid _ := hE45
      clear hE45
      have B45 := P38.go f45 P45
      have F45 := F38.trans f45 (fun _ _ h => h)
      clear r1 r2 r3 r4 r5 b1 b2 b3 x0 x1 x2 x3 x4 x5 x6 x7 xz xl xn1 xn2 xn3
      obtain ⟨r1, r2, r3, r4, r5⟩ := B45.P.r15
      obtain ⟨b1, b2, b3⟩ := B45.P.blt
      obtain ⟨x0, x1, x2, x3, x4, x5, x6, x7, xz, xl, xn1, xn2, xn3⟩ := B45.fx
      go_wp2_with fail
      go_ret
      exact .dead F45 ⟨_, _, _, _, h045, B45.P, HE45.out⟩
end
end Go.Proofs.Qxb6500277aGreat
