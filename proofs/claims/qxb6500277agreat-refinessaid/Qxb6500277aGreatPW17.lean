/- The real parser: functions, programs. -/
import Derived.Test.Qxb6500277aGreatPW16
namespace Go.Proofs.Qxb6500277aGreat
open Go Go.RowKit

section
variable {w w' : World} {A : Pa} {T : List Tok} {i j : Nat} {ns ms : List Nd} {fl : Bool} {er q : Int} {S : Nat → Prop}
set_option maxRecDepth 100000 in
set_option maxHeartbeats 8000000 in
theorem fnF (P : PM w A T i ns false 0 0) :
    Calls Tryz.prog 148 #[.pointer (some ⟨A.p, 0, none⟩)] w (PPost w A T i ns .fn) := by
  have F0 : Fr (PS A) w w := Fr.refl _ _
  have C0 : Hid (Im T (wnt T 3 i fun j => wnt T 1 j fun j2 => wnt T 17 j2 fun j3 => .call (.parL (-1) (-1)) j3 ns fun a j4 ms => wnt T 18 j4 fun j5 => typ T j5 fun t j6 => .call (.block 0) j6 ms fun b j7 ms => put ⟨0, a, b, -1, -1, t, ps T j, (tk T j).text⟩ j7 ms fin) (body T .fn i ns)) := Im.refl (T := T) (body T .fn i ns)
  go_enter Tryz.func148, Tryz.ntmps148
  obtain ⟨r1, r2, r3, r4, r5⟩ := P.r15
  obtain ⟨b1, b2, b3⟩ := P.blt
  go_wp2_with fail
  refine (takeC P 3 (by decide) C0.out).mono ?_
  rintro v w27 ⟨f27, ⟨k27, rfl, P27, hs27, c27⟩ | ⟨rfl, D27⟩⟩
  · have C27 : Hid _ := c27
    have Hk27 : Hid _ := k27
    clear c27 k27
    have F27 := F0.trans f27 (fun _ _ h => h)
    clear r1 r2 r3 r4 r5 b1 b2 b3
    obtain ⟨r1, r2, r3, r4, r5⟩ := P27.r15
    obtain ⟨b1, b2, b3⟩ := P27.blt
    go_wp2_with fail
    refine (atFp P27).mono ?_
    rintro v w28 ⟨rfl, f28⟩
    have P28 := P27.same f28
    have F28 := F27.trans f28 (fun _ _ h => h.elim)
    clear r1 r2 r3 r4 r5 b1 b2 b3
    obtain ⟨r1, r2, r3, r4, r5⟩ := P28.r15
    obtain ⟨b1, b2, b3⟩ := P28.blt
    go_wp2_with fail
    refine (freshF 0 (ps T (stp T i)) _).mono ?_
    rintro v w29 ⟨rfl, f29⟩
    have P29 := P28.same f29
    have F29 := F28.trans f29 (fun _ _ h => h.elim)
    unfold ndV fre
    clear r1 r2 r3 r4 r5 b1 b2 b3
    obtain ⟨r1, r2, r3, r4, r5⟩ := P29.r15
    obtain ⟨b1, b2, b3⟩ := P29.blt
    obtain ⟨q0, q1, q2, q3⟩ := P29.cellK
    obtain ⟨i1, i2⟩ := P29.ib
    have hlt : decide (((stp T i : Nat) : Int) < (T.length : Nat)) = true := decide_eq_true (by have := P29.lt; omega)
    have hl0 := P29.lt
    go_wp2_with fail
    refine wp_region_text (by kernel_rfl) (by kernel_rfl) ?_
    go_wp2_with fail
    refine ⟨by kernel_rfl, ?_⟩
    generalize hw30 : World.drew _ = w30
    have B30 : BM w30 A T (stp T i) ns false 0 0 w29.heap.size ⟨0, -1, -1, -1, -1, 0, ps T (stp T i), (tk T (stp T i)).text⟩ := by rw [← hw30]; exact (BM.new P29 ⟨0, -1, -1, -1, -1, 0, ps T (stp T i), (tk T (stp T i)).text⟩).same (Fr.refl _ _).drew
    have F30 : Fr (PS A) w w30 := by rw [← hw30]; exact (F29.alloc _).drew
    have Hn30 : w.heap.size ≤ w29.heap.size := F29.size
    clear hw30
    clear r1 r2 r3 r4 r5 b1 b2 b3 q0 q1 q2 q3 i1 i2 hlt hl0
    obtain ⟨r1, r2, r3, r4, r5⟩ := B30.P.r15
    obtain ⟨b1, b2, b3⟩ := B30.P.blt
    obtain ⟨x0, x1, x2, x3, x4, x5, x6, x7, xz, xl, xn1, xn2, xn3⟩ := B30.fx
    go_wp2_with fail
    refine (takeC B30.P 1 (by decide) C27.out).mono ?_
    rintro v w31 ⟨f31, ⟨k31, rfl, P31, hs31, c31⟩ | ⟨rfl, D31⟩⟩
    · have C31 : Hid _ := c31
      have Hk31 : Hid _ := k31
      clear c31 k31
      have B31 := B30.go f31 P31
      have F31 := F30.trans f31 (fun _ _ h => h)
      clear r1 r2 r3 r4 r5 b1 b2 b3 x0 x1 x2 x3 x4 x5 x6 x7 xz xl xn1 xn2 xn3
      obtain ⟨r1, r2, r3, r4, r5⟩ := B31.P.r15
      obtain ⟨b1, b2, b3⟩ := B31.P.blt
      obtain ⟨x0, x1, x2, x3, x4, x5, x6, x7, xz, xl, xn1, xn2, xn3⟩ := B31.fx
      go_wp2_with fail
      refine (takeC B31.P 17 (by decide) C31.out).mono ?_
      rintro v w32 ⟨f32, ⟨k32, rfl, P32, hs32, c32⟩ | ⟨rfl, D32⟩⟩
      · have C32 : Hid _ := c32
        have Hk32 : Hid _ := k32
        clear c32 k32
        have B32 := B31.go f32 P32
        have F32 := F31.trans f32 (fun _ _ h => h)
        clear r1 r2 r3 r4 r5 b1 b2 b3 x0 x1 x2 x3 x4 x5 x6 x7 xz xl xn1 xn2 xn3
        obtain ⟨r1, r2, r3, r4, r5⟩ := B32.P.r15
        obtain ⟨b1, b2, b3⟩ := B32.P.blt
        obtain ⟨x0, x1, x2, x3, x4, x5, x6, x7, xz, xl, xn1, xn2, xn3⟩ := B32.fx
        go_wp2_with fail
        refine (paramsF B32.P C32.out).mono ?_
        rintro v w33 ⟨f33, ⟨x33_, j33, m33, rfl, P33, hj33, hx33, hy33, hn33, c33⟩ | ⟨y33, rfl, hy1, hy2, D33⟩⟩
        · have C33 : Hid _ := c33
          have xb33 : x33_ < 200 := by have := P33.le; omega
          clear c33
          have B33 := B32.go f33 P33
          have F33 := F32.trans f33 (fun _ _ h => h)
          clear r1 r2 r3 r4 r5 b1 b2 b3 x0 x1 x2 x3 x4 x5 x6 x7 xz xl xn1 xn2 xn3
          obtain ⟨r1, r2, r3, r4, r5⟩ := B33.P.r15
          obtain ⟨b1, b2, b3⟩ := B33.P.blt
          obtain ⟨x0, x1, x2, x3, x4, x5, x6, x7, xz, xl, xn1, xn2, xn3⟩ := B33.fx
          go_wp2_with fail
          have B34 := B33.setA (x33_)
          have F34 := F33.setNew (b := w29.heap.size) (o := 1) (u := .int .i64 (x33_)) Hn30
          refine (takeC B34.P 18 (by decide) C33.out).mono ?_
          rintro v w35 ⟨f35, ⟨k35, rfl, P35, hs35, c35⟩ | ⟨rfl, D35⟩⟩
          · have C35 : Hid _ := c35
            have Hk35 : Hid _ := k35
            clear c35 k35
            have B35 := B34.go f35 P35
            have F35 := F34.trans f35 (fun _ _ h => h)
            clear r1 r2 r3 r4 r5 b1 b2 b3 x0 x1 x2 x3 x4 x5 x6 x7 xz xl xn1 xn2 xn3
            obtain ⟨r1, r2, r3, r4, r5⟩ := B35.P.r15
            obtain ⟨b1, b2, b3⟩ := B35.P.blt
            obtain ⟨x0, x1, x2, x3, x4, x5, x6, x7, xz, xl, xn1, xn2, xn3⟩ := B35.fx
            go_wp2_with fail
            refine (typC B35.P C35.out).mono ?_
            rintro v w36 ⟨f36, ⟨t36, j36, rfl, P36, hj36, ht36, hu36, c36⟩ | ⟨rfl, D36⟩⟩
            · have C36 : Hid _ := c36
              clear c36
              have B36 := B35.go f36 P36
              have F36 := F35.trans f36 (fun _ _ h => h)
              clear r1 r2 r3 r4 r5 b1 b2 b3 x0 x1 x2 x3 x4 x5 x6 x7 xz xl xn1 xn2 xn3
              obtain ⟨r1, r2, r3, r4, r5⟩ := B36.P.r15
              obtain ⟨b1, b2, b3⟩ := B36.P.blt
              obtain ⟨x0, x1, x2, x3, x4, x5, x6, x7, xz, xl, xn1, xn2, xn3⟩ := B36.fx
              go_wp2_with fail
              have B37 := B36.setV (t36)
              have F37 := F36.setNew (b := w29.heap.size) (o := 5) (u := .int .i64 (t36)) Hn30
              refine (((bkAll T.length).1 _ A _ _ 0 8 (by omega) B37.P (by omega) (by decide)).mono fun _ _ h => h.use C36.out).mono ?_
              rintro v w38 ⟨f38, ⟨x38_, j38, m38, rfl, P38, hj38, hx38, hn38, c38⟩ | ⟨rfl, D38⟩⟩
              · have C38 : Hid _ := c38
                have Hx38 : Hid _ := hx38
                have xb38 : x38_ < 200 := by have := P38.le; omega
                have xc38 : -1 < x38_ := by omega
                clear c38 hx38
                have B38 := B37.go f38 P38
                have F38 := F37.trans f38 (fun _ _ h => h)
                clear r1 r2 r3 r4 r5 b1 b2 b3 x0 x1 x2 x3 x4 x5 x6 x7 xz xl xn1 xn2 xn3
                obtain ⟨r1, r2, r3, r4, r5⟩ := B38.P.r15
                obtain ⟨b1, b2, b3⟩ := B38.P.blt
                obtain ⟨x0, x1, x2, x3, x4, x5, x6, x7, xz, xl, xn1, xn2, xn3⟩ := B38.fx
                go_wp2_with fail
                have B39 := B38.setB (x38_)
                have F39 := F38.setNew (b := w29.heap.size) (o := 2) (u := .int .i64 (x38_)) Hn30
                refine (addC B39.P (⟨0, x33_, x38_, -1, -1, t36, ps T (stp T i), (tk T (stp T i)).text⟩) ⟨by simp, P29.psn, by have := Hx38.out; simp; omega, by have := Hx38.out; simp; omega, by simp; omega, .inl rfl⟩ C38.out).mono ?_
                rintro v w40 ⟨f40, ⟨n40, hn40, rfl, P40, hb40, c40⟩ | ⟨rfl, D40⟩⟩
                · have C40 : Hid _ := c40
                  have Hn_40 : Hid _ := hn40
                  clear c40 hn40
                  have B40 := B39.go f40 P40
                  have F40 := F39.trans f40 (fun _ _ h => h)
                  clear r1 r2 r3 r4 r5 b1 b2 b3 x0 x1 x2 x3 x4 x5 x6 x7 xz xl xn1 xn2 xn3
                  obtain ⟨r1, r2, r3, r4, r5⟩ := B40.P.r15
                  obtain ⟨b1, b2, b3⟩ := B40.P.blt
                  obtain ⟨x0, x1, x2, x3, x4, x5, x6, x7, xz, xl, xn1, xn2, xn3⟩ := B40.fx
                  go_wp2_with fail
                  go_ret
                  exact .done F40 B40.P C40.out (by omega) (by have := Hn_40.out; simp; omega) (by have := Hn_40.out; have := Hx38.out; omega)
                · obtain ⟨er40, q40, jd40, md40, h040, P40, hE40⟩ := D40
                  have HE40 : Hid _ := hE40
                  clear hE40
                  have B40 := B39.go f40 P40
                  have F40 := F39.trans f40 (fun _ _ h => h)
                  clear r1 r2 r3 r4 r5 b1 b2 b3 x0 x1 x2 x3 x4 x5 x6 x7 xz xl xn1 xn2 xn3
                  obtain ⟨r1, r2, r3, r4, r5⟩ := B40.P.r15
                  obtain ⟨b1, b2, b3⟩ := B40.P.blt
                  obtain ⟨x0, x1, x2, x3, x4, x5, x6, x7, xz, xl, xn1, xn2, xn3⟩ := B40.fx
                  go_wp2_with fail
                  go_ret
                  exact .dead F40 ⟨_, _, _, _, h040, B40.P, HE40.out⟩
              · obtain ⟨er38, q38, jd38, md38, h038, P38, hE38⟩ := D38
                have HE38 : Hid _ := hE38
                clear hE38
                have B38 := B37.go f38 P38
                have F38 := F37.trans f38 (fun _ _ h => h)
                clear r1 r2 r3 r4 r5 b1 b2 b3 x0 x1 x2 x3 x4 x5 x6 x7 xz xl xn1 xn2 xn3
                obtain ⟨r1, r2, r3, r4, r5⟩ := B38.P.r15
                obtain ⟨b1, b2, b3⟩ := B38.P.blt
                obtain ⟨x0, x1, x2, x3, x4, x5, x6, x7, xz, xl, xn1, xn2, xn3⟩ := B38.fx
                go_wp2_with fail
                have B41 := B38.setB (-1)
                have F41 := F38.setNew (b := w29.heap.size) (o := 2) (u := .int .i64 (-1)) Hn30
                refine (add_failed B41.P (⟨0, x33_, -1, -1, -1, t36, ps T (stp T i), (tk T (stp T i)).text⟩)).mono ?_
                rintro v w42 ⟨rfl, f42⟩
                have P42 := B41.same f42
                have F42 := F41.trans f42 (fun _ _ h => h.elim)
                clear r1 r2 r3 r4 r5 b1 b2 b3 x0 x1 x2 x3 x4 x5 x6 x7 xz xl xn1 xn2 xn3
                obtain ⟨r1, r2, r3, r4, r5⟩ := P42.P.r15
                obtain ⟨b1, b2, b3⟩ := P42.P.blt
                obtain ⟨x0, x1, x2, x3, x4, x5, x6, x7, xz, xl, xn1, xn2, xn3⟩ := P42.fx
                go_wp2_with fail
                go_ret
                exact .dead F42 ⟨_, _, _, _, h038, P42.P, HE38.out⟩
            · obtain ⟨er36, q36, jd36, md36, h036, P36, hE36⟩ := D36
              have HE36 : Hid _ := hE36
              clear hE36
              have B36 := B35.go f36 P36
              have F36 := F35.trans f36 (fun _ _ h => h)
              clear r1 r2 r3 r4 r5 b1 b2 b3 x0 x1 x2 x3 x4 x5 x6 x7 xz xl xn1 xn2 xn3
              obtain ⟨r1, r2, r3, r4, r5⟩ := B36.P.r15
              obtain ⟨b1, b2, b3⟩ := B36.P.blt
              obtain ⟨x0, x1, x2, x3, x4, x5, x6, x7, xz, xl, xn1, xn2, xn3⟩ := B36.fx
              go_wp2_with fail
              have B43 := B36.setV (-1)
              have F43 := F36.setNew (b := w29.heap.size) (o := 5) (u := .int .i64 (-1)) Hn30
              refine (block_failed B43.P 8).mono ?_
              rintro v w44 ⟨rfl, e44⟩
              subst w44
              go_wp2_with fail
              have B45 := B43.setB (-1)
              have F45 := F43.setNew (b := w29.heap.size) (o := 2) (u := .int .i64 (-1)) Hn30
              refine (add_failed B45.P (⟨0, x33_, -1, -1, -1, -1, ps T (stp T i), (tk T (stp T i)).text⟩)).mono ?_
              rintro v w46 ⟨rfl, f46⟩
              have P46 := B45.same f46
              have F46 := F45.trans f46 (fun _ _ h => h.elim)
              clear r1 r2 r3 r4 r5 b1 b2 b3 x0 x1 x2 x3 x4 x5 x6 x7 xz xl xn1 xn2 xn3
              obtain ⟨r1, r2, r3, r4, r5⟩ := P46.P.r15
              obtain ⟨b1, b2, b3⟩ := P46.P.blt
              obtain ⟨x0, x1, x2, x3, x4, x5, x6, x7, xz, xl, xn1, xn2, xn3⟩ := P46.fx
              go_wp2_with fail
              go_ret
              exact .dead F46 ⟨_, _, _, _, h036, P46.P, HE36.out⟩
          · obtain ⟨er35, q35, jd35, md35, h035, P35, hE35⟩ := D35
            have HE35 : Hid _ := hE35
            clear hE35
            have B35 := B34.go f35 P35
            have F35 := F34.trans f35 (fun _ _ h => h)
            clear r1 r2 r3 r4 r5 b1 b2 b3 x0 x1 x2 x3 x4 x5 x6 x7 xz xl xn1 xn2 xn3
            obtain ⟨r1, r2, r3, r4, r5⟩ := B35.P.r15
            obtain ⟨b1, b2, b3⟩ := B35.P.blt
            obtain ⟨x0, x1, x2, x3, x4, x5, x6, x7, xz, xl, xn1, xn2, xn3⟩ := B35.fx
            go_wp2_with fail
            go_ret
            exact .dead F35 ⟨_, _, _, _, h035, B35.P, HE35.out⟩
        · obtain ⟨er33, q33, jd33, md33, h033, P33, hE33⟩ := D33
          have HE33 : Hid _ := hE33
          clear hE33
          have B33 := B32.go f33 P33
          have F33 := F32.trans f33 (fun _ _ h => h)
          clear r1 r2 r3 r4 r5 b1 b2 b3 x0 x1 x2 x3 x4 x5 x6 x7 xz xl xn1 xn2 xn3
          obtain ⟨r1, r2, r3, r4, r5⟩ := B33.P.r15
          obtain ⟨b1, b2, b3⟩ := B33.P.blt
          obtain ⟨x0, x1, x2, x3, x4, x5, x6, x7, xz, xl, xn1, xn2, xn3⟩ := B33.fx
          go_wp2_with fail
          have B47 := B33.setA (y33)
          have F47 := F33.setNew (b := w29.heap.size) (o := 1) (u := .int .i64 (y33)) Hn30
          refine (take_failed B47.P 18).mono ?_
          rintro v w48 ⟨rfl, e48⟩
          subst w48
          go_wp2_with fail
          go_ret
          exact .dead F47 ⟨_, _, _, _, h033, B47.P, HE33.out⟩
      · obtain ⟨er32, q32, jd32, md32, h032, P32, hE32⟩ := D32
        have HE32 : Hid _ := hE32
        clear hE32
        have B32 := B31.go f32 P32
        have F32 := F31.trans f32 (fun _ _ h => h)
        clear r1 r2 r3 r4 r5 b1 b2 b3 x0 x1 x2 x3 x4 x5 x6 x7 xz xl xn1 xn2 xn3
        obtain ⟨r1, r2, r3, r4, r5⟩ := B32.P.r15
        obtain ⟨b1, b2, b3⟩ := B32.P.blt
        obtain ⟨x0, x1, x2, x3, x4, x5, x6, x7, xz, xl, xn1, xn2, xn3⟩ := B32.fx
        go_wp2_with fail
        go_ret
        exact .dead F32 ⟨_, _, _, _, h032, B32.P, HE32.out⟩
    · obtain ⟨er31, q31, jd31, md31, h031, P31, hE31⟩ := D31
      have HE31 : Hid _ := hE31
      clear hE31
      have B31 := B30.go f31 P31
      have F31 := F30.trans f31 (fun _ _ h => h)
      clear r1 r2 r3 r4 r5 b1 b2 b3 x0 x1 x2 x3 x4 x5 x6 x7 xz xl xn1 xn2 xn3
      obtain ⟨r1, r2, r3, r4, r5⟩ := B31.P.r15
      obtain ⟨b1, b2, b3⟩ := B31.P.blt
      obtain ⟨x0, x1, x2, x3, x4, x5, x6, x7, xz, xl, xn1, xn2, xn3⟩ := B31.fx
      go_wp2_with fail
      go_ret
      exact .dead F31 ⟨_, _, _, _, h031, B31.P, HE31.out⟩
  · obtain ⟨er27, q27, jd27, md27, h027, P27, hE27⟩ := D27
    have HE27 : Hid _ := hE27
    clear hE27
    have F27 := F0.trans f27 (fun _ _ h => h)
    clear r1 r2 r3 r4 r5 b1 b2 b3
    obtain ⟨r1, r2, r3, r4, r5⟩ := P27.r15
    obtain ⟨b1, b2, b3⟩ := P27.blt
    go_wp2_with fail
    go_ret
    exact .dead F27 ⟨_, _, _, _, h027, P27, HE27.out⟩
set_option maxRecDepth 100000 in
set_option maxHeartbeats 8000000 in
theorem progF (P : PM w A T i ns false 0 0) {k : Int → Nat → List Nd → Mo} {M : Mo} (C : Im T (.call (.prog (-1) (-1)) i ns k) M) :
    Calls Tryz.prog 84 #[.pointer (some ⟨A.p, 0, none⟩)] w fun e w' => Fr (PS A) w w' ∧
    ((∃ (x : Int) (j : Nat) (ms : List Nd), e = .returned (.int .i64 x) ∧ PM w' A T j ms false 0 0 ∧ kd T j = 0 ∧ x < ms.length ∧ -1 ≤ x ∧ Im T (k x j ms) M) ∨ (∃ x : Int, e = .returned (.int .i64 x) ∧ Dd w' A T M)) := by
  have HCC : Hid _ := Im.call2 C
  clear C
  go_enter Tryz.func84, Tryz.ntmps84
  go_wp2_with fail
  go_loopg [3, 4] (T.length + 1) (fun gk fv lv wr => ∃ f la : Int, fv = .int .i64 f ∧ lv = .int .i64 la ∧ Fr (PS A) w wr ∧ -2 < f ∧ f < 200 ∧ -2 < la ∧ la < 200 ∧ (Dd wr A T (body T (.prog (-1) (-1)) i ns) ∨ ∃ j ms, PM wr A T j ms false 0 0 ∧ T.length < j + gk ∧ Ch ms.length f la ∧ Im T (body T (.prog f la) j ms) (body T (.prog (-1) (-1)) i ns)))
  case atStart => exact ⟨-1, -1, rfl, rfl, Fr.refl _ _, by decide, by decide, by decide, by decide, .inr ⟨_, _, P, by omega, .inl ⟨rfl, rfl⟩, .refl _⟩⟩
  case round =>
    clear P
    obtain ⟨f, la, rfl, rfl, FJ, fb1, fb2, lb1, lb2, D | ⟨j, ms, Pj, hg, hch, hc⟩⟩ := hrel
    · obtain ⟨er0, q0, jd0, md0, h00, Pj, hE0⟩ := D
      have HE0 : Hid _ := hE0
      clear hE0
      obtain ⟨r1, r2, r3, r4, r5⟩ := Pj.r15
      obtain ⟨b1, b2, b3⟩ := Pj.blt
      go_wp2_with fail
      go_ret
      exact ⟨FJ, .inr ⟨_, rfl, _, _, _, _, h00, Pj, HCC.out.2 _ _ HE0.out⟩⟩
    · have Hc : Hid _ := hc
      have Hg : Hid _ := hg
      have Hh : Hid _ := hch
      clear hc hg hch
      obtain ⟨r1, r2, r3, r4, r5⟩ := Pj.r15
      obtain ⟨b1, b2, b3⟩ := Pj.blt
      go_wp2_with fail
      refine (kindF Pj).mono ?_
      rintro v w49 ⟨rfl, f49⟩
      have P49 := Pj.same f49
      have F49 := FJ.trans f49 (fun _ _ h => h.elim)
      clear r1 r2 r3 r4 r5 b1 b2 b3
      obtain ⟨r1, r2, r3, r4, r5⟩ := P49.r15
      obtain ⟨b1, b2, b3⟩ := P49.blt
      by_cases k0 : kd T j = 0
      · have hb : (kd T j != 0) = false := by simp [k0]
        have C1 : Hid _ := Im.of (T := T) Hc.out (m := body T (.prog f la) j ms) (if_pos k0)
        have Hk : Hid _ := k0
        clear k0
        go_wp2_with fail
        go_ret
        exact ⟨F49, .inl ⟨_, _, _, rfl, P49, Hk.out, by have := Ch.b Hh.out Pj.le; omega, by omega, HCC.out.1 _ _ _ C1.out⟩⟩
      · have hb : (kd T j != 0) = true := by simpa using k0
        have C1 : Hid _ := Im.of (T := T) Hc.out (m := body T (.prog f la) j ms) (if_neg k0)
        clear k0
        go_wp2_with fail
        refine ((fnF P49).mono fun _ _ h => h.use C1.out).mono ?_
        rintro v w50 ⟨f50, ⟨x50_, j50, m50, rfl, P50, hj50, hx50, hn50, c50⟩ | ⟨rfl, D50⟩⟩
        · have C50 : Hid _ := c50
          have Hx50 : Hid _ := hx50
          have xb50 : x50_ < 200 := by have := P50.le; omega
          have xc50 : -1 < x50_ := by omega
          clear c50 hx50
          have F50 := F49.trans f50 (fun _ _ h => h)
          clear r1 r2 r3 r4 r5 b1 b2 b3
          obtain ⟨r1, r2, r3, r4, r5⟩ := P50.r15
          obtain ⟨b1, b2, b3⟩ := P50.blt
          have HH : Hid (Ch m50.length f la) := Ch.mono Hh.out (by have := Hx50.out; omega)
          have hlx : la < x50_ := by have := Ch.b Hh.out Pj.le; have := Hx50.out; omega
          have CG : Hid _ := Im.grow C50.out
          go_wp2_with fail
          refine (hangL P50 HH.out hlx (by have := Hx50.out; omega)).mono ?_
          rintro v w51 ⟨rfl, P51, f51⟩
          have F51 := F50.trans f51 (fun _ _ h => h)
          clear r1 r2 r3 r4 r5 b1 b2 b3
          obtain ⟨r1, r2, r3, r4, r5⟩ := P51.r15
          obtain ⟨b1, b2, b3⟩ := P51.blt
          by_cases hf : f < 0
          · have hfb : decide (f < 0) = true := decide_eq_true hf
            go_wp2_with fail
            go_roundg (gk - 1)
            case measure => have := Hg.out; have := P50.lt; omega
            case rel => exact ⟨x50_, x50_, rfl, rfl, F51, by omega, by omega, by omega, by omega, .inr ⟨_, _, P51, by have := Hg.out; omega, by rw [lk_len]; have := Ch.next HH.out (x := x50_) (by omega) (by have := Hx50.out; omega); rw [if_pos (by omega)] at this; exact this, by have := Im.jump CG.out; rw [if_pos (by omega)] at this; exact this⟩⟩
          · have hfb : decide (f < 0) = false := decide_eq_false hf
            go_wp2_with fail
            go_roundg (gk - 1)
            case measure => have := Hg.out; have := P50.lt; omega
            case rel => exact ⟨f, x50_, rfl, rfl, F51, by omega, by omega, by omega, by omega, .inr ⟨_, _, P51, by have := Hg.out; omega, by rw [lk_len]; have := Ch.next HH.out (x := x50_) (by omega) (by have := Hx50.out; omega); rw [if_neg (by omega)] at this; exact this, by have := Im.jump CG.out; rw [if_neg (by omega)] at this; exact this⟩⟩
        · obtain ⟨er50, q50, jd50, md50, h050, P50, hE50⟩ := D50
          have HE50 : Hid _ := hE50
          clear hE50
          have F50 := F49.trans f50 (fun _ _ h => h)
          clear r1 r2 r3 r4 r5 b1 b2 b3
          obtain ⟨r1, r2, r3, r4, r5⟩ := P50.r15
          obtain ⟨b1, b2, b3⟩ := P50.blt
          go_wp2_with fail
          refine (hang_no _ (.inl (by decide)) _).mono ?_
          rintro v w52 ⟨rfl, e52⟩
          subst w52
          by_cases hf : f < 0
          · have hfb : decide (f < 0) = true := decide_eq_true hf
            go_wp2_with fail
            go_roundg 0
            case measure => have := Hg.out; have := Pj.lt; omega
            case rel => exact ⟨-1, -1, rfl, rfl, F50, by omega, by omega, by omega, by omega, .inl ⟨_, _, _, _, h050, P50, HE50.out⟩⟩
          · have hfb : decide (f < 0) = false := decide_eq_false hf
            go_wp2_with fail
            go_roundg 0
            case measure => have := Hg.out; have := Pj.lt; omega
            case rel => exact ⟨f, -1, rfl, rfl, F50, by omega, by omega, by omega, by omega, .inl ⟨_, _, _, _, h050, P50, HE50.out⟩⟩
end
end Go.Proofs.Qxb6500277aGreat
