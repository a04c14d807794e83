/- The real parser: plain. -/
import Derived.Test.Qxb6500277aGreatPW11
namespace Go.Proofs.Qxb6500277aGreat
open Go Go.RowKit

section
variable {w w' : World} {A : Pa} {T : List Tok} {i j : Nat} {ns ms : List Nd} {fl : Bool} {er q : Int} {S : Nat → Prop}
theorem plain_y {x : Nat} (h1 : kd T j = 25) (h2 : (ms[x]?.getD nd0).kind = 12 ∨ (ms[x]?.getD nd0).kind = 14) {M : Mo} {a b : Mo} (C : Im T (if kd T j = 25 ∧ ((ms[(x : Int).toNat]?.getD nd0).kind = 12 ∨ (ms[(x : Int).toNat]?.getD nd0).kind = 14) then a else b) M) : Im T a M := by
  rw [if_pos ⟨h1, by simpa using h2⟩] at C; exact C
theorem plain_n {x : Nat} (h : ¬ (kd T j = 25 ∧ ((ms[x]?.getD nd0).kind = 12 ∨ (ms[x]?.getD nd0).kind = 14))) {M : Mo} {a b : Mo} (C : Im T (if kd T j = 25 ∧ ((ms[(x : Int).toNat]?.getD nd0).kind = 12 ∨ (ms[(x : Int).toNat]?.getD nd0).kind = 14) then a else b) M) : Im T b M := by
  rw [if_neg (by simpa using h)] at C; exact C
set_option maxRecDepth 100000 in
set_option maxHeartbeats 8000000 in
theorem plainF (P : PM w A T i ns false 0 0) (d : Nat) (hd : d ≤ 8) {l : Int} (hl : l = 8 - (d : Int)) {M : Mo}
    (C : Im T (.call (.lev 1 d) i ns fun x j ms =>
      if kd T j = 25 ∧ ((ms[x.toNat]?.getD nd0).kind = 12 ∨ (ms[x.toNat]?.getD nd0).kind = 14) then .call (.lev 1 d) (stp T j) ms fun y j2 ms => wnt T 24 j2 fun j3 => put ⟨4, x, y, -1, -1, 0, ps T j, ⟨#[]⟩⟩ j3 ms fin
      else wnt T 24 j fun j3 => put ⟨9, x, -1, -1, -1, 0, (ms[x.toNat]?.getD nd0).pos, ⟨#[]⟩⟩ j3 ms fin) M) :
    Calls Tryz.prog 235 #[.pointer (some ⟨A.p, 0, none⟩), .int .i64 l] w (MPo w A T M i ns) := by
  have Hl : Hid _ := hl
  have l1 : -1 < l := by omega
  have l2 : l < 9 := by omega
  clear hl
  have F0 : Fr (PS A) w w := Fr.refl _ _
  have C0 : Hid _ := C
  clear C
  go_enter Tryz.func235, Tryz.ntmps235
  obtain ⟨r1, r2, r3, r4, r5⟩ := P.r15
  obtain ⟨b1, b2, b3⟩ := P.blt
  go_wp2_with fail
  refine (exprC P hd Hl.out C0.out).mono ?_
  rintro v w17 ⟨f17, ⟨x, j, ms, rfl, P17, hj, hx, hn, c17⟩ | ⟨rfl, D17⟩⟩
  · obtain ⟨x, rfl⟩ : ∃ z : Nat, x = z := ⟨x.toNat, by omega⟩
    have C17 : Hid _ := c17
    have hxl : x < ms.length := by omega
    have hxb : x < 200 := by have := P17.le; omega
    have Hx : Hid _ := hx
    clear c17 hx
    have F17 := F0.trans f17 (fun _ _ h => h)
    clear r1 r2 r3 r4 r5 b1 b2 b3
    obtain ⟨r1, r2, r3, r4, r5⟩ := P17.r15
    obtain ⟨b1, b2, b3⟩ := P17.blt
    obtain ⟨y0, y6, yp⟩ := P17.nodeK hxl
    obtain ⟨pp, hpp⟩ : ∃ z, (ms[x]?.getD nd0).pos = z := ⟨_, rfl⟩
    obtain ⟨kk, hkk⟩ : ∃ z, (ms[x]?.getD nd0).kind = z := ⟨_, rfl⟩
    rw [hpp] at y6 yp
    rw [hkk] at y0
    have Hpp : Hid _ := hpp
    have Hkk : Hid _ := hkk
    clear hpp hkk
    go_wp2_with fail
    refine (freshF 9 (pp) _).mono ?_
    rintro v w18 ⟨rfl, f18⟩
    have P18 := P17.same f18
    have F18 := F17.trans f18 (fun _ _ h => h.elim)
    unfold ndV fre
    clear r1 r2 r3 r4 r5 b1 b2 b3 y0 y6
    obtain ⟨r1, r2, r3, r4, r5⟩ := P18.r15
    obtain ⟨b1, b2, b3⟩ := P18.blt
    go_wp2_with fail
    have B18 := BM.new P18 (⟨9, x, -1, -1, -1, 0, pp, ⟨#[]⟩⟩)
    have G18 := F18.alloc (boxN (⟨9, x, -1, -1, -1, 0, pp, ⟨#[]⟩⟩))
    have Hn18 : w.heap.size ≤ w18.heap.size := F18.size
    refine (kindF B18.P).mono ?_
    rintro v w19 ⟨rfl, f19⟩
    have P19 := B18.same f19
    have F19 := G18.trans f19 (fun _ _ h => h.elim)
    clear r1 r2 r3 r4 r5 b1 b2 b3
    obtain ⟨r1, r2, r3, r4, r5⟩ := P19.P.r15
    obtain ⟨b1, b2, b3⟩ := P19.P.blt
    obtain ⟨x0, x1, x2, x3, x4, x5, x6, x7, xz, xl, xn1, xn2, xn3⟩ := P19.fx
    obtain ⟨y0, y6, _⟩ := P19.P.nodeK hxl
    rw [Hkk.out] at y0
    rw [Hpp.out] at y6
    by_cases hc : kd T j = 25 ∧ (kk = 12 ∨ kk = 14)
    · have z25 : (kd T j == 25) = true := by simp [hc.1]
      have Hs : Hid _ := P19.P.nxt (by have := hc.1; omega)
      have CY : Hid _ := plain_y hc.1 (by rw [Hkk.out]; exact hc.2) C17.out
      have hkc : (kk == 12) = true ∨ ((kk == 12) = false ∧ (kk == 14) = true) := by
        rcases hc.2 with h | h <;> simp [h]
      clear hc
      rcases hkc with z12 | ⟨z12, z14⟩
      all_goals
        go_wp2_with fail
        refine (atFp P19.P).mono ?_
        rintro v w20 ⟨rfl, f20⟩
        have P20 := P19.same f20
        have F20 := F19.trans f20 (fun _ _ h => h.elim)
        clear r1 r2 r3 r4 r5 b1 b2 b3 x0 x1 x2 x3 x4 x5 x6 x7 xz xl xn1 xn2 xn3 y0 y6
        obtain ⟨r1, r2, r3, r4, r5⟩ := P20.P.r15
        obtain ⟨b1, b2, b3⟩ := P20.P.blt
        obtain ⟨x0, x1, x2, x3, x4, x5, x6, x7, xz, xl, xn1, xn2, xn3⟩ := P20.fx
        go_wp2_with fail
        have B21 := P20.setK (4)
        have F21 := F20.setNew (b := w18.heap.size) (o := 0) (u := .int .i64 (4)) Hn18
        have B22 := B21.setP (ps T j)
        have F22 := F21.setNew (b := w18.heap.size) (o := 6) (u := .int .i64 (ps T j)) Hn18
        refine (stepFp B22.P).mono ?_
        rintro v w23 ⟨rfl, P23, f23⟩
        have B23 := B22.go f23 P23
        have F23 := F22.trans f23 (fun _ _ h => h)
        clear r1 r2 r3 r4 r5 b1 b2 b3 x0 x1 x2 x3 x4 x5 x6 x7 xz xl xn1 xn2 xn3
        obtain ⟨r1, r2, r3, r4, r5⟩ := B23.P.r15
        obtain ⟨b1, b2, b3⟩ := B23.P.blt
        obtain ⟨x0, x1, x2, x3, x4, x5, x6, x7, xz, xl, xn1, xn2, xn3⟩ := B23.fx
        go_wp2_with fail
        refine (exprC B23.P hd Hl.out CY.out).mono ?_
        rintro v w24 ⟨f24, ⟨x24_, j24, m24, rfl, P24, hj24, hx24, hn24, c24⟩ | ⟨rfl, D24⟩⟩
        · have C24 : Hid _ := c24
          have Hx24 : Hid _ := hx24
          have xb24 : x24_ < 200 := by have := P24.le; omega
          have xc24 : -1 < x24_ := by omega
          clear c24 hx24
          have B24 := B23.go f24 P24
          have F24 := F23.trans f24 (fun _ _ h => h)
          clear r1 r2 r3 r4 r5 b1 b2 b3 x0 x1 x2 x3 x4 x5 x6 x7 xz xl xn1 xn2 xn3
          obtain ⟨r1, r2, r3, r4, r5⟩ := B24.P.r15
          obtain ⟨b1, b2, b3⟩ := B24.P.blt
          obtain ⟨x0, x1, x2, x3, x4, x5, x6, x7, xz, xl, xn1, xn2, xn3⟩ := B24.fx
          go_wp2_with fail
          have B25 := B24.setB (x24_)
          have F25 := F24.setNew (b := w18.heap.size) (o := 2) (u := .int .i64 (x24_)) Hn18
          refine (takeC B25.P 24 (by decide) C24.out).mono ?_
          rintro v w26 ⟨f26, ⟨k26, rfl, P26, hs26, c26⟩ | ⟨rfl, D26⟩⟩
          · have C26 : Hid _ := c26
            have Hk26 : Hid _ := k26
            clear c26 k26
            have B26 := B25.go f26 P26
            have F26 := F25.trans f26 (fun _ _ h => h)
            clear r1 r2 r3 r4 r5 b1 b2 b3 x0 x1 x2 x3 x4 x5 x6 x7 xz xl xn1 xn2 xn3
            obtain ⟨r1, r2, r3, r4, r5⟩ := B26.P.r15
            obtain ⟨b1, b2, b3⟩ := B26.P.blt
            obtain ⟨x0, x1, x2, x3, x4, x5, x6, x7, xz, xl, xn1, xn2, xn3⟩ := B26.fx
            go_wp2_with fail
            refine (addC B26.P (⟨4, x, x24_, -1, -1, 0, ps T j, ⟨#[]⟩⟩) ⟨by simp, P17.psn, by have := Hx.out; have := Hx24.out; simp; omega, by have := Hx24.out; simp; omega, by simp; omega, .inl rfl⟩ C26.out).mono ?_
            rintro v w27 ⟨f27, ⟨n27, hn27, rfl, P27, hb27, c27⟩ | ⟨rfl, D27⟩⟩
            · have C27 : Hid _ := c27
              have Hn_27 : Hid _ := hn27
              clear c27 hn27
              have B27 := B26.go f27 P27
              have F27 := F26.trans f27 (fun _ _ h => h)
              clear r1 r2 r3 r4 r5 b1 b2 b3 x0 x1 x2 x3 x4 x5 x6 x7 xz xl xn1 xn2 xn3
              obtain ⟨r1, r2, r3, r4, r5⟩ := B27.P.r15
              obtain ⟨b1, b2, b3⟩ := B27.P.blt
              obtain ⟨x0, x1, x2, x3, x4, x5, x6, x7, xz, xl, xn1, xn2, xn3⟩ := B27.fx
              go_wp2_with fail
              go_ret
              exact .done F27 B27.P C27.out (by have := Hs.out; omega) (by have := Hn_27.out; simp; omega) (by have := Hn_27.out; have := Hx.out; have := Hx24.out; omega)
            · obtain ⟨er27, q27, jd27, md27, h027, P27, hE27⟩ := D27
              have HE27 : Hid _ := hE27
              clear hE27
              have B27 := B26.go f27 P27
              have F27 := F26.trans f27 (fun _ _ h => h)
              clear r1 r2 r3 r4 r5 b1 b2 b3 x0 x1 x2 x3 x4 x5 x6 x7 xz xl xn1 xn2 xn3
              obtain ⟨r1, r2, r3, r4, r5⟩ := B27.P.r15
              obtain ⟨b1, b2, b3⟩ := B27.P.blt
              obtain ⟨x0, x1, x2, x3, x4, x5, x6, x7, xz, xl, xn1, xn2, xn3⟩ := B27.fx
              go_wp2_with fail
              go_ret
              exact .dead F27 ⟨_, _, _, _, h027, B27.P, HE27.out⟩
          · obtain ⟨er26, q26, jd26, md26, h026, P26, hE26⟩ := D26
            have HE26 : Hid _ := hE26
            clear hE26
            have B26 := B25.go f26 P26
            have F26 := F25.trans f26 (fun _ _ h => h)
            clear r1 r2 r3 r4 r5 b1 b2 b3 x0 x1 x2 x3 x4 x5 x6 x7 xz xl xn1 xn2 xn3
            obtain ⟨r1, r2, r3, r4, r5⟩ := B26.P.r15
            obtain ⟨b1, b2, b3⟩ := B26.P.blt
            obtain ⟨x0, x1, x2, x3, x4, x5, x6, x7, xz, xl, xn1, xn2, xn3⟩ := B26.fx
            go_wp2_with fail
            go_ret
            exact .dead F26 ⟨_, _, _, _, h026, B26.P, HE26.out⟩
        · obtain ⟨er24, q24, jd24, md24, h024, P24, hE24⟩ := D24
          have HE24 : Hid _ := hE24
          clear hE24
          have B24 := B23.go f24 P24
          have F24 := F23.trans f24 (fun _ _ h => h)
          clear r1 r2 r3 r4 r5 b1 b2 b3 x0 x1 x2 x3 x4 x5 x6 x7 xz xl xn1 xn2 xn3
          obtain ⟨r1, r2, r3, r4, r5⟩ := B24.P.r15
          obtain ⟨b1, b2, b3⟩ := B24.P.blt
          obtain ⟨x0, x1, x2, x3, x4, x5, x6, x7, xz, xl, xn1, xn2, xn3⟩ := B24.fx
          go_wp2_with fail
          have B28 := B24.setB (-1)
          have F28 := F24.setNew (b := w18.heap.size) (o := 2) (u := .int .i64 (-1)) Hn18
          refine (take_failed B28.P 24).mono ?_
          rintro v w29 ⟨rfl, e29⟩
          subst w29
          go_wp2_with fail
          go_ret
          exact .dead F28 ⟨_, _, _, _, h024, B28.P, HE24.out⟩
    · have CN : Hid _ := plain_n (by rw [Hkk.out]; exact hc) C17.out
      have hkc : (kd T j == 25) = false ∨ ((kd T j == 25) = true ∧ (kk == 12) = false ∧ (kk == 14) = false) := by
        by_cases h : kd T j = 25
        · right; simp [h] at hc ⊢; exact hc
        · left; simpa using h
      clear hc
      rcases hkc with z25 | ⟨z25, z12, z14⟩
      all_goals
        go_wp2_with fail
        refine (takeC P19.P 24 (by decide) CN.out).mono ?_
        rintro v w30 ⟨f30, ⟨k30, rfl, P30, hs30, c30⟩ | ⟨rfl, D30⟩⟩
        · have C30 : Hid _ := c30
          have Hk30 : Hid _ := k30
          clear c30 k30
          have B30 := P19.go f30 P30
          have F30 := F19.trans f30 (fun _ _ h => h)
          clear r1 r2 r3 r4 r5 b1 b2 b3 x0 x1 x2 x3 x4 x5 x6 x7 xz xl xn1 xn2 xn3 y0 y6
          obtain ⟨r1, r2, r3, r4, r5⟩ := B30.P.r15
          obtain ⟨b1, b2, b3⟩ := B30.P.blt
          obtain ⟨x0, x1, x2, x3, x4, x5, x6, x7, xz, xl, xn1, xn2, xn3⟩ := B30.fx
          go_wp2_with fail
          have C31 := C30.out
          simp only [Int.toNat_natCast] at C31
          rw [Hpp.out] at C31
          have CZ : Hid _ := C31
          clear C31
          refine (addC B30.P (⟨9, x, -1, -1, -1, 0, pp, ⟨#[]⟩⟩) ⟨by simp, yp, by have := Hx.out; simp; omega, by simp; omega, by simp; omega, .inl rfl⟩ CZ.out).mono ?_
          rintro v w32 ⟨f32, ⟨n32, hn32, rfl, P32, hb32, c32⟩ | ⟨rfl, D32⟩⟩
          · have C32 : Hid _ := c32
            have Hn_32 : Hid _ := hn32
            clear c32 hn32
            have B32 := B30.go f32 P32
            have F32 := F30.trans f32 (fun _ _ h => h)
            clear r1 r2 r3 r4 r5 b1 b2 b3 x0 x1 x2 x3 x4 x5 x6 x7 xz xl xn1 xn2 xn3
            obtain ⟨r1, r2, r3, r4, r5⟩ := B32.P.r15
            obtain ⟨b1, b2, b3⟩ := B32.P.blt
            obtain ⟨x0, x1, x2, x3, x4, x5, x6, x7, xz, xl, xn1, xn2, xn3⟩ := B32.fx
            go_wp2_with fail
            go_ret
            exact .done F32 B32.P C32.out (by omega) (by have := Hn_32.out; simp; omega) (by have := Hn_32.out; have := Hx.out; omega)
          · obtain ⟨er32, q32, jd32, md32, h032, P32, hE32⟩ := D32
            have HE32 : Hid _ := hE32
            clear hE32
            have B32 := B30.go f32 P32
            have F32 := F30.trans f32 (fun _ _ h => h)
            clear r1 r2 r3 r4 r5 b1 b2 b3 x0 x1 x2 x3 x4 x5 x6 x7 xz xl xn1 xn2 xn3
            obtain ⟨r1, r2, r3, r4, r5⟩ := B32.P.r15
            obtain ⟨b1, b2, b3⟩ := B32.P.blt
            obtain ⟨x0, x1, x2, x3, x4, x5, x6, x7, xz, xl, xn1, xn2, xn3⟩ := B32.fx
            go_wp2_with fail
            go_ret
            exact .dead F32 ⟨_, _, _, _, h032, B32.P, HE32.out⟩
        · obtain ⟨er30, q30, jd30, md30, h030, P30, hE30⟩ := D30
          have HE30 : Hid _ := hE30
          clear hE30
          have B30 := P19.go f30 P30
          have F30 := F19.trans f30 (fun _ _ h => h)
          clear r1 r2 r3 r4 r5 b1 b2 b3 x0 x1 x2 x3 x4 x5 x6 x7 xz xl xn1 xn2 xn3 y0 y6
          obtain ⟨r1, r2, r3, r4, r5⟩ := B30.P.r15
          obtain ⟨b1, b2, b3⟩ := B30.P.blt
          obtain ⟨x0, x1, x2, x3, x4, x5, x6, x7, xz, xl, xn1, xn2, xn3⟩ := B30.fx
          go_wp2_with fail
          go_ret
          exact .dead F30 ⟨_, _, _, _, h030, B30.P, HE30.out⟩
  · obtain ⟨er17, q17, jd17, md17, h017, P17, hE17⟩ := D17
    have HE17 : Hid _ := hE17
    clear hE17
    have F17 := F0.trans f17 (fun _ _ h => h)
    clear r1 r2 r3 r4 r5 b1 b2 b3
    obtain ⟨r1, r2, r3, r4, r5⟩ := P17.r15
    obtain ⟨b1, b2, b3⟩ := P17.blt
    go_wp2_with fail
    go_ret
    exact .dead F17 ⟨_, _, _, _, h017, P17, HE17.out⟩
end
end Go.Proofs.Qxb6500277aGreat
