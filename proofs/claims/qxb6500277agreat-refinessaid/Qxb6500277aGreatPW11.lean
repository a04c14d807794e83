/- The real parser: expressions whole; closed, varDecl. -/
import Derived.Test.Qxb6500277aGreatPW10
import Derived.Test.Qxb6500277aGreatPW8
import Derived.Test.Qxb6500277aGreatPW7
namespace Go.Proofs.Qxb6500277aGreat
open Go Go.RowKit

section
variable {w w' : World} {A : Pa} {T : List Tok} {i j : Nat} {ns ms : List Nd} {fl : Bool} {er q : Int} {S : Nat → Prop}
theorem primF {n : Nat} (H : LvC T n) (P : PM w A T i ns false 0 0) (hi : T.length ≤ i + n + 1) (d : Nat) (hd : d ≤ 8) {l : Int} (hl : l = 8 - (d : Int)) :
    Calls Tryz.prog 245 #[.pointer (some ⟨A.p, 0, none⟩), .int .i64 l] w (PPost w A T i ns (.prim d)) := by
  by_cases k2 : kd T i = 2
  · exact prim2 H P hi d hd hl k2
  by_cases k10 : kd T i = 10
  · exact prim10 H P hi d hd hl k10
  by_cases k11 : kd T i = 11
  · exact prim11 H P hi d hd hl k11
  by_cases k17 : kd T i = 17
  · exact prim17 H P hi d hd hl k17
  by_cases k12 : kd T i = 12
  · exact prim12 H P hi d hd hl k12
  by_cases k13 : kd T i = 13
  · exact prim13 H P hi d hd hl k13
  by_cases k14 : kd T i = 14
  · exact prim14 H P hi d hd hl k14
  by_cases k1 : kd T i = 1
  · exact prim1 H P hi d hd hl k1
  exact primX H P hi d hd hl k2 k10 k11 k17 k12 k13 k14 k1
theorem lvAll : ∀ n, LvC T n
  | 0 => fun w A i ns p d pv l hi P _ _ _ _ _ => by have := P.lt; omega
  | n + 1 => fun w A i ns p d pv l hi P h1 h6 hd hpv hl => by
    have H := lvAll n
    have hPo : PoC T i := fun w A i' ns d l hii P hd hl => postF H (fun w A ns d l P hd hl => primF H P (by omega) d hd hl) P (by omega) d hd hl
    exact binF H (fun w A ns d l P hd hl => unF hPo P d hd hl) P (by omega) d hd hl p h1 h6 hpv
/-- An expression. -/
theorem exprC {k : Int → Nat → List Nd → Mo} {M : Mo} (P : PM w A T i ns false 0 0) {d : Nat} {l : Int} (hd : d ≤ 8) (hl : l = 8 - (d : Int)) (C : Im T (.call (.lev 1 d) i ns k) M) :
    Calls Tryz.prog 233 #[.pointer (some ⟨A.p, 0, none⟩), .int .i64 1, .int .i64 l] w fun e w' => Fr (PS A) w w' ∧
    ((∃ (x : Int) (j : Nat) (ms : List Nd), e = .returned (.int .i64 x) ∧ PM w' A T j ms false 0 0 ∧ i < j ∧ x + 1 = ms.length ∧ (ns.length : Int) ≤ x ∧ Im T (k x j ms) M) ∨ (e = .returned (.int .i64 (-1)) ∧ Dd w' A T M)) :=
  (lvAll T.length).use (by omega) P hd hl C
/-- The answer of a part of M. -/
def MPo (w : World) (A : Pa) (T : List Tok) (M : Mo) (i : Nat) (ns : List Nd) (e : Ending) (w' : World) : Prop := Fr (PS A) w w' ∧
  ((∃ (x : Int) (j : Nat) (ms : List Nd), e = .returned (.int .i64 x) ∧ PM w' A T j ms false 0 0 ∧ i < j ∧ x + 1 = ms.length ∧ (ns.length : Int) ≤ x ∧ Im T (fin x j ms) M) ∨ (e = .returned (.int .i64 (-1)) ∧ Dd w' A T M))
theorem MPo.dead {M : Mo} (f : Fr (PS A) w w') (D : Dd w' A T M) : MPo w A T M i ns (.returned (.int .i64 (-1))) w' := ⟨f, .inr ⟨rfl, D⟩⟩
theorem MPo.done {M : Mo} {x : Int} (f : Fr (PS A) w w') (P : PM w' A T j ms false 0 0) (C : Im T (fin x j ms) M) (h1 : i < j) (h2 : x + 1 = ms.length) (h3 : (ns.length : Int) ≤ x) : MPo w A T M i ns (.returned (.int .i64 x)) w' := ⟨f, .inl ⟨x, j, ms, rfl, P, h1, h2, h3, C⟩⟩
theorem MPo.post {q : Rq} {e : Ending} (h : MPo w A T (body T q i ns) i ns e w') : PPost w A T i ns q e w' := by
  obtain ⟨f, ⟨x, j, ms, rfl, P, h1, h2, h3, C⟩ | ⟨rfl, D⟩⟩ := h
  · exact .done f P C h1 h2 h3
  · exact .dead f D
theorem PM.nodeK (P : PM w A T i ns fl er q) {x : Nat} (hx : x < ns.length) : w.cell? ⟨A.ab, x * 8, none⟩ = some (.int .i64 (ns[x]?.getD nd0).kind) ∧ w.cell? ⟨A.ab, x * 8 + 6, none⟩ = some (.int .i64 (ns[x]?.getD nd0).pos) ∧ 0 ≤ (ns[x]?.getD nd0).pos := by
  obtain ⟨f, hb, hp⟩ := P.arr
  have hl := P.le
  have e : ns[x]?.getD nd0 = ns[x] := by simp [List.getElem?_eq_getElem hx]
  rw [e]
  refine ⟨?_, ?_, (P.nok x hx).p⟩
  · rw [hb.cell (by omega)]
    exact congrArg some (hp x hx 0 (by omega))
  · rw [hb.cell (by omega)]
    exact congrArg some (hp x hx 6 (by omega))
set_option maxRecDepth 100000 in
set_option maxHeartbeats 8000000 in
theorem closedF (P : PM w A T i ns false 0 0) (d : Nat) (hd : d ≤ 8) {l : Int} (hl : l = 8 - (d : Int)) {k v p : Int} {s : ByteArray} (hk : 0 ≤ k ∧ k < 20) (hp : 0 ≤ p) {M : Mo}
    (C : Im T (.call (.lev 1 d) i ns fun x j ms => wnt T 24 j fun j => put ⟨k, x, -1, -1, -1, v, p, s⟩ j ms fin) M) :
    Calls Tryz.prog 234 #[.pointer (some ⟨A.p, 0, none⟩), ndV ⟨k, -1, -1, -1, -1, v, p, s⟩, .int .i64 l] w (MPo w A T M i ns) := by
  have Hl : Hid _ := hl
  have l1 : -1 < l := by omega
  have l2 : l < 9 := by omega
  clear hl
  have F0 : Fr (PS A) w w := Fr.refl _ _
  have C0 : Hid _ := C
  clear C
  unfold ndV
  go_enter Tryz.func234, Tryz.ntmps234
  obtain ⟨r1, r2, r3, r4, r5⟩ := P.r15
  obtain ⟨b1, b2, b3⟩ := P.blt
  go_wp2_with fail
  have B0 := BM.new P ⟨k, -1, -1, -1, -1, v, p, s⟩
  have G0 := F0.alloc (boxN ⟨k, -1, -1, -1, -1, v, p, s⟩)
  have Hn0 : w.heap.size ≤ w.heap.size := Nat.le_refl _
  refine (exprC B0.P hd Hl.out C0.out).mono ?_
  rintro v w1 ⟨f1, ⟨x1_, j1, m1, rfl, P1, hj1, hx1, hn1, c1⟩ | ⟨rfl, D1⟩⟩
  · have C1 : Hid _ := c1
    have Hx1 : Hid _ := hx1
    have xb1 : x1_ < 200 := by have := P1.le; omega
    have xc1 : -1 < x1_ := by omega
    clear c1 hx1
    have B1 := B0.go f1 P1
    have F1 := G0.trans f1 (fun _ _ h => h)
    clear r1 r2 r3 r4 r5 b1 b2 b3
    obtain ⟨r1, r2, r3, r4, r5⟩ := B1.P.r15
    obtain ⟨b1, b2, b3⟩ := B1.P.blt
    obtain ⟨x0, x1, x2, x3, x4, x5, x6, x7, xz, xl, xn1, xn2, xn3⟩ := B1.fx
    go_wp2_with fail
    have B2 := B1.setA (x1_)
    have F2 := F1.setNew (b := w.heap.size) (o := 1) (u := .int .i64 (x1_)) Hn0
    refine (takeC B2.P 24 (by decide) C1.out).mono ?_
    rintro v w3 ⟨f3, ⟨k3, rfl, P3, hs3, c3⟩ | ⟨rfl, D3⟩⟩
    · have C3 : Hid _ := c3
      have Hk3 : Hid _ := k3
      clear c3 k3
      have B3 := B2.go f3 P3
      have F3 := F2.trans f3 (fun _ _ h => h)
      clear r1 r2 r3 r4 r5 b1 b2 b3 x0 x1 x2 x3 x4 x5 x6 x7 xz xl xn1 xn2 xn3
      obtain ⟨r1, r2, r3, r4, r5⟩ := B3.P.r15
      obtain ⟨b1, b2, b3⟩ := B3.P.blt
      obtain ⟨x0, x1, x2, x3, x4, x5, x6, x7, xz, xl, xn1, xn2, xn3⟩ := B3.fx
      go_wp2_with fail
      refine (addC B3.P (⟨k, x1_, -1, -1, -1, v, p, s⟩) ⟨hk, hp, by have := Hx1.out; simp; omega, by simp; omega, by simp; omega, .inl rfl⟩ C3.out).mono ?_
      rintro v w4 ⟨f4, ⟨n4, hn4, rfl, P4, hb4, c4⟩ | ⟨rfl, D4⟩⟩
      · have C4 : Hid _ := c4
        have Hn_4 : Hid _ := hn4
        clear c4 hn4
        have B4 := B3.go f4 P4
        have F4 := F3.trans f4 (fun _ _ h => h)
        clear r1 r2 r3 r4 r5 b1 b2 b3 x0 x1 x2 x3 x4 x5 x6 x7 xz xl xn1 xn2 xn3
        obtain ⟨r1, r2, r3, r4, r5⟩ := B4.P.r15
        obtain ⟨b1, b2, b3⟩ := B4.P.blt
        obtain ⟨x0, x1, x2, x3, x4, x5, x6, x7, xz, xl, xn1, xn2, xn3⟩ := B4.fx
        go_wp2_with fail
        go_ret
        exact .done F4 B4.P C4.out (by omega) (by have := Hn_4.out; simp; omega) (by have := Hn_4.out; have := Hx1.out; omega)
      · obtain ⟨er4, q4, jd4, md4, h04, P4, hE4⟩ := D4
        have HE4 : Hid _ := hE4
        clear hE4
        have B4 := B3.go f4 P4
        have F4 := F3.trans f4 (fun _ _ h => h)
        clear r1 r2 r3 r4 r5 b1 b2 b3 x0 x1 x2 x3 x4 x5 x6 x7 xz xl xn1 xn2 xn3
        obtain ⟨r1, r2, r3, r4, r5⟩ := B4.P.r15
        obtain ⟨b1, b2, b3⟩ := B4.P.blt
        obtain ⟨x0, x1, x2, x3, x4, x5, x6, x7, xz, xl, xn1, xn2, xn3⟩ := B4.fx
        go_wp2_with fail
        go_ret
        exact .dead F4 ⟨_, _, _, _, h04, B4.P, HE4.out⟩
    · obtain ⟨er3, q3, jd3, md3, h03, P3, hE3⟩ := D3
      have HE3 : Hid _ := hE3
      clear hE3
      have B3 := B2.go f3 P3
      have F3 := F2.trans f3 (fun _ _ h => h)
      clear r1 r2 r3 r4 r5 b1 b2 b3 x0 x1 x2 x3 x4 x5 x6 x7 xz xl xn1 xn2 xn3
      obtain ⟨r1, r2, r3, r4, r5⟩ := B3.P.r15
      obtain ⟨b1, b2, b3⟩ := B3.P.blt
      obtain ⟨x0, x1, x2, x3, x4, x5, x6, x7, xz, xl, xn1, xn2, xn3⟩ := B3.fx
      go_wp2_with fail
      go_ret
      exact .dead F3 ⟨_, _, _, _, h03, B3.P, HE3.out⟩
  · obtain ⟨er1, q1, jd1, md1, h01, P1, hE1⟩ := D1
    have HE1 : Hid _ := hE1
    clear hE1
    have B1 := B0.go f1 P1
    have F1 := G0.trans f1 (fun _ _ h => h)
    clear r1 r2 r3 r4 r5 b1 b2 b3
    obtain ⟨r1, r2, r3, r4, r5⟩ := B1.P.r15
    obtain ⟨b1, b2, b3⟩ := B1.P.blt
    obtain ⟨x0, x1, x2, x3, x4, x5, x6, x7, xz, xl, xn1, xn2, xn3⟩ := B1.fx
    go_wp2_with fail
    have B5 := B1.setA (-1)
    have F5 := F1.setNew (b := w.heap.size) (o := 1) (u := .int .i64 (-1)) Hn0
    refine (take_failed B5.P 24).mono ?_
    rintro v w6 ⟨rfl, e6⟩
    subst w6
    go_wp2_with fail
    go_ret
    exact .dead F5 ⟨_, _, _, _, h01, B5.P, HE1.out⟩
set_option maxRecDepth 100000 in
set_option maxHeartbeats 8000000 in
theorem varF (P : PM w A T i ns false 0 0) (d : Nat) (hd : d ≤ 8) {l : Int} (hl : l = 8 - (d : Int)) {M : Mo}
    (C : Im T (wnt T 1 i fun j => typ T j fun t j => wnt T 25 j fun j => .call (.lev 1 d) j ns fun x j ms => wnt T 24 j fun j => put ⟨3, x, -1, -1, -1, t, ps T i, (tk T i).text⟩ j ms fin) M) :
    Calls Tryz.prog 232 #[.pointer (some ⟨A.p, 0, none⟩), .int .i64 l] w (MPo w A T M i ns) := by
  have Hl : Hid _ := hl
  have l1 : -1 < l := by omega
  have l2 : l < 9 := by omega
  clear hl
  have F0 : Fr (PS A) w w := Fr.refl _ _
  have C0 : Hid _ := C
  clear C
  go_enter Tryz.func232, Tryz.ntmps232
  obtain ⟨r1, r2, r3, r4, r5⟩ := P.r15
  obtain ⟨b1, b2, b3⟩ := P.blt
  go_wp2_with fail
  refine (atFp P).mono ?_
  rintro v w7 ⟨rfl, f7⟩
  have P7 := P.same f7
  have F7 := F0.trans f7 (fun _ _ h => h.elim)
  clear r1 r2 r3 r4 r5 b1 b2 b3
  obtain ⟨r1, r2, r3, r4, r5⟩ := P7.r15
  obtain ⟨b1, b2, b3⟩ := P7.blt
  go_wp2_with fail
  refine (freshF 3 (ps T i) _).mono ?_
  rintro v w8 ⟨rfl, f8⟩
  have P8 := P7.same f8
  have F8 := F7.trans f8 (fun _ _ h => h.elim)
  unfold ndV fre
  clear r1 r2 r3 r4 r5 b1 b2 b3
  obtain ⟨r1, r2, r3, r4, r5⟩ := P8.r15
  obtain ⟨b1, b2, b3⟩ := P8.blt
  obtain ⟨q0, q1, q2, q3⟩ := P8.cellK
  obtain ⟨i1, i2⟩ := P8.ib
  have hlt : decide (((i : Nat) : Int) < (T.length : Nat)) = true := decide_eq_true (by have := P8.lt; omega)
  have hl0 := P8.lt
  go_wp2_with fail
  refine wp_region_text (by kernel_rfl) (by kernel_rfl) ?_
  go_wp2_with fail
  refine ⟨by kernel_rfl, ?_⟩
  generalize hw9 : World.drew _ = w9
  have B9 : BM w9 A T (i) ns false 0 0 w8.heap.size ⟨3, -1, -1, -1, -1, 0, ps T i, (tk T (i)).text⟩ := by rw [← hw9]; exact (BM.new P8 ⟨3, -1, -1, -1, -1, 0, ps T i, (tk T (i)).text⟩).same (Fr.refl _ _).drew
  have F9 : Fr (PS A) w w9 := by rw [← hw9]; exact (F8.alloc _).drew
  have Hn9 : w.heap.size ≤ w8.heap.size := F8.size
  clear hw9
  clear r1 r2 r3 r4 r5 b1 b2 b3 q0 q1 q2 q3 i1 i2 hlt hl0
  obtain ⟨r1, r2, r3, r4, r5⟩ := B9.P.r15
  obtain ⟨b1, b2, b3⟩ := B9.P.blt
  obtain ⟨x0, x1, x2, x3, x4, x5, x6, x7, xz, xl, xn1, xn2, xn3⟩ := B9.fx
  go_wp2_with fail
  refine (takeC B9.P 1 (by decide) C0.out).mono ?_
  rintro v w10 ⟨f10, ⟨k10, rfl, P10, hs10, c10⟩ | ⟨rfl, D10⟩⟩
  · have C10 : Hid _ := c10
    have Hk10 : Hid _ := k10
    clear c10 k10
    have B10 := B9.go f10 P10
    have F10 := F9.trans f10 (fun _ _ h => h)
    clear r1 r2 r3 r4 r5 b1 b2 b3 x0 x1 x2 x3 x4 x5 x6 x7 xz xl xn1 xn2 xn3
    obtain ⟨r1, r2, r3, r4, r5⟩ := B10.P.r15
    obtain ⟨b1, b2, b3⟩ := B10.P.blt
    obtain ⟨x0, x1, x2, x3, x4, x5, x6, x7, xz, xl, xn1, xn2, xn3⟩ := B10.fx
    go_wp2_with fail
    refine (typC B10.P C10.out).mono ?_
    rintro v w11 ⟨f11, ⟨t11, j11, rfl, P11, hj11, ht11, hu11, c11⟩ | ⟨rfl, D11⟩⟩
    · have C11 : Hid _ := c11
      clear c11
      have B11 := B10.go f11 P11
      have F11 := F10.trans f11 (fun _ _ h => h)
      clear r1 r2 r3 r4 r5 b1 b2 b3 x0 x1 x2 x3 x4 x5 x6 x7 xz xl xn1 xn2 xn3
      obtain ⟨r1, r2, r3, r4, r5⟩ := B11.P.r15
      obtain ⟨b1, b2, b3⟩ := B11.P.blt
      obtain ⟨x0, x1, x2, x3, x4, x5, x6, x7, xz, xl, xn1, xn2, xn3⟩ := B11.fx
      go_wp2_with fail
      have B12 := B11.setV (t11)
      have F12 := F11.setNew (b := w8.heap.size) (o := 5) (u := .int .i64 (t11)) Hn9
      refine (takeC B12.P 25 (by decide) C11.out).mono ?_
      rintro v w13 ⟨f13, ⟨k13, rfl, P13, hs13, c13⟩ | ⟨rfl, D13⟩⟩
      · have C13 : Hid _ := c13
        have Hk13 : Hid _ := k13
        clear c13 k13
        have B13 := B12.go f13 P13
        have F13 := F12.trans f13 (fun _ _ h => h)
        clear r1 r2 r3 r4 r5 b1 b2 b3 x0 x1 x2 x3 x4 x5 x6 x7 xz xl xn1 xn2 xn3
        obtain ⟨r1, r2, r3, r4, r5⟩ := B13.P.r15
        obtain ⟨b1, b2, b3⟩ := B13.P.blt
        obtain ⟨x0, x1, x2, x3, x4, x5, x6, x7, xz, xl, xn1, xn2, xn3⟩ := B13.fx
        go_wp2_with fail
        refine (closedF B13.P d hd Hl.out (by decide) P.psn C13.out).mono ?_
        rintro v w14 ⟨f14, ⟨x, j14, m14, rfl, P14, hj14, hx14, hn14, c14⟩ | ⟨rfl, D14⟩⟩
        · have Hx : Hid _ := hx14
          have C14 : Hid _ := c14
          clear c14 hx14
          have B14 := B13.go f14 P14
          have F14 := F13.trans f14 (fun _ _ h => h)
          clear r1 r2 r3 r4 r5 b1 b2 b3 x0 x1 x2 x3 x4 x5 x6 x7 xz xl xn1 xn2 xn3
          go_wp2_with fail
          go_ret
          exact .done F14 B14.P C14.out (by omega) Hx.out hn14
        · obtain ⟨er14, q14, jd14, md14, h014, P14, hE14⟩ := D14
          have HE14 : Hid _ := hE14
          clear hE14
          have B14 := B13.go f14 P14
          have F14 := F13.trans f14 (fun _ _ h => h)
          clear r1 r2 r3 r4 r5 b1 b2 b3 x0 x1 x2 x3 x4 x5 x6 x7 xz xl xn1 xn2 xn3
          obtain ⟨r1, r2, r3, r4, r5⟩ := B14.P.r15
          obtain ⟨b1, b2, b3⟩ := B14.P.blt
          obtain ⟨x0, x1, x2, x3, x4, x5, x6, x7, xz, xl, xn1, xn2, xn3⟩ := B14.fx
          clear r1 r2 r3 r4 r5 b1 b2 b3 x0 x1 x2 x3 x4 x5 x6 x7 xz xl xn1 xn2 xn3
          go_wp2_with fail
          go_ret
          exact .dead F14 ⟨_, _, _, _, h014, B14.P, HE14.out⟩
      · obtain ⟨er13, q13, jd13, md13, h013, P13, hE13⟩ := D13
        have HE13 : Hid _ := hE13
        clear hE13
        have B13 := B12.go f13 P13
        have F13 := F12.trans f13 (fun _ _ h => h)
        clear r1 r2 r3 r4 r5 b1 b2 b3 x0 x1 x2 x3 x4 x5 x6 x7 xz xl xn1 xn2 xn3
        obtain ⟨r1, r2, r3, r4, r5⟩ := B13.P.r15
        obtain ⟨b1, b2, b3⟩ := B13.P.blt
        obtain ⟨x0, x1, x2, x3, x4, x5, x6, x7, xz, xl, xn1, xn2, xn3⟩ := B13.fx
        go_wp2_with fail
        go_ret
        exact .dead F13 ⟨_, _, _, _, h013, B13.P, HE13.out⟩
    · obtain ⟨er11, q11, jd11, md11, h011, P11, hE11⟩ := D11
      have HE11 : Hid _ := hE11
      clear hE11
      have B11 := B10.go f11 P11
      have F11 := F10.trans f11 (fun _ _ h => h)
      clear r1 r2 r3 r4 r5 b1 b2 b3 x0 x1 x2 x3 x4 x5 x6 x7 xz xl xn1 xn2 xn3
      obtain ⟨r1, r2, r3, r4, r5⟩ := B11.P.r15
      obtain ⟨b1, b2, b3⟩ := B11.P.blt
      obtain ⟨x0, x1, x2, x3, x4, x5, x6, x7, xz, xl, xn1, xn2, xn3⟩ := B11.fx
      go_wp2_with fail
      have B15 := B11.setV (-1)
      have F15 := F11.setNew (b := w8.heap.size) (o := 5) (u := .int .i64 (-1)) Hn9
      refine (take_failed B15.P 25).mono ?_
      rintro v w16 ⟨rfl, e16⟩
      subst w16
      go_wp2_with fail
      go_ret
      exact .dead F15 ⟨_, _, _, _, h011, B15.P, HE11.out⟩
  · obtain ⟨er10, q10, jd10, md10, h010, P10, hE10⟩ := D10
    have HE10 : Hid _ := hE10
    clear hE10
    have B10 := B9.go f10 P10
    have F10 := F9.trans f10 (fun _ _ h => h)
    clear r1 r2 r3 r4 r5 b1 b2 b3 x0 x1 x2 x3 x4 x5 x6 x7 xz xl xn1 xn2 xn3
    obtain ⟨r1, r2, r3, r4, r5⟩ := B10.P.r15
    obtain ⟨b1, b2, b3⟩ := B10.P.blt
    obtain ⟨x0, x1, x2, x3, x4, x5, x6, x7, xz, xl, xn1, xn2, xn3⟩ := B10.fx
    go_wp2_with fail
    go_ret
    exact .dead F10 ⟨_, _, _, _, h010, B10.P, HE10.out⟩
end
end Go.Proofs.Qxb6500277aGreat
