/- The real parser: binary. -/
import Derived.Test.Qxb6500277aGreatPW5
namespace Go.Proofs.Qxb6500277aGreat
open Go Go.RowKit

section
variable {w w' : World} {A : Pa} {T : List Tok} {i j : Nat} {ns ms : List Nd} {fl : Bool} {er q : Int} {S : Nat → Prop}
/-- unary at i. -/
def UnC (T : List Tok) (i : Nat) : Prop := ∀ (w : World) (A : Pa) (ns : List Nd) (d : Nat) (l : Int), PM w A T i ns false 0 0 → d ≤ 8 → l = 8 - (d : Int) → Calls Tryz.prog 239 #[.pointer (some ⟨A.p, 0, none⟩), .int .i64 l] w (PPost w A T i ns (.un d))
theorem LvP.dead {p d : Nat} (f : Fr (PS A) w w') (D : Dd w' A T (body T (.lev p d) i ns)) : LvP w A T i ns p d (.returned (.int .i64 (-1))) w' := by
  obtain ⟨er, q, j, ms, h0, P, hE⟩ := D
  exact ⟨_, hE, f, ⟨rfl, h0, j, ms, P⟩, fun _ _ _ e => by cases e⟩
set_option maxRecDepth 100000 in
set_option maxHeartbeats 8000000 in
theorem binF {n : Nat} (H : LvC T n) (hu : UnC T i) (P : PM w A T i ns false 0 0) (hi : T.length ≤ i + n + 1) (d : Nat) (hd : d ≤ 8) {l : Int} (hl : l = 8 - (d : Int)) (p : Nat) (h1p : 1 ≤ p) (hp6 : p ≤ 6) {pv : Int} (hpv : pv = (p : Nat)) :
    Calls Tryz.prog 233 #[.pointer (some ⟨A.p, 0, none⟩), .int .i64 pv, .int .i64 l] w (LvP w A T i ns p d) := by
  subst hpv
  have Hl : Hid _ := hl
  have Hi : Hid _ := hi
  have l1 : -1 < l := by omega
  have l2 : l < 9 := by omega
  clear hl hi
  have F0 : Fr (PS A) w w := Fr.refl _ _
  go_enter Tryz.func233, Tryz.ntmps233
  go_wp2_with fail
  refine (hu w A ns d l P hd Hl.out).mono ?_
  rintro v w1 ⟨r, hr, f1, h1⟩
  have hv : ∃ x0 : Int, v = .returned (.int .i64 x0) ∧ ((x0 = -1 ∧ Dd w1 A T (body T (.lev p d) i ns)) ∨ ∃ j ms, PM w1 A T j ms false 0 0 ∧ i < j ∧ x0 + 1 = ms.length ∧ (ns.length : Int) ≤ x0 ∧ ∀ r, LB T d p x0 j ms r → EvM T (body T (.lev p d) i ns) r) := by
    cases r with
    | bad e q =>
      obtain ⟨rfl, h0, j, ms, P4⟩ := h1
      exact ⟨_, rfl, .inl ⟨rfl, _, _, _, _, h0, P4, climb_bad hr (6 - p) p (by omega)⟩⟩
    | ok x j ms =>
      obtain ⟨rfl, P4, hj, hx, hn⟩ := h1
      exact ⟨_, rfl, .inr ⟨j, ms, P4, hj, hx, hn, fun r h => climb hr (6 - p) p r (by omega) (by omega) h⟩⟩
  obtain ⟨x0, rfl, h2'⟩ := hv
  have h2 : Hid _ := h2'
  clear h1 h2' P hu F0 hr
  go_wp2_with fail
  go_loopg [7] (T.length + 1) (fun gk xv wr => ∃ x : Int, xv = .int .i64 x ∧ Fr (PS A) w wr ∧ ((x = -1 ∧ Dd wr A T (body T (.lev p d) i ns)) ∨ ∃ j ms, PM wr A T j ms false 0 0 ∧ T.length < j + gk ∧ i < j ∧ x + 1 = ms.length ∧ (ns.length : Int) ≤ x ∧ ∀ r, LB T d p x j ms r → EvM T (body T (.lev p d) i ns) r))
  case atStart =>
    refine ⟨x0, rfl, f1, h2.out.imp id ?_⟩
    rintro ⟨j, ms, a, b, c⟩
    exact ⟨j, ms, a, by omega, b, c⟩
  case round =>
    clear h2 f1
    obtain ⟨x, rfl, FJ, ⟨rfl, D⟩ | ⟨j, ms, Pj, hg, hij, hx, hn, hc⟩⟩ := hrel
    · obtain ⟨er0, q0, jd0, md0, h00, Pj, hE0⟩ := D
      have HE0 : Hid _ := hE0
      clear hE0
      obtain ⟨r1, r2, r3, r4, r5⟩ := Pj.r15
      obtain ⟨b1, b2, b3⟩ := Pj.blt
      go_wp2_with fail
      go_ret
      exact .dead FJ ⟨_, _, _, _, h00, Pj, HE0.out⟩
    · have Hx : Hid _ := hx
      have Hc : Hid _ := hc
      have Hg : Hid _ := hg
      clear hx hc hg
      have xb : x < 200 := by have := Pj.le; have := Hx.out; omega
      have xb0 : -1 < x := by omega
      obtain ⟨r1, r2, r3, r4, r5⟩ := Pj.r15
      obtain ⟨b1, b2, b3⟩ := Pj.blt
      go_wp2_with fail
      refine (kindF Pj).mono ?_
      rintro v w7 ⟨rfl, f7⟩
      have P7 := Pj.same f7
      have F7 := FJ.trans f7 (fun _ _ h => h.elim)
      clear r1 r2 r3 r4 r5 b1 b2 b3
      obtain ⟨r1, r2, r3, r4, r5⟩ := P7.r15
      obtain ⟨b1, b2, b3⟩ := P7.blt
      go_wp2_with fail
      refine (powerF (kd T j) _).mono ?_
      rintro v w8 ⟨rfl, e8⟩
      subst w8
      have hpl := pow_le (kd T j)
      have hz0 : kd T j = 0 → pow (kd T j) = 0 := fun e => by rw [e]; rfl
      generalize hpe : pow (kd T j) = pw at *
      have Hp : Hid _ := hpe
      clear hpe
      by_cases hpw : pw < p
      · have hpb : decide ((pw : Int) < (p : Int)) = true := decide_eq_true (by omega)
        have HQ : Hid _ := Hc.out _ (LB.stop (by rw [Hp.out]; exact hpw))
        have Hw : Hid _ := hpw
        have hpd : decide (pw < p) = true := decide_eq_true (by omega)
        clear hpw
        go_wp2_with fail
        go_ret
        exact ⟨.ok x j ms, HQ.out, F7, ⟨rfl, P7, hij, Hx.out, hn⟩, fun _ _ _ e => by cases e; rw [Hp.out]; exact Hw.out⟩
      · have hpb : decide ((pw : Int) < (p : Int)) = false := decide_eq_false (by omega)
        have Hw : Hid (p ≤ pow (kd T j)) := by rw [Hp.out]; exact Nat.le_of_not_lt hpw
        have Hs : Hid _ := P7.nxt (fun e => by have := hz0 e; omega)
        have hpc : (pw : Int) < 6 := by omega
        have hpd : decide (pw < p) = false := decide_eq_false (by omega)
        clear hpw hpl hz0
        go_wp2_with fail
        refine (atFp P7).mono ?_
        rintro v w9 ⟨rfl, f9⟩
        have P9 := P7.same f9
        have F9 := F7.trans f9 (fun _ _ h => h.elim)
        clear r1 r2 r3 r4 r5 b1 b2 b3
        obtain ⟨r1, r2, r3, r4, r5⟩ := P9.r15
        obtain ⟨b1, b2, b3⟩ := P9.blt
        go_wp2_with fail
        refine (freshF 18 (ps T j) _).mono ?_
        rintro v w10 ⟨rfl, f10⟩
        have P10 := P9.same f10
        have F10 := F9.trans f10 (fun _ _ h => h.elim)
        unfold ndV fre
        clear r1 r2 r3 r4 r5 b1 b2 b3
        obtain ⟨r1, r2, r3, r4, r5⟩ := P10.r15
        obtain ⟨b1, b2, b3⟩ := P10.blt
        go_wp2_with fail
        have B10 := BM.new P10 (⟨18, -1, -1, -1, -1, kd T j, ps T j, ⟨#[]⟩⟩)
        have G10 := F10.alloc (boxN (⟨18, -1, -1, -1, -1, kd T j, ps T j, ⟨#[]⟩⟩))
        have Hn10 : w.heap.size ≤ w10.heap.size := F10.size
        refine (stepFp B10.P).mono ?_
        rintro v w11 ⟨rfl, P11, f11⟩
        have B11 := B10.go f11 P11
        have F11 := G10.trans f11 (fun _ _ h => h)
        clear r1 r2 r3 r4 r5 b1 b2 b3
        obtain ⟨r1, r2, r3, r4, r5⟩ := B11.P.r15
        obtain ⟨b1, b2, b3⟩ := B11.P.blt
        obtain ⟨x0, x1, x2, x3, x4, x5, x6, x7, xz, xl, xn1, xn2, xn3⟩ := B11.fx
        go_wp2_with fail
        have B12 := B11.setA (x)
        have F12 := F11.setNew (b := w10.heap.size) (o := 1) (u := .int .i64 (x)) Hn10
        refine (H _ A (stp T j) ms (pw + 1) d _ l (by have := Hi.out; have := Hs.out; omega) B12.P (by omega) (by omega) hd (by simp) Hl.out).mono ?_
        rintro v w13 ⟨r, hr, f13, h4, h5⟩
        have Hr : Hid (EvM T (body T (.lev (pow (kd T j) + 1) d) (stp T j) ms) r) := by rw [Hp.out]; exact hr
        clear hr
        cases r with
        | bad e q =>
          obtain ⟨rfl, h013, jd, md, P13⟩ := h4
          have HE13 : Hid _ := Hc.out _ (LB.bad (x := x) Hw.out Hr.out)
          clear Hr h5
          have B13 := B12.go f13 P13
          have F13 := F12.trans f13 (fun _ _ h => h)
          clear r1 r2 r3 r4 r5 b1 b2 b3 x0 x1 x2 x3 x4 x5 x6 x7 xz xl xn1 xn2 xn3
          obtain ⟨r1, r2, r3, r4, r5⟩ := B13.P.r15
          obtain ⟨b1, b2, b3⟩ := B13.P.blt
          obtain ⟨x0, x1, x2, x3, x4, x5, x6, x7, xz, xl, xn1, xn2, xn3⟩ := B13.fx
          go_wp2_with fail
          have B14 := B13.setB (-1)
          have F14 := F13.setNew (b := w10.heap.size) (o := 2) (u := .int .i64 (-1)) Hn10
          refine (add_failed B14.P (⟨18, x, -1, -1, -1, kd T j, ps T j, ⟨#[]⟩⟩)).mono ?_
          rintro v w15 ⟨rfl, f15⟩
          have P15 := B14.same f15
          have F15 := F14.trans f15 (fun _ _ h => h.elim)
          clear r1 r2 r3 r4 r5 b1 b2 b3 x0 x1 x2 x3 x4 x5 x6 x7 xz xl xn1 xn2 xn3
          obtain ⟨r1, r2, r3, r4, r5⟩ := P15.P.r15
          obtain ⟨b1, b2, b3⟩ := P15.P.blt
          obtain ⟨x0, x1, x2, x3, x4, x5, x6, x7, xz, xl, xn1, xn2, xn3⟩ := P15.fx
          go_wp2_with fail
          go_roundg 0
          case measure => have := Hg.out; have := Pj.lt; omega
          case rel => exact ⟨-1, rfl, F15, .inl ⟨rfl, ⟨_, _, _, _, h013, P15.P, HE13.out⟩⟩⟩
        | ok y j2 ms2 =>
          obtain ⟨rfl, P13, hj2, hy, hn2⟩ := h4
          have Hy : Hid _ := hy
          have H5 : Hid (pow (kd T j2) < pow (kd T j) + 1) := by rw [Hp.out]; exact h5 _ _ _ rfl
          have yb : y < 200 := by have := P13.le; omega
          have yb0 : -1 < y := by omega
          clear hy h5
          have B13 := B12.go f13 P13
          have F13 := F12.trans f13 (fun _ _ h => h)
          clear r1 r2 r3 r4 r5 b1 b2 b3 x0 x1 x2 x3 x4 x5 x6 x7 xz xl xn1 xn2 xn3
          obtain ⟨r1, r2, r3, r4, r5⟩ := B13.P.r15
          obtain ⟨b1, b2, b3⟩ := B13.P.blt
          obtain ⟨x0, x1, x2, x3, x4, x5, x6, x7, xz, xl, xn1, xn2, xn3⟩ := B13.fx
          go_wp2_with fail
          have B16 := B13.setB (y)
          have F16 := F13.setNew (b := w10.heap.size) (o := 2) (u := .int .i64 (y)) Hn10
          by_cases hfull : 200 ≤ ms2.length
          · have HE17 : Hid _ := Hc.out _ (LB.full (x := x) Hw.out Hr.out hfull)
            refine (add_full B16.P ⟨18, x, y, -1, -1, kd T j, ps T j, ⟨#[]⟩⟩ hfull).mono ?_
            rintro v w17 ⟨rfl, f17, P17⟩
            have B17 := B16.go f17 P17
            have F17 := F16.trans f17 (fun _ _ h => h)
            clear r1 r2 r3 r4 r5 b1 b2 b3 x0 x1 x2 x3 x4 x5 x6 x7 xz xl xn1 xn2 xn3
            obtain ⟨r1, r2, r3, r4, r5⟩ := B17.P.r15
            obtain ⟨b1, b2, b3⟩ := B17.P.blt
            obtain ⟨x0, x1, x2, x3, x4, x5, x6, x7, xz, xl, xn1, xn2, xn3⟩ := B17.fx
            go_wp2_with fail
            go_roundg 0
            case measure => have := Hg.out; have := Pj.lt; omega
            case rel => exact ⟨-1, rfl, F17, .inl ⟨rfl, ⟨_, _, _, _, by decide, B17.P, HE17.out⟩⟩⟩
          · refine (add_ok B16.P ⟨18, x, y, -1, -1, kd T j, ps T j, ⟨#[]⟩⟩ hfull ⟨by simp, Pj.psn, by have := Hx.out; have := Hy.out; simp; omega, by have := Hx.out; have := Hy.out; simp; omega, by simp; omega, .inl rfl⟩).mono ?_
            rintro v w18 ⟨rfl, f18, P18⟩
            have Hf : Hid _ := hfull
            clear hfull
            have B18 := B16.go f18 P18
            have F18 := F16.trans f18 (fun _ _ h => h)
            clear r1 r2 r3 r4 r5 b1 b2 b3 x0 x1 x2 x3 x4 x5 x6 x7 xz xl xn1 xn2 xn3
            obtain ⟨r1, r2, r3, r4, r5⟩ := B18.P.r15
            obtain ⟨b1, b2, b3⟩ := B18.P.blt
            obtain ⟨x0, x1, x2, x3, x4, x5, x6, x7, xz, xl, xn1, xn2, xn3⟩ := B18.fx
            go_wp2_with fail
            go_roundg (gk - 1)
            case measure => have := Hg.out; have := Pj.lt; omega
            case rel => exact ⟨ms2.length, rfl, F18, .inr ⟨_, _, B18.P, by have := Hg.out; have := Hs.out; omega, by have := Hs.out; omega, by simp, by have := Hy.out; have := Hx.out; omega, fun r h => Hc.out _ (LB.step Hw.out Hr.out H5.out Hf.out h)⟩⟩
end
end Go.Proofs.Qxb6500277aGreat
