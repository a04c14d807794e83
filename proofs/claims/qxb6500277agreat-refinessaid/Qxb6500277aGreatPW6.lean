/- The real parser: arguments. -/
import Derived.Test.Qxb6500277aGreatPW5
namespace Go.Proofs.Qxb6500277aGreat
open Go Go.RowKit

section
variable {w w' : World} {A : Pa} {T : List Tok} {i j : Nat} {ns ms : List Nd} {fl : Bool} {er q : Int} {S : Nat → Prop}
/-- A chain: its first and its last member. -/
def Ch (n : Nat) (f la : Int) : Prop := (f = -1 ∧ la = -1) ∨ (0 ≤ f ∧ 0 ≤ la ∧ f < n ∧ la < n)
def lk (ms : List Nd) (f la x : Int) : List Nd := if f < 0 then ms else setNx ms la.toNat x
theorem lk_len (ms : List Nd) (f la x : Int) : (lk ms f la x).length = ms.length := by unfold lk; split <;> simp [setNx]
theorem lnk_eq (ms : List Nd) (f la x : Int) (k : Int → List Nd → Mo) : lnk ms f la x k = k (if f < 0 then x else f) (lk ms f la x) := by unfold lnk lk; split <;> rfl
theorem hangL (P : PM w A T i ns false 0 0) {f la x : Int} (hc : Ch ns.length f la) (h1 : la < x) (h2 : x < ns.length) : Calls Tryz.prog 149 #[.pointer (some ⟨A.p, 0, none⟩), .int .i64 la, .int .i64 x] w fun e w' => e = .returned (.int .i64 x) ∧ PM w' A T i (lk ns f la x) false 0 0 ∧ Fr (PS A) w w' := by
  rcases hc with ⟨rfl, rfl⟩ | ⟨hf, hl, hf2, hl2⟩
  · refine (hang_no _ (.inr (by decide)) w).mono ?_
    rintro e w1 ⟨rfl, e1⟩
    subst w1
    exact ⟨rfl, P, Fr.refl _ _⟩
  · obtain ⟨k, rfl⟩ : ∃ k : Nat, la = k := ⟨la.toNat, by omega⟩
    refine (hang_yes P (by omega) h1 h2).mono ?_
    rintro e w1 ⟨rfl, P1, f1⟩
    refine ⟨rfl, ?_, f1⟩
    unfold lk
    rw [if_neg (by omega)]
    exact P1
theorem Ch.next {n : Nat} {f la x : Int} (hc : Ch n f la) (h0 : 0 ≤ x) (h2 : x < n) : Ch n (if f < 0 then x else f) x := by
  unfold Ch at *; split <;> omega
theorem Ch.mono {n m : Nat} {f la : Int} (hc : Ch n f la) (h : n ≤ m) : Ch m f la := by unfold Ch at *; omega
theorem Ch.b {n : Nat} {f la : Int} (hc : Ch n f la) (h : n ≤ 200) : -2 < f ∧ f < 200 ∧ -2 < la ∧ la < 200 ∧ (f < 0 ↔ la < 0) ∧ f < n ∧ la < n := by unfold Ch at hc; omega
/-- The chain grows. -/
theorem Im.grow {m : Int → List Nd → Mo} {M : Mo} {f la x : Int} (h : Im T (lnk ms f la x m) M) : Im T (m (if f < 0 then x else f) (lk ms f la x)) M := by rw [lnk_eq] at h; exact h
theorem Im.com_y {f : Int} {g : Nat → Mo} {M : Mo} (h : Im T (com T f i g) M) (h0 : 0 ≤ f) : Im T (wnt T 23 i g) M := by unfold com at h; rw [if_pos h0] at h; exact h
theorem Im.com_n {f : Int} {g : Nat → Mo} {M : Mo} (h : Im T (com T f i g) M) (h0 : f < 0) : Im T (g i) M := by unfold com at h; rw [if_neg (by omega)] at h; exact h
/-- What args answers. -/
def ArP (w : World) (A : Pa) (T : List Tok) (M : Mo) (ns : List Nd) (k : Int → Nat → List Nd → Mo) (i : Nat) (e : Ending) (w' : World) : Prop := Fr (PS A) w w' ∧
  ((∃ (x : Int) (j : Nat) (ms : List Nd), e = .returned (.int .i64 x) ∧ PM w' A T j ms false 0 0 ∧ i < j ∧ x < ms.length ∧ -1 ≤ x ∧ ns.length ≤ ms.length ∧ Im T (k x j ms) M) ∨ (e = .returned (.int .i64 (-1)) ∧ Dd w' A T M))
theorem ArP.done {M : Mo} {k : Int → Nat → List Nd → Mo} {x : Int} (f : Fr (PS A) w w') (P : PM w' A T j ms false 0 0) (C : Im T (k x j ms) M) (h1 : i < j) (h2 : x < ms.length) (h3 : -1 ≤ x) (h4 : ns.length ≤ ms.length) : ArP w A T M ns k i (.returned (.int .i64 x)) w' := ⟨f, .inl ⟨x, j, ms, rfl, P, h1, h2, h3, h4, C⟩⟩
theorem ArP.dead {M : Mo} {k : Int → Nat → List Nd → Mo} (f : Fr (PS A) w w') (D : Dd w' A T M) : ArP w A T M ns k i (.returned (.int .i64 (-1))) w' := ⟨f, .inr ⟨rfl, D⟩⟩
theorem Im.call2 {q : Rq} {k : Int → Nat → List Nd → Mo} {M : Mo} (h : Im T (.call q i ns k) M) : (∀ x j ms, Im T (fin x j ms) (body T q i ns) → Im T (k x j ms) M) ∧ (∀ e p, EvM T (body T q i ns) (.bad e p) → EvM T M (.bad e p)) :=
  ⟨fun _ _ _ h1 => h.call_ok (h1 _ (.fin _ _ _)), fun _ _ h1 => h.call_bad h1⟩
set_option maxRecDepth 100000 in
set_option maxHeartbeats 8000000 in
theorem argsF {n : Nat} (H : LvC T n) (P : PM w A T i ns false 0 0) (hi : T.length ≤ i + n + 1) (d : Nat) (hd : d ≤ 8) {l : Int} (hl : l = 8 - (d : Int)) (h17 : kd T i ≠ 0) {k : Int → Nat → List Nd → Mo} {M : Mo} (C : Im T (ent T d i (.call (.argL d (-1) (-1)) (stp T i) ns k)) M) :
    Calls Tryz.prog 248 #[.pointer (some ⟨A.p, 0, none⟩), .int .i64 l] w (ArP w A T M ns k i) := by
  have Hl : Hid _ := hl
  have Hi : Hid _ := hi
  have l1 : -1 < l := by omega
  have l2 : l < 9 := by omega
  clear hl hi
  have F0 : Fr (PS A) w w := Fr.refl _ _
  have Hs : Hid _ := P.nxt h17
  have C0 : Hid _ := C
  clear C h17
  go_enter Tryz.func248, Tryz.ntmps248
  obtain ⟨r1, r2, r3, r4, r5⟩ := P.r15
  obtain ⟨b1, b2, b3⟩ := P.blt
  go_wp2_with fail
  refine (openC P (d) (by omega) Hl.out C0.out).mono ?_
  rintro v w1 ⟨f1, ⟨h81, rfl, e1, c1⟩ | ⟨rfl, D1⟩⟩
  · subst w1
    have C1 : Hid _ := c1
    clear c1 f1
    go_wp2_with fail
    refine (stepFp P).mono ?_
    rintro v w2 ⟨rfl, P2, f2⟩
    have F2 := F0.trans f2 (fun _ _ h => h)
    clear r1 r2 r3 r4 r5 b1 b2 b3
    obtain ⟨r1, r2, r3, r4, r5⟩ := P2.r15
    obtain ⟨b1, b2, b3⟩ := P2.blt
    go_wp2_with fail
    have HCC : Hid _ := Im.call2 C1.out
    have HQ : Hid _ := P2
    have HF : Hid _ := F2
    clear r1 r2 r3 r4 r5 b1 b2 b3
    go_loopg [5, 6] (T.length + 1) (fun gk fv lv wr => ∃ f la : Int, fv = .int .i64 f ∧ lv = .int .i64 la ∧ Fr (PS A) w wr ∧ -2 < f ∧ f < 200 ∧ -2 < la ∧ la < 200 ∧ (Dd wr A T (body T (.argL d (-1) (-1)) (stp T i) ns) ∨ ∃ j ms, PM wr A T j ms false 0 0 ∧ T.length < j + gk ∧ i < j ∧ ns.length ≤ ms.length ∧ Ch ms.length f la ∧ Im T (body T (.argL d f la) j ms) (body T (.argL d (-1) (-1)) (stp T i) ns)))
    case atStart => exact ⟨-1, -1, rfl, rfl, HF.out, by decide, by decide, by decide, by decide, .inr ⟨_, _, HQ.out, by have := Hs.out; omega, by have := Hs.out; omega, by omega, .inl ⟨rfl, rfl⟩, .refl _⟩⟩
    case round =>
      clear HQ HF P2 F2
      obtain ⟨f, la, rfl, rfl, FJ, fb1, fb2, lb1, lb2, D | ⟨j, ms, Pj, hg, hij, hlen, hch, hc⟩⟩ := hrel
      · obtain ⟨er0, q0, jd0, md0, h00, Pj, hE0⟩ := D
        have HE0 : Hid _ := hE0
        clear hE0
        obtain ⟨r1, r2, r3, r4, r5⟩ := Pj.r15
        obtain ⟨b1, b2, b3⟩ := Pj.blt
        go_wp2_with fail
        refine (take_failed Pj 18).mono ?_
        rintro v w3 ⟨rfl, e3⟩
        subst w3
        go_wp2_with fail
        go_ret
        exact .dead FJ ⟨_, _, _, _, h00, Pj, HCC.out.2 _ _ HE0.out⟩
      · have Hc : Hid _ := hc
        have Hg : Hid _ := hg
        have Hh : Hid _ := hch
        clear hc hg hch
        obtain ⟨r1, r2, r3, r4, r5⟩ := Pj.r15
        obtain ⟨b1, b2, b3⟩ := Pj.blt
        go_wp2_with fail
        refine (kindF Pj).mono ?_
        rintro v w4 ⟨rfl, f4⟩
        have P4 := Pj.same f4
        have F4 := FJ.trans f4 (fun _ _ h => h.elim)
        clear r1 r2 r3 r4 r5 b1 b2 b3
        obtain ⟨r1, r2, r3, r4, r5⟩ := P4.r15
        obtain ⟨b1, b2, b3⟩ := P4.blt
        by_cases k18 : kd T j = 18
        · have hb : (kd T j != 18) = false := by simp [k18]
          have C1 : Hid _ := Im.of (T := T) Hc.out (m := body T (.argL d f la) j ms) (if_pos k18)
          have Hk : Hid _ := k18
          clear k18
          go_wp2_with fail
          refine (takeF P4 18).mono ?_
          rintro v w5 ⟨f5, ⟨k18, rfl, P5⟩ | ⟨k18, rfl, P5⟩⟩
          · clear k18
            go_wp2_with fail
            go_ret
            exact .done (F4.trans f5 (fun _ _ h => h)) P5 (HCC.out.1 _ _ _ C1.out) (by have := stp_le T j; omega) (by have := Ch.b Hh.out Pj.le; omega) (by omega) hlen
          · exact absurd Hk.out k18
        · have hb : (kd T j != 18) = true := by simpa using k18
          have C1 : Hid _ := Im.of (T := T) Hc.out (m := body T (.argL d f la) j ms) (if_neg k18)
          clear k18
          by_cases hf : 0 ≤ f
          · have hla : 0 ≤ la := by have := Ch.b Hh.out Pj.le; omega
            have hlab : decide (la ≥ 0) = true := decide_eq_true (by omega)
            have hfb : decide (f < 0) = false := decide_eq_false (by omega)
            have C2 : Hid _ := Im.com_y C1.out hf
            go_wp2_with fail
            refine (takeC P4 23 (by decide) C2.out).mono ?_
            rintro v w6 ⟨f6, ⟨k6, rfl, P6, hs6, c6⟩ | ⟨rfl, D6⟩⟩
            · have C6 : Hid _ := c6
              have Hk6 : Hid _ := k6
              clear c6 k6
              have F6 := F4.trans f6 (fun _ _ h => h)
              clear r1 r2 r3 r4 r5 b1 b2 b3
              obtain ⟨r1, r2, r3, r4, r5⟩ := P6.r15
              obtain ⟨b1, b2, b3⟩ := P6.blt
              go_wp2_with fail
              refine (H.use (by have := Hi.out; have := stp_le T j; omega) P6 (d := d + 1) (l := l - 1) (by omega) (by have := Hl.out; omega) C6.out).mono ?_
              rintro v w7 ⟨f7, ⟨x7_, j7, m7, rfl, P7, hj7, hx7, hn7, c7⟩ | ⟨rfl, D7⟩⟩
              · have C7 : Hid _ := c7
                have Hx7 : Hid _ := hx7
                have xb7 : x7_ < 200 := by have := P7.le; omega
                have xc7 : -1 < x7_ := by omega
                clear c7 hx7
                have F7 := F6.trans f7 (fun _ _ h => h)
                clear r1 r2 r3 r4 r5 b1 b2 b3
                obtain ⟨r1, r2, r3, r4, r5⟩ := P7.r15
                obtain ⟨b1, b2, b3⟩ := P7.blt
                have HH : Hid (Ch m7.length f la) := Ch.mono Hh.out (by have := Hx7.out; omega)
                have hlx : la < x7_ := by have := Ch.b Hh.out Pj.le; have := Hx7.out; omega
                have CG : Hid _ := Im.grow C7.out
                go_wp2_with fail
                refine (hangL P7 HH.out hlx (by have := Hx7.out; omega)).mono ?_
                rintro v w8 ⟨rfl, P8, f8⟩
                have F8 := F7.trans f8 (fun _ _ h => h)
                clear r1 r2 r3 r4 r5 b1 b2 b3
                obtain ⟨r1, r2, r3, r4, r5⟩ := P8.r15
                obtain ⟨b1, b2, b3⟩ := P8.blt
                go_wp2_with fail
                go_roundg (gk - 1)
                case measure => have := Hg.out; have := P7.lt; have := stp_le T j; omega
                case rel => exact ⟨f, x7_, rfl, rfl, F8, by omega, by omega, by omega, by omega, .inr ⟨_, _, P8, by have := Hg.out; have := stp_le T j; omega, by have := stp_le T j; omega, by rw [lk_len]; have := Hx7.out; omega, by rw [lk_len]; have := Ch.next HH.out (x := x7_) (by omega) (by have := Hx7.out; omega); rw [if_neg (by omega)] at this; exact this, by have := Im.jump CG.out; rw [if_neg (by omega)] at this; exact this⟩⟩
              · obtain ⟨er7, q7, jd7, md7, h07, P7, hE7⟩ := D7
                have HE7 : Hid _ := hE7
                clear hE7
                have F7 := F6.trans f7 (fun _ _ h => h)
                clear r1 r2 r3 r4 r5 b1 b2 b3
                obtain ⟨r1, r2, r3, r4, r5⟩ := P7.r15
                obtain ⟨b1, b2, b3⟩ := P7.blt
                go_wp2_with fail
                refine (hang_no _ (.inl (by decide)) _).mono ?_
                rintro v w9 ⟨rfl, e9⟩
                subst w9
                go_wp2_with fail
                go_roundg 0
                case measure => have := Hg.out; have := Pj.lt; omega
                case rel => exact ⟨f, -1, rfl, rfl, F7, by omega, by omega, by omega, by omega, .inl ⟨_, _, _, _, h07, P7, HE7.out⟩⟩
            · obtain ⟨er6, q6, jd6, md6, h06, P6, hE6⟩ := D6
              have HE6 : Hid _ := hE6
              clear hE6
              have F6 := F4.trans f6 (fun _ _ h => h)
              clear r1 r2 r3 r4 r5 b1 b2 b3
              obtain ⟨r1, r2, r3, r4, r5⟩ := P6.r15
              obtain ⟨b1, b2, b3⟩ := P6.blt
              go_wp2_with fail
              go_ret
              exact .dead F6 ⟨_, _, _, _, h06, P6, HCC.out.2 _ _ HE6.out⟩
          · have hf2 : f < 0 := by omega
            have hla : la < 0 := by have := Ch.b Hh.out Pj.le; omega
            have hlab : decide (la ≥ 0) = false := decide_eq_false (by omega)
            have hfb : decide (f < 0) = true := decide_eq_true (by omega)
            have C2 : Hid _ := Im.com_n C1.out hf2
            clear hf
            go_wp2_with fail
            refine (H.use (by have := Hi.out; have := stp_le T j; omega) P4 (d := d + 1) (l := l - 1) (by omega) (by have := Hl.out; omega) C2.out).mono ?_
            rintro v w10 ⟨f10, ⟨x10_, j10, m10, rfl, P10, hj10, hx10, hn10, c10⟩ | ⟨rfl, D10⟩⟩
            · have C10 : Hid _ := c10
              have Hx10 : Hid _ := hx10
              have xb10 : x10_ < 200 := by have := P10.le; omega
              have xc10 : -1 < x10_ := by omega
              clear c10 hx10
              have F10 := F4.trans f10 (fun _ _ h => h)
              clear r1 r2 r3 r4 r5 b1 b2 b3
              obtain ⟨r1, r2, r3, r4, r5⟩ := P10.r15
              obtain ⟨b1, b2, b3⟩ := P10.blt
              have HH : Hid (Ch m10.length f la) := Ch.mono Hh.out (by have := Hx10.out; omega)
              have hlx : la < x10_ := by have := Ch.b Hh.out Pj.le; have := Hx10.out; omega
              have CG : Hid _ := Im.grow C10.out
              go_wp2_with fail
              refine (hangL P10 HH.out hlx (by have := Hx10.out; omega)).mono ?_
              rintro v w11 ⟨rfl, P11, f11⟩
              have F11 := F10.trans f11 (fun _ _ h => h)
              clear r1 r2 r3 r4 r5 b1 b2 b3
              obtain ⟨r1, r2, r3, r4, r5⟩ := P11.r15
              obtain ⟨b1, b2, b3⟩ := P11.blt
              go_wp2_with fail
              go_roundg (gk - 1)
              case measure => have := Hg.out; have := P10.lt; have := stp_le T j; omega
              case rel => exact ⟨x10_, x10_, rfl, rfl, F11, by omega, by omega, by omega, by omega, .inr ⟨_, _, P11, by have := Hg.out; have := stp_le T j; omega, by have := stp_le T j; omega, by rw [lk_len]; have := Hx10.out; omega, by rw [lk_len]; have := Ch.next HH.out (x := x10_) (by omega) (by have := Hx10.out; omega); rw [if_pos (by omega)] at this; exact this, by have := Im.jump CG.out; rw [if_pos (by omega)] at this; exact this⟩⟩
            · obtain ⟨er10, q10, jd10, md10, h010, P10, hE10⟩ := D10
              have HE10 : Hid _ := hE10
              clear hE10
              have F10 := F4.trans f10 (fun _ _ h => h)
              clear r1 r2 r3 r4 r5 b1 b2 b3
              obtain ⟨r1, r2, r3, r4, r5⟩ := P10.r15
              obtain ⟨b1, b2, b3⟩ := P10.blt
              go_wp2_with fail
              refine (hang_no _ (.inl (by decide)) _).mono ?_
              rintro v w12 ⟨rfl, e12⟩
              subst w12
              go_wp2_with fail
              go_roundg 0
              case measure => have := Hg.out; have := Pj.lt; omega
              case rel => exact ⟨-1, -1, rfl, rfl, F10, by omega, by omega, by omega, by omega, .inl ⟨_, _, _, _, h010, P10, HE10.out⟩⟩
  · obtain ⟨er1, q1, jd1, md1, h01, P1, hE1⟩ := D1
    have HE1 : Hid _ := hE1
    clear hE1
    have F1 := F0.trans f1 (fun _ _ h => h)
    clear r1 r2 r3 r4 r5 b1 b2 b3
    obtain ⟨r1, r2, r3, r4, r5⟩ := P1.r15
    obtain ⟨b1, b2, b3⟩ := P1.blt
    go_wp2_with fail
    go_ret
    exact .dead F1 ⟨_, _, _, _, h01, P1, HE1.out⟩
end
end Go.Proofs.Qxb6500277aGreat
