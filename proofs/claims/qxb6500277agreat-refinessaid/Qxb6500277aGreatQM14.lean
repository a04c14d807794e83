/- The model parser: functions. -/
import Derived.Test.Qxb6500277aGreatQM13
namespace Go.Proofs.Qxb6500277aGreat
open Go Go.RowKit

section
variable {w w' w1 w2 : World} {s tb : Nat} {T : List Tok} {i : Nat} {ns : List Nd} {er q : Int} {nv nv' nv1 nv2 : Value} {S : Nat → Prop} {M : Mo} {K K' : Nat → List Nd → Prop} {g g' : Nat → List Nd → Mo}
theorem stmtM {n : Nat} (HB : BxC T n) (P : SM w s tb T i ns 0 0 nv) (hi : T.length ≤ i + n + 1) (d : Nat) (hd : d ≤ 8) {dv : Int} (hdv : dv = d) : Calls Tryz.prog 214 #[.pointer (some ⟨s, 0, none⟩), .int .i64 dv] w (MPM w s tb T nv i ns (.stmt d)) := by
  by_cases k4 : kd T i = 4
  · exact sm4 HB P hi d hd hdv k4
  by_cases k5 : kd T i = 5
  · exact sm5 HB P hi d hd hdv k5
  by_cases k7 : kd T i = 7
  · exact sm7 HB P hi d hd hdv k7
  by_cases k8 : kd T i = 8
  · exact sm8 HB P hi d hd hdv k8
  by_cases k9 : kd T i = 9
  · exact sm9 HB P hi d hd hdv k9
  exact smX HB P hi d hd hdv k4 k5 k7 k8 k9
theorem bxAll : ∀ n, BxC T n ∧ SxC T n
  | 0 => ⟨fun w s tb nv i ns d dv hi P _ _ => by have := P.lt; omega, fun w s tb nv i ns d dv hi P _ _ => by have := P.lt; omega⟩
  | n + 1 => by
    have H := bxAll n
    exact ⟨fun w s tb nv i ns d dv hi P hd hdv => blockM H.2 P (by omega) d hd hdv, fun w s tb nv i ns d dv hi P hd hdv => stmtM H.1 P (by omega) d hd hdv⟩
theorem bxT : BxC T T.length := (bxAll T.length).1
theorem St.ex {g : Nat → List Nd → Mo} (h : St w s tb T nv M K g) : (∃ j ms, SM w s tb T j ms 0 0 nv ∧ K j ms ∧ Im T (g j ms) M) ∨ DdM w s tb T nv M := h
set_option maxRecDepth 100000 in
set_option maxHeartbeats 8000000 in
theorem fnMq (P : SM w s tb T i ns 0 0 nv) : Calls Tryz.prog 130 #[.pointer (some ⟨s, 0, none⟩)] w (MPM w s tb T nv i ns .fn) := by
  have G0 : Gm s w nv w nv := .refl
  have S0 : St w s tb T nv (body T .fn i ns) (KK i ns.length) (fun j0 ms => wnt T 3 j0 fun j => wnt T 1 j fun j2 => wnt T 17 j2 fun j3 => .call (.parL (-1) (-1)) j3 ms (fun a j4 ms => wnt T 18 j4 fun j5 => typ T j5 fun t j6 => .call (.block 0) j6 ms fun b j7 ms => put ⟨0, a, b, -1, -1, t, ps T j, (tk T j).text⟩ j7 ms fin)) := .inl ⟨_, _, P, ⟨by omega, by omega⟩, .refl (body T .fn i ns)⟩
  go_enter Tryz.func130, Tryz.ntmps130
  go_wp2_with fail
  refine (want0 (k := 3) (K' := KK (i + 1) ns.length) S0 (by decide) (fun j ms h => by unfold KK at *; omega)).mono ?_
  rintro v w1 ⟨p1, rfl, S1, g1⟩
  have G1 := G0.trans g1
  go_wp2_with fail
  refine (nodeM 0 (0) _).mono ?_
  rintro v w2 ⟨rfl, f2⟩
  have G2 := G1.trans (.same f2)
  unfold ndV
  have S2 := S1.same f2
  go_wp2_with fail
  have B3 := MB.new S2 (⟨0, -1, -1, -1, -1, 0, 0, ⟨#[]⟩⟩)
  have Hn3 : w.heap.size ≤ w2.heap.size := G2.fr.size
  have G3 := G2.alloc (boxN (⟨0, -1, -1, -1, -1, 0, 0, ⟨#[]⟩⟩))
  refine (nameC (g := fun tx p j2 ms => wnt T 17 j2 fun j3 => .call (.parL (-1) (-1)) j3 ms (fun a j4 ms => wnt T 18 j4 fun j5 => typ T j5 fun t j6 => .call (.block 0) j6 ms fun b j7 ms => put ⟨0, a, b, -1, -1, t, p, tx⟩ j7 ms fin)) (K' := KK (i + 1) ns.length) B3.S (fun j ms h => by unfold KK at *; omega)).mono ?_
  rintro v w4 ⟨t4, p4, rfl, S4, g4⟩
  have G4 := G3.trans g4
  have B4 := B3.go g4 S4
  obtain ⟨x0, x1, x2, x3, x4, x5, x6, x7, xz, xl, xn, xs⟩ := B4.fx
  go_wp2_with fail
  have B5 := B4.setS (t4)
  have G5 := Gm.set (o := 7) (v := .string (t4)) G4 Hn3
  have B6 := B5.setP (p4)
  have G6 := Gm.set (o := 6) (v := .int .i64 (p4)) G5 Hn3
  refine (want0 (k := 17) (K' := KK (i + 1) ns.length) B6.S (by decide) (fun j ms h => by unfold KK at *; omega)).mono ?_
  rintro v w7 ⟨p7, rfl, S7, g7⟩
  have G7 := G6.trans g7
  have B7 := B6.go g7 S7
  clear x0 x1 x2 x3 x4 x5 x6 x7 xz xl xn xs
  obtain ⟨x0, x1, x2, x3, x4, x5, x6, x7, xz, xl, xn, xs⟩ := B7.fx
  go_wp2_with fail
  clear x0 x1 x2 x3 x4 x5 x6 x7 xz xl xn xs
  have Hnn := Hn3
  have S8 := B7
  have G8 := G7
  rcases id S8.S with ⟨j0, ms0, P0, hK0, C0⟩ | D0
  · simp only at C0
    have HCC : Hid _ := Im.call2 C0
    clear C0
    have S7 : MB _ s tb T _ (body T (.parL (-1) (-1)) j0 ms0) (fun j ms => j0 ≤ j ∧ ms0.length ≤ ms.length ∧ Ch ms.length (-1) (-1)) (fun j ms => body T (.parL (-1) (-1)) j ms) _ _ := MB.mk (.inl ⟨_, _, P0, ⟨by omega, by omega, .inl ⟨rfl, rfl⟩⟩, .refl _⟩) S8.X S8.ne
    clear S8 P0
    generalize w2.heap.size = bx at *
    go_loopg [4] (T.length + 1) (fun gk lv wr => ∃ (f la : Int) (nvr : Value), lv = .int .i64 la ∧ Gm s w nv wr nvr ∧ MB wr s tb T nvr (body T (.parL (-1) (-1)) j0 ms0) (fun j ms => T.length < j + gk ∧ j0 ≤ j ∧ ms0.length ≤ ms.length ∧ Ch ms.length f la) (fun j ms => body T (.parL f la) j ms) bx ⟨0, f, -1, -1, -1, 0, p4, t4⟩)
    case atStart => exact ⟨-1, -1, _, rfl, G8, S7.conv (S7.S.mono (fun j ms h => ⟨by omega, h⟩))⟩
    case round =>
      clear S7 G8
      obtain ⟨f, la, nvr, rfl, GJ, BJ⟩ := hrel
      rcases id BJ.S with ⟨j, ms, Pj, hKj, Cj⟩ | ⟨er, q, j, ms, h0, Pj, hE⟩
      · have Hc : Hid _ := Cj
        simp only at Hc
        obtain ⟨hg, hij, hlen, hch⟩ := hKj
        have Hg : Hid _ := hg
        have Hh : Hid (Ch ms.length f la) := hch
        have fb : -2 < f ∧ f < 200 ∧ -2 < la ∧ la < 200 := by have := Ch.b hch Pj.le; omega
        clear Cj hg hch
        obtain ⟨r0, r1, r2, r3, r4⟩ := Pj.regs
        obtain ⟨b1, b2⟩ := Pj.blt
        obtain ⟨x0, x1, x2, x3, x4, x5, x6, x7, xz, xl, xn, xs⟩ := BJ.fx
        go_wp2_with fail
        refine (kindM Pj).mono ?_
        rintro v w8 ⟨rfl, f8⟩
        have P8 := Pj.same f8
        have B8 := BJ.same f8
        have G8 := GJ.trans (.same f8)
        clear r0 r1 r2 r3 r4 b1 b2 x0 x1 x2 x3 x4 x5 x6 x7 xz xl xn xs
        obtain ⟨x0, x1, x2, x3, x4, x5, x6, x7, xz, xl, xn, xs⟩ := B8.fx
        by_cases k18 : kd T j = 18
        · have hb : (kd T j != 18) = false := by simp [k18]
          have C1 : Im T (fin f j ms) (body T (.parL (-1) (-1)) j0 ms0) := Im.of (T := T) Hc.out (m := body T (.parL f la) j ms) (if_pos k18)
          have S9 : St _ s tb T nvr (body T .fn i ns) (KK (i + 1) ns.length) (fun j4 ms => wnt T 18 j4 fun j5 => typ T j5 fun t j6 => .call (.block 0) j6 ms fun b j7 ms => put ⟨0, f, b, -1, -1, t, p4, t4⟩ j7 ms fin) := .inl ⟨_, _, P8, by unfold KK at *; omega, HCC.out.1 _ _ _ C1⟩
          have B9 := MB.mk S9 B8.X B8.ne
          clear k18 C1
          go_wp2_with fail
          refine (want0 (k := 18) (K' := KK (i + 1) ns.length) B9.S (by decide) (fun j ms h => by unfold KK at *; omega)).mono ?_
          rintro v w9 ⟨p9, rfl, S9, g9⟩
          have G9 := G8.trans g9
          have B9 := B9.go g9 S9
          clear x0 x1 x2 x3 x4 x5 x6 x7 xz xl xn xs
          obtain ⟨x0, x1, x2, x3, x4, x5, x6, x7, xz, xl, xn, xs⟩ := B9.fx
          go_wp2_with fail
          refine (typCM (K' := KK (i + 1) ns.length) B9.S (fun j ms j1 h h1 => by unfold KK at *; omega)).mono ?_
          rintro v w10 ⟨t10, rfl, S10, g10⟩
          have G10 := G9.trans g10
          have B10 := B9.go g10 S10
          clear x0 x1 x2 x3 x4 x5 x6 x7 xz xl xn xs
          obtain ⟨x0, x1, x2, x3, x4, x5, x6, x7, xz, xl, xn, xs⟩ := B10.fx
          go_wp2_with fail
          have B11 := B10.setV (t10)
          have G11 := Gm.set (o := 5) (v := .int .i64 (t10)) G10 Hnn
          refine (St.call (K' := fun x => KK (i + 1) ns.length) B11.S (fun j ms P h => bxT _ s tb _ j ms 0 0 (by omega) P (by omega) (by rfl)) (fun er q j ms h0 P => (block_dead P h0 _).mono fun e w1 h => ⟨⟨_, h.1⟩, h.2⟩) (fun j ms x j1 ms1 h h1 h2 h3 h4 => by unfold KK at *; omega)).mono ?_
          rintro v w12 ⟨x12_, v12, rfl, S12, g12⟩
          have G12 := G11.trans g12
          have B12 := B11.go g12 S12
          clear x0 x1 x2 x3 x4 x5 x6 x7 xz xl xn xs
          obtain ⟨x0, x1, x2, x3, x4, x5, x6, x7, xz, xl, xn, xs⟩ := B12.fx
          go_wp2_with fail
          have B13 := B12.setB (x12_)
          have G13 := Gm.set (o := 2) (v := .int .i64 (x12_)) G12 Hnn
          refine (addCM (nd := ⟨0, f, x12_, -1, -1, t10, p4, t4⟩) (K' := fun x j ms => i < j ∧ ns.length ≤ ms.length ∧ 0 ≤ x ∧ x < ms.length) B13.S (fun j ms h => by unfold KK at *; simp; omega)).mono ?_
          rintro v w14 ⟨x14_, v14, rfl, S14, g14⟩
          have G14 := G13.trans g14
          have B14 := B13.go g14 S14
          clear x0 x1 x2 x3 x4 x5 x6 x7 xz xl xn xs
          obtain ⟨x0, x1, x2, x3, x4, x5, x6, x7, xz, xl, xn, xs⟩ := B14.fx
          go_wp2_with fail
          go_ret
          exact .done B14.S (fun _ _ h => h) G14
        · have hb : (kd T j != 18) = true := by simpa using k18
          have C1 : Hid _ := Im.of (T := T) Hc.out (m := body T (.parL f la) j ms) (if_neg k18)
          clear k18
          by_cases hf : 0 ≤ f
          · have hfb : decide (f ≥ 0) = true := decide_eq_true (by omega)
            have C2 : Hid _ := Im.com_y C1.out hf
            have S9 : St _ s tb T nvr (body T (.parL (-1) (-1)) j0 ms0) (KK j ms.length) (fun j1 ms2 => wnt T 23 j1 fun j2 => wnt T 1 j2 fun j3 => typ T j3 fun t j4 => put ⟨1, -1, -1, -1, -1, t, ps T j2, (tk T j2).text⟩ j4 ms2 fun x j5 ms => lnk ms f la x fun f ms => .call (.parL f x) j5 ms fin) := .inl ⟨_, _, P8, ⟨by omega, by omega⟩, C2.out⟩
            have B9 := MB.mk S9 B8.X B8.ne
            go_wp2_with fail
            refine (want0 (k := 23) (K' := KK j ms.length) B9.S (by decide) (fun j ms h => by unfold KK at *; omega)).mono ?_
            rintro v w15 ⟨p15, rfl, S15, g15⟩
            have G15 := G8.trans g15
            have B15 := B9.go g15 S15
            clear x0 x1 x2 x3 x4 x5 x6 x7 xz xl xn xs
            obtain ⟨x0, x1, x2, x3, x4, x5, x6, x7, xz, xl, xn, xs⟩ := B15.fx
            go_wp2_with fail
            clear x0 x1 x2 x3 x4 x5 x6 x7 xz xl xn xs
            refine (nodeM 1 (0) _).mono ?_
            rintro v w16 ⟨rfl, f16⟩
            have G16 := G15.trans (.same f16)
            unfold ndV
            have S16 := B15.same f16
            go_wp2_with fail
            have B17 := MB.new S16.S (⟨1, -1, -1, -1, -1, 0, 0, ⟨#[]⟩⟩)
            have XO17 := S16.X.alloc (boxN (⟨1, -1, -1, -1, -1, 0, 0, ⟨#[]⟩⟩))
            have Hb17 : w.heap.size ≤ w16.heap.size := G16.fr.size
            have G17 := G16.alloc (boxN (⟨1, -1, -1, -1, -1, 0, 0, ⟨#[]⟩⟩))
            have nob : bx ≠ w16.heap.size := by have := S16.X.lt; omega
            have ON := S16.ne
            refine (nameC (g := fun tx p j3 ms2 => typ T j3 fun t j4 => put ⟨1, -1, -1, -1, -1, t, p, tx⟩ j4 ms2 fun x j5 ms => lnk ms f la x fun f ms => .call (.parL f x) j5 ms fin) (K' := KK (j + 1) ms.length) B17.S (fun j ms h => by unfold KK at *; omega)).mono ?_
            rintro v w18 ⟨t18, p18, rfl, S18, g18⟩
            have X18 := XO17.frame g18.fr (fun h => h.elim ON.1 ON.2.2)
            have G18 := G17.trans g18
            have B18 := B17.go g18 S18
            obtain ⟨x0, x1, x2, x3, x4, x5, x6, x7, xz, xl, xn, xs⟩ := B18.fx
            go_wp2_with fail
            have B19 := B18.setS (t18)
            have G19 := Gm.set (o := 7) (v := .string (t18)) G18 Hb17
            have B20 := B19.setP (p18)
            have G20 := Gm.set (o := 6) (v := .int .i64 (p18)) G19 Hb17
            have Y18 := (X18.setOther ⟨w16.heap.size, 7, none⟩ (.string t18) nob).setOther ⟨w16.heap.size, 6, none⟩ (.int .i64 p18) nob
            refine (typCM (K' := KK (j + 1) ms.length) B20.S (fun j ms j1 h h1 => by unfold KK at *; omega)).mono ?_
            rintro v w21 ⟨t21, rfl, S21, g21⟩
            have X21 := Y18.frame g21.fr (fun h => h.elim ON.1 ON.2.2)
            have G21 := G20.trans g21
            have B21 := B20.go g21 S21
            clear x0 x1 x2 x3 x4 x5 x6 x7 xz xl xn xs
            obtain ⟨x0, x1, x2, x3, x4, x5, x6, x7, xz, xl, xn, xs⟩ := B21.fx
            go_wp2_with fail
            have B22 := B21.setV (t21)
            have G22 := Gm.set (o := 5) (v := .int .i64 (t21)) G21 Hb17
            have Y21 := X21.setOther ⟨w16.heap.size, 5, none⟩ (.int .i64 t21) nob
            refine (addCM (nd := ⟨1, -1, -1, -1, -1, t21, p18, t18⟩) (K' := fun x j2 ms2 => j ≤ j2 ∧ ms.length ≤ ms2.length ∧ 0 ≤ x ∧ x < ms2.length ∧ j < j2) B22.S (fun j ms h => by unfold KK at *; simp; omega)).mono ?_
            rintro v w23 ⟨x23_, v23, rfl, S23, g23⟩
            have X23 := Y21.frame g23.fr (fun h => h.elim ON.1 ON.2.2)
            have NE23 : bx ≠ s ∧ bx ≠ tb ∧ ¬ isBlk v23 bx := ⟨ON.1, ON.2.1, fun e => (g23.up bx e).elim ON.2.2 (fun e => by have := Y21.lt; omega)⟩
            have G23 := G22.trans g23
            have BO23 := MB.mk S23 X23 NE23
            clear x0 x1 x2 x3 x4 x5 x6 x7 xz xl xn xs
            obtain ⟨x0, x1, x2, x3, x4, x5, x6, x7, xz, xl, xn, xs⟩ := BO23.fx
            go_wp2_with fail
            refine (linkC (f := f) (la := la) (x := x23_) (K' := fun f2 j2 ms2 => j + 1 ≤ j2 ∧ ms.length ≤ ms2.length ∧ Ch ms2.length f2 x23_) BO23.S (fun j2 ms2 h h1 => by have := Hh.out; unfold Ch at this; omega) (fun j2 ms2 h => ⟨by omega, by rw [lk_len]; omega, by rw [lk_len]; exact Ch.next (Ch.mono Hh.out h.2.1) h.2.2.1 h.2.2.2.1⟩)).mono ?_
            rintro v w24 ⟨f24_, rfl, S24, g24⟩
            have G24 := G23.trans g24
            have B24 := BO23.go g24 S24
            clear x0 x1 x2 x3 x4 x5 x6 x7 xz xl xn xs
            obtain ⟨x0, x1, x2, x3, x4, x5, x6, x7, xz, xl, xn, xs⟩ := B24.fx
            go_wp2_with fail
            have B25 := B24.setA (f24_)
            have G25 := Gm.set (o := 1) (v := .int .i64 (f24_)) G24 Hnn
            have SE := St.jump (qq := fun _ _ => .parL f24_ x23_) B25.S
            go_roundg (gk - 1)
            case measure => have := Hg.out; have := Pj.lt; omega
            case rel => exact ⟨f24_, x23_, _, rfl, G25, MB.mk (SE.mono (fun j2 ms2 h => ⟨by have := Hg.out; omega, by omega, by omega, h.2.2⟩)) B25.X B25.ne⟩
          · have hfb : decide (f ≥ 0) = false := decide_eq_false (by omega)
            have C2 : Hid _ := Im.com_n C1.out (by omega)
            have S9 : St _ s tb T nvr (body T (.parL (-1) (-1)) j0 ms0) (KK j ms.length) (fun j2 ms2 => wnt T 1 j2 fun j3 => typ T j3 fun t j4 => put ⟨1, -1, -1, -1, -1, t, ps T j2, (tk T j2).text⟩ j4 ms2 fun x j5 ms => lnk ms f la x fun f ms => .call (.parL f x) j5 ms fin) := .inl ⟨_, _, P8, ⟨by omega, by omega⟩, C2.out⟩
            have B9 := MB.mk S9 B8.X B8.ne
            go_wp2_with fail
            clear x0 x1 x2 x3 x4 x5 x6 x7 xz xl xn xs
            refine (nodeM 1 (0) _).mono ?_
            rintro v w26 ⟨rfl, f26⟩
            have G26 := G8.trans (.same f26)
            unfold ndV
            have S26 := B9.same f26
            go_wp2_with fail
            have B27 := MB.new S26.S (⟨1, -1, -1, -1, -1, 0, 0, ⟨#[]⟩⟩)
            have XO27 := S26.X.alloc (boxN (⟨1, -1, -1, -1, -1, 0, 0, ⟨#[]⟩⟩))
            have Hb27 : w.heap.size ≤ w26.heap.size := G26.fr.size
            have G27 := G26.alloc (boxN (⟨1, -1, -1, -1, -1, 0, 0, ⟨#[]⟩⟩))
            have nob : bx ≠ w26.heap.size := by have := S26.X.lt; omega
            have ON := S26.ne
            refine (nameC (g := fun tx p j3 ms2 => typ T j3 fun t j4 => put ⟨1, -1, -1, -1, -1, t, p, tx⟩ j4 ms2 fun x j5 ms => lnk ms f la x fun f ms => .call (.parL f x) j5 ms fin) (K' := KK (j + 1) ms.length) B27.S (fun j ms h => by unfold KK at *; omega)).mono ?_
            rintro v w28 ⟨t28, p28, rfl, S28, g28⟩
            have X28 := XO27.frame g28.fr (fun h => h.elim ON.1 ON.2.2)
            have G28 := G27.trans g28
            have B28 := B27.go g28 S28
            obtain ⟨x0, x1, x2, x3, x4, x5, x6, x7, xz, xl, xn, xs⟩ := B28.fx
            go_wp2_with fail
            have B29 := B28.setS (t28)
            have G29 := Gm.set (o := 7) (v := .string (t28)) G28 Hb27
            have B30 := B29.setP (p28)
            have G30 := Gm.set (o := 6) (v := .int .i64 (p28)) G29 Hb27
            have Y28 := (X28.setOther ⟨w26.heap.size, 7, none⟩ (.string t28) nob).setOther ⟨w26.heap.size, 6, none⟩ (.int .i64 p28) nob
            refine (typCM (K' := KK (j + 1) ms.length) B30.S (fun j ms j1 h h1 => by unfold KK at *; omega)).mono ?_
            rintro v w31 ⟨t31, rfl, S31, g31⟩
            have X31 := Y28.frame g31.fr (fun h => h.elim ON.1 ON.2.2)
            have G31 := G30.trans g31
            have B31 := B30.go g31 S31
            clear x0 x1 x2 x3 x4 x5 x6 x7 xz xl xn xs
            obtain ⟨x0, x1, x2, x3, x4, x5, x6, x7, xz, xl, xn, xs⟩ := B31.fx
            go_wp2_with fail
            have B32 := B31.setV (t31)
            have G32 := Gm.set (o := 5) (v := .int .i64 (t31)) G31 Hb27
            have Y31 := X31.setOther ⟨w26.heap.size, 5, none⟩ (.int .i64 t31) nob
            refine (addCM (nd := ⟨1, -1, -1, -1, -1, t31, p28, t28⟩) (K' := fun x j2 ms2 => j ≤ j2 ∧ ms.length ≤ ms2.length ∧ 0 ≤ x ∧ x < ms2.length ∧ j < j2) B32.S (fun j ms h => by unfold KK at *; simp; omega)).mono ?_
            rintro v w33 ⟨x33_, v33, rfl, S33, g33⟩
            have X33 := Y31.frame g33.fr (fun h => h.elim ON.1 ON.2.2)
            have NE33 : bx ≠ s ∧ bx ≠ tb ∧ ¬ isBlk v33 bx := ⟨ON.1, ON.2.1, fun e => (g33.up bx e).elim ON.2.2 (fun e => by have := Y31.lt; omega)⟩
            have G33 := G32.trans g33
            have BO33 := MB.mk S33 X33 NE33
            clear x0 x1 x2 x3 x4 x5 x6 x7 xz xl xn xs
            obtain ⟨x0, x1, x2, x3, x4, x5, x6, x7, xz, xl, xn, xs⟩ := BO33.fx
            go_wp2_with fail
            refine (linkC (f := f) (la := la) (x := x33_) (K' := fun f2 j2 ms2 => j + 1 ≤ j2 ∧ ms.length ≤ ms2.length ∧ Ch ms2.length f2 x33_) BO33.S (fun j2 ms2 h h1 => by have := Hh.out; unfold Ch at this; omega) (fun j2 ms2 h => ⟨by omega, by rw [lk_len]; omega, by rw [lk_len]; exact Ch.next (Ch.mono Hh.out h.2.1) h.2.2.1 h.2.2.2.1⟩)).mono ?_
            rintro v w34 ⟨f34_, rfl, S34, g34⟩
            have G34 := G33.trans g34
            have B34 := BO33.go g34 S34
            clear x0 x1 x2 x3 x4 x5 x6 x7 xz xl xn xs
            obtain ⟨x0, x1, x2, x3, x4, x5, x6, x7, xz, xl, xn, xs⟩ := B34.fx
            go_wp2_with fail
            have B35 := B34.setA (f34_)
            have G35 := Gm.set (o := 1) (v := .int .i64 (f34_)) G34 Hnn
            have SE := St.jump (qq := fun _ _ => .parL f34_ x33_) B35.S
            go_roundg (gk - 1)
            case measure => have := Hg.out; have := Pj.lt; omega
            case rel => exact ⟨f34_, x33_, _, rfl, G35, MB.mk (SE.mono (fun j2 ms2 h => ⟨by have := Hg.out; omega, by omega, by omega, h.2.2⟩)) B35.X B35.ne⟩
      · have hb : (er == 0) = false := by simpa using h0
        have S9 : St _ s tb T nvr (body T .fn i ns) (KK (i + 1) ns.length) (fun j4 ms => wnt T 18 j4 fun j5 => typ T j5 fun t j6 => .call (.block 0) j6 ms fun b j7 ms => put ⟨0, f, b, -1, -1, t, p4, t4⟩ j7 ms fin) := .inr ⟨_, _, _, _, h0, Pj, HCC.out.2 _ _ hE⟩
        have B9 := MB.mk S9 BJ.X BJ.ne
        clear hE
        obtain ⟨r0, r1, r2, r3, r4⟩ := Pj.regs
        obtain ⟨b1, b2⟩ := Pj.blt
        obtain ⟨x0, x1, x2, x3, x4, x5, x6, x7, xz, xl, xn, xs⟩ := BJ.fx
        go_wp2_with fail
        refine (want0 (k := 18) (K' := KK (i + 1) ns.length) B9.S (by decide) (fun j ms h => by unfold KK at *; omega)).mono ?_
        rintro v w36 ⟨p36, rfl, S36, g36⟩
        have G36 := GJ.trans g36
        have B36 := B9.go g36 S36
        clear r0 r1 r2 r3 r4 b1 b2 x0 x1 x2 x3 x4 x5 x6 x7 xz xl xn xs
        obtain ⟨x0, x1, x2, x3, x4, x5, x6, x7, xz, xl, xn, xs⟩ := B36.fx
        go_wp2_with fail
        refine (typCM (K' := KK (i + 1) ns.length) B36.S (fun j ms j1 h h1 => by unfold KK at *; omega)).mono ?_
        rintro v w37 ⟨t37, rfl, S37, g37⟩
        have G37 := G36.trans g37
        have B37 := B36.go g37 S37
        clear x0 x1 x2 x3 x4 x5 x6 x7 xz xl xn xs
        obtain ⟨x0, x1, x2, x3, x4, x5, x6, x7, xz, xl, xn, xs⟩ := B37.fx
        go_wp2_with fail
        have B38 := B37.setV (t37)
        have G38 := Gm.set (o := 5) (v := .int .i64 (t37)) G37 Hnn
        refine (St.call (K' := fun x => KK (i + 1) ns.length) B38.S (fun j ms P h => bxT _ s tb _ j ms 0 0 (by omega) P (by omega) (by rfl)) (fun er q j ms h0 P => (block_dead P h0 _).mono fun e w1 h => ⟨⟨_, h.1⟩, h.2⟩) (fun j ms x j1 ms1 h h1 h2 h3 h4 => by unfold KK at *; omega)).mono ?_
        rintro v w39 ⟨x39_, v39, rfl, S39, g39⟩
        have G39 := G38.trans g39
        have B39 := B38.go g39 S39
        clear x0 x1 x2 x3 x4 x5 x6 x7 xz xl xn xs
        obtain ⟨x0, x1, x2, x3, x4, x5, x6, x7, xz, xl, xn, xs⟩ := B39.fx
        go_wp2_with fail
        have B40 := B39.setB (x39_)
        have G40 := Gm.set (o := 2) (v := .int .i64 (x39_)) G39 Hnn
        refine (addCM (nd := ⟨0, f, x39_, -1, -1, t37, p4, t4⟩) (K' := fun x j ms => i < j ∧ ns.length ≤ ms.length ∧ 0 ≤ x ∧ x < ms.length) B40.S (fun j ms h => by unfold KK at *; simp; omega)).mono ?_
        rintro v w41 ⟨x41_, v41, rfl, S41, g41⟩
        have G41 := G40.trans g41
        have B41 := B40.go g41 S41
        clear x0 x1 x2 x3 x4 x5 x6 x7 xz xl xn xs
        obtain ⟨x0, x1, x2, x3, x4, x5, x6, x7, xz, xl, xn, xs⟩ := B41.fx
        go_wp2_with fail
        go_ret
        exact .done B41.S (fun _ _ h => h) G41
  · have B9 : MB _ s tb T _ (body T .fn i ns) (KK (i + 1) ns.length) (fun j4 ms => wnt T 18 j4 fun j5 => typ T j5 fun t j6 => .call (.block 0) j6 ms fun b j7 ms => put ⟨0, -1, b, -1, -1, t, p4, t4⟩ j7 ms fin) _ _ := MB.mk (.inr D0) S8.X S8.ne
    obtain ⟨er, q, j, ms, h0, Pj, hE⟩ := D0
    have hb : (er == 0) = false := by simpa using h0
    clear hE S8
    obtain ⟨r0, r1, r2, r3, r4⟩ := Pj.regs
    obtain ⟨b1, b2⟩ := Pj.blt
    obtain ⟨x0, x1, x2, x3, x4, x5, x6, x7, xz, xl, xn, xs⟩ := B9.fx
    refine wp_loop_rounds 1 ?_
    rw [rounds_succ]
    go_wp2_with fail
    refine (want0 (k := 18) (K' := KK (i + 1) ns.length) B9.S (by decide) (fun j ms h => by unfold KK at *; omega)).mono ?_
    rintro v w42 ⟨p42, rfl, S42, g42⟩
    have G42 := G8.trans g42
    have B42 := B9.go g42 S42
    clear r0 r1 r2 r3 r4 b1 b2 x0 x1 x2 x3 x4 x5 x6 x7 xz xl xn xs
    obtain ⟨x0, x1, x2, x3, x4, x5, x6, x7, xz, xl, xn, xs⟩ := B42.fx
    go_wp2_with fail
    refine (typCM (K' := KK (i + 1) ns.length) B42.S (fun j ms j1 h h1 => by unfold KK at *; omega)).mono ?_
    rintro v w43 ⟨t43, rfl, S43, g43⟩
    have G43 := G42.trans g43
    have B43 := B42.go g43 S43
    clear x0 x1 x2 x3 x4 x5 x6 x7 xz xl xn xs
    obtain ⟨x0, x1, x2, x3, x4, x5, x6, x7, xz, xl, xn, xs⟩ := B43.fx
    go_wp2_with fail
    have B44 := B43.setV (t43)
    have G44 := Gm.set (o := 5) (v := .int .i64 (t43)) G43 Hn3
    refine (St.call (K' := fun x => KK (i + 1) ns.length) B44.S (fun j ms P h => bxT _ s tb _ j ms 0 0 (by omega) P (by omega) (by rfl)) (fun er q j ms h0 P => (block_dead P h0 _).mono fun e w1 h => ⟨⟨_, h.1⟩, h.2⟩) (fun j ms x j1 ms1 h h1 h2 h3 h4 => by unfold KK at *; omega)).mono ?_
    rintro v w45 ⟨x45_, v45, rfl, S45, g45⟩
    have G45 := G44.trans g45
    have B45 := B44.go g45 S45
    clear x0 x1 x2 x3 x4 x5 x6 x7 xz xl xn xs
    obtain ⟨x0, x1, x2, x3, x4, x5, x6, x7, xz, xl, xn, xs⟩ := B45.fx
    go_wp2_with fail
    have B46 := B45.setB (x45_)
    have G46 := Gm.set (o := 2) (v := .int .i64 (x45_)) G45 Hn3
    refine (addCM (nd := ⟨0, -1, x45_, -1, -1, t43, p4, t4⟩) (K' := fun x j ms => i < j ∧ ns.length ≤ ms.length ∧ 0 ≤ x ∧ x < ms.length) B46.S (fun j ms h => by unfold KK at *; simp; omega)).mono ?_
    rintro v w47 ⟨x47_, v47, rfl, S47, g47⟩
    have G47 := G46.trans g47
    have B47 := B46.go g47 S47
    clear x0 x1 x2 x3 x4 x5 x6 x7 xz xl xn xs
    obtain ⟨x0, x1, x2, x3, x4, x5, x6, x7, xz, xl, xn, xs⟩ := B47.fx
    go_wp2_with fail
    go_ret
    exact .done B47.S (fun _ _ h => h) G47
end
end Go.Proofs.Qxb6500277aGreat
