/- The model parser: expressions whole; block. -/
import Derived.Test.Qxb6500277aGreatQM9
namespace Go.Proofs.Qxb6500277aGreat
open Go Go.RowKit

section
variable {w w' w1 w2 : World} {s tb : Nat} {T : List Tok} {i : Nat} {ns : List Nd} {er q : Int} {nv nv' nv1 nv2 : Value} {S : Nat → Prop} {M : Mo} {K K' : Nat → List Nd → Prop} {g g' : Nat → List Nd → Mo}
theorem primM {n : Nat} (H : LxC T n) (P : SM w s tb T i ns 0 0 nv) (hi : T.length ≤ i + n + 1) (d : Nat) (hd : d ≤ 8) {dv : Int} (hdv : dv = d) : Calls Tryz.prog 246 #[.pointer (some ⟨s, 0, none⟩), .int .i64 dv] w (MPM w s tb T nv i ns (.prim d)) := by
  by_cases k2 : kd T i = 2
  · exact pm2 H P hi d hd hdv k2
  by_cases k10 : kd T i = 10
  · exact pm10 H P hi d hd hdv k10
  by_cases k11 : kd T i = 11
  · exact pm11 H P hi d hd hdv k11
  by_cases k17 : kd T i = 17
  · exact pm17 H P hi d hd hdv k17
  by_cases k12 : kd T i = 12
  · exact pm12 H P hi d hd hdv k12
  by_cases k13 : kd T i = 13
  · exact pm13 H P hi d hd hdv k13
  by_cases k14 : kd T i = 14
  · exact pm14 H P hi d hd hdv k14
  by_cases k1 : kd T i = 1
  · exact pm1 H P hi d hd hdv k1
  exact pmX H P hi d hd hdv k2 k10 k11 k17 k12 k13 k14 k1
theorem levelAll {n : Nat} (Hn : LxC T n) (hu : UxC T (n + 1)) (P : SM w s tb T i ns 0 0 nv) (hi : T.length ≤ i + n + 1) (d : Nat) (hd : d ≤ 8) {dv : Int} (hdv : dv = d) : ∀ (k lv : Nat), lv + k = 6 → 1 ≤ lv → ∀ lvv : Int, lvv = lv → Calls Tryz.prog 238 #[.pointer (some ⟨s, 0, none⟩), .int .i64 lvv, .int .i64 dv] w (MPM w s tb T nv i ns (.lev lv d))
  | 0, lv, hk, h1, lvv, hl => levelL Hn hu P hi d hd hdv lv h1 (by omega) hl (fun h => by omega)
  | k + 1, lv, hk, h1, lvv, hl => levelL Hn hu P hi d hd hdv lv h1 (by omega) hl (fun _ => levelAll Hn hu P hi d hd hdv k (lv + 1) (by omega) (by omega) (lvv + 1) (by omega))
theorem lxAll : ∀ n, LxC T n ∧ UxC T n
  | 0 => ⟨fun w s tb nv i ns lv d lvv dv hi P _ _ _ _ _ => by have := P.lt; omega, fun w s tb nv i ns d dv hi P _ _ => by have := P.lt; omega⟩
  | n + 1 => by
    have H := lxAll n
    have hU : UxC T (n + 1) := fun w s tb nv i ns d dv hi P hd hdv => unL H.2 (fun w s tb nv ns d dv P hd hdv => postL H.1 (fun w s tb nv ns d dv P hd hdv => primM H.1 P (by omega) d hd hdv) P (by omega) d hd hdv) P (by omega) d hd hdv
    exact ⟨fun w s tb nv i ns lv d lvv dv hi P h1 h6 hd hl hdv => levelAll H.1 hU P (by omega) d hd hdv (6 - lv) lv (by omega) h1 lvv hl, hU⟩
theorem lxT : LxC T T.length := (lxAll T.length).1
def BxC (T : List Tok) (n : Nat) : Prop := ∀ (w : World) (s tb : Nat) (nv : Value) (i : Nat) (ns : List Nd) (d : Nat) (dv : Int), T.length ≤ i + n → SM w s tb T i ns 0 0 nv → d ≤ 8 → dv = d → Calls Tryz.prog 175 #[.pointer (some ⟨s, 0, none⟩), .int .i64 dv] w (MPM w s tb T nv i ns (.block d))
def SxC (T : List Tok) (n : Nat) : Prop := ∀ (w : World) (s tb : Nat) (nv : Value) (i : Nat) (ns : List Nd) (d : Nat) (dv : Int), T.length ≤ i + n → SM w s tb T i ns 0 0 nv → d ≤ 8 → dv = d → Calls Tryz.prog 214 #[.pointer (some ⟨s, 0, none⟩), .int .i64 dv] w (MPM w s tb T nv i ns (.stmt d))
set_option maxRecDepth 100000 in
set_option maxHeartbeats 8000000 in
theorem blockM {n : Nat} (HS : SxC T n) (P : SM w s tb T i ns 0 0 nv) (hi : T.length ≤ i + n + 1) (d : Nat) (hd : d ≤ 8) {dv : Int} (hdv : dv = d) : Calls Tryz.prog 175 #[.pointer (some ⟨s, 0, none⟩), .int .i64 dv] w (MPM w s tb T nv i ns (.block d)) := by
  have Hd : Hid _ := hdv
  have Hi : Hid _ := hi
  have l1 : -1 < dv := by omega
  have l2 : dv < 9 := by omega
  clear hdv hi
  have G0 : Gm s w nv w nv := .refl
  obtain ⟨r0, r1, r2, r3, r4⟩ := P.regs
  obtain ⟨b1, b2⟩ := P.blt
  by_cases k19 : kd T i = 19
  · have hb : (kd T i != 19) = false := by simp [k19]
    have Hs : Hid _ := P.nxt (by omega)
    have C0 : Hid _ := Im.of_eq (T := T) (M := body T (.block d) i ns) (if_pos k19)
    have Hk : Hid _ := k19
    clear k19
    go_enter Tryz.func175, Tryz.ntmps175
    go_wp2_with fail
    refine (kindM P).mono ?_
    rintro v w1 ⟨rfl, f1⟩
    have P1 := P.same f1
    have G1 := G0.trans (.same f1)
    clear r0 r1 r2 r3 r4 b1 b2
    go_wp2_with fail
    refine (enterL P1 C0.out (d := d) (by omega) Hd.out).mono ?_
    rintro v w2 (⟨h82, rfl, e2, c2⟩ | ⟨rfl, D2, g2⟩)
    · subst w2
      have C2 : Hid _ := c2
      clear c2
      have HCC : Hid _ := Im.call2 C2.out
      go_wp2_with fail
      refine (wantM P1 19).mono ?_
      rintro v w3 ⟨rfl, g3, ⟨-, P3⟩ | ⟨hk, P3⟩⟩
      · have G3 := G1.trans g3
        go_wp2_with fail
        refine (nodeM 2 (ps T i) _).mono ?_
        rintro v w4 ⟨rfl, f4⟩
        have G4 := G3.trans (.same f4)
        unfold ndV
        have P4 := P3.same f4
        go_wp2_with fail
        have B5 := MP.new P4 (⟨2, -1, -1, -1, -1, 0, ps T i, ⟨#[]⟩⟩)
        have Hn5 : w.heap.size ≤ w4.heap.size := G4.fr.size
        have G5 := G4.alloc (boxN (⟨2, -1, -1, -1, -1, 0, ps T i, ⟨#[]⟩⟩))
        have S8 : MB _ s tb T nv (body T (.blkL d (-1) (-1)) (stp T i) ns) (fun j ms => i < j ∧ ns.length ≤ ms.length ∧ Ch ms.length (-1) (-1)) (fun j ms => body T (.blkL d (-1) (-1)) j ms) w4.heap.size ⟨2, -1, -1, -1, -1, 0, ps T i, ⟨#[]⟩⟩ := B5.mb ⟨by have := Hs.out; omega, by omega, .inl ⟨rfl, rfl⟩⟩ (.refl _)
        have G8 := G5
        have Hnn := Hn5
        generalize w4.heap.size = bx at *
        go_loopg [8] (T.length + 1) (fun gk lv wr => ∃ (f la : Int) (nvr : Value), lv = .int .i64 la ∧ Gm s w nv wr nvr ∧ MB wr s tb T nvr (body T (.blkL d (-1) (-1)) (stp T i) ns) (fun j ms => T.length < j + gk ∧ i < j ∧ ns.length ≤ ms.length ∧ Ch ms.length f la) (fun j ms => body T (.blkL d f la) j ms) bx ⟨2, f, -1, -1, -1, 0, ps T i, ⟨#[]⟩⟩)
        case atStart => exact ⟨-1, -1, nv, rfl, G8, S8.conv (S8.S.mono (fun j ms h => ⟨by omega, h⟩))⟩
        case round =>
          clear S8 G8
          obtain ⟨f, la, nvr, rfl, GJ, BJ⟩ := hrel
          rcases id BJ.S with ⟨j, ms, Pj, hKj, Cj⟩ | ⟨er, q, j, ms, h0, Pj, hE⟩
          · have Hc : Hid _ := Cj
            simp only at Hc
            obtain ⟨hg, hij, hlen, hch⟩ := hKj
            have Hg : Hid _ := hg
            have Hh : Hid (Ch ms.length f la) := hch
            have fb : -2 < f ∧ f < 200 ∧ -2 < la ∧ la < 200 := by have := Ch.b hch Pj.le; omega
            clear Cj hg hch
            obtain ⟨r0, r1, r2, r3, r4⟩ := Pj.regs
            obtain ⟨b1, b2⟩ := Pj.blt
            obtain ⟨x0, x1, x2, x3, x4, x5, x6, x7, xz, xl, xn, xs⟩ := BJ.fx
            go_wp2_with fail
            refine (kindM Pj).mono ?_
            rintro v w6 ⟨rfl, f6⟩
            have P6 := Pj.same f6
            have B6 := BJ.same f6
            have G6 := GJ.trans (.same f6)
            clear r0 r1 r2 r3 r4 b1 b2 x0 x1 x2 x3 x4 x5 x6 x7 xz xl xn xs
            obtain ⟨x0, x1, x2, x3, x4, x5, x6, x7, xz, xl, xn, xs⟩ := B6.fx
            by_cases k20 : kd T j = 20
            · have hb : (kd T j != 20) = false := by simp [k20]
              have C1 : Im T (fin f (stp T j) ms) (body T (.blkL d (-1) (-1)) (stp T i) ns) := Im.of (T := T) Hc.out (m := body T (.blkL d f la) j ms) (if_pos k20)
              have C2 : Im T (wnt T 20 j fun j2 => put ⟨2, f, -1, -1, -1, 0, ps T i, ⟨#[]⟩⟩ j2 ms fin) (body T (.block d) i ns) := by rw [wnt_ok k20]; exact HCC.out.1 _ _ _ C1
              have S9 : St _ s tb T nvr (body T (.block d) i ns) (KK (i + 1) ns.length) (fun j ms => wnt T 20 j fun j2 => put ⟨2, f, -1, -1, -1, 0, ps T i, ⟨#[]⟩⟩ j2 ms fin) := .inl ⟨_, _, P6, ⟨by omega, hlen⟩, C2⟩
              have B9 := MB.mk S9 B6.X B6.ne
              clear k20 C1 C2
              go_wp2_with fail
              refine (want0 (k := 20) (K' := KK (i + 1) ns.length) B9.S (by decide) (fun j ms h => by unfold KK at *; omega)).mono ?_
              rintro v w7 ⟨p7, rfl, S7, g7⟩
              have G7 := G6.trans g7
              have B7 := B9.go g7 S7
              clear x0 x1 x2 x3 x4 x5 x6 x7 xz xl xn xs
              obtain ⟨x0, x1, x2, x3, x4, x5, x6, x7, xz, xl, xn, xs⟩ := B7.fx
              go_wp2_with fail
              refine (addCM (nd := ⟨2, f, -1, -1, -1, 0, ps T i, ⟨#[]⟩⟩) (K' := fun x j ms => i < j ∧ ns.length ≤ ms.length ∧ 0 ≤ x ∧ x < ms.length) B7.S (fun j ms h => by unfold KK at *; simp; omega)).mono ?_
              rintro v w8 ⟨x8_, v8, rfl, S8, g8⟩
              have G8 := G7.trans g8
              have B8 := B7.go g8 S8
              clear x0 x1 x2 x3 x4 x5 x6 x7 xz xl xn xs
              obtain ⟨x0, x1, x2, x3, x4, x5, x6, x7, xz, xl, xn, xs⟩ := B8.fx
              go_wp2_with fail
              go_ret
              exact .done B8.S (fun _ _ h => h) G8
            · have hb : (kd T j != 20) = true := by simpa using k20
              have C1 : Hid _ := Im.of (T := T) Hc.out (m := body T (.blkL d f la) j ms) (if_neg k20)
              clear k20
              have S9 : St _ s tb T nvr (body T (.blkL d (-1) (-1)) (stp T i) ns) (fun j2 ms2 => j2 = j ∧ ms2 = ms) (fun j2 ms2 => .call (.stmt (d + 1)) j2 ms2 fun x j ms => lnk ms f la x fun f ms => .call (.blkL d f x) j ms fin) := .inl ⟨_, _, P6, ⟨rfl, rfl⟩, C1.out⟩
              have B9 := MB.mk S9 B6.X B6.ne
              go_wp2_with fail
              refine (St.call (K' := fun x j2 ms2 => j + 1 ≤ j2 ∧ ms.length ≤ ms2.length ∧ 0 ≤ x ∧ x < ms2.length) B9.S (fun j2 ms2 P h => HS _ s tb nvr j2 ms2 (d + 1) _ (by have := Hi.out; rw [h.1]; omega) P (by omega) (by have := Hd.out; omega)) (fun er q j2 ms2 h0 Pd => absurd (Pd.err0 P6) h0) (fun j2 ms2 x j1 ms1 h h1 h2 h3 h4 => by rw [h.1, h.2] at *; omega)).mono ?_
              rintro v w9 ⟨x9_, v9, rfl, S9, g9⟩
              have G9 := G6.trans g9
              have B9 := B9.go g9 S9
              clear x0 x1 x2 x3 x4 x5 x6 x7 xz xl xn xs
              obtain ⟨x0, x1, x2, x3, x4, x5, x6, x7, xz, xl, xn, xs⟩ := B9.fx
              go_wp2_with fail
              refine (linkC (f := f) (la := la) (x := x9_) (K' := fun f2 j2 ms2 => j + 1 ≤ j2 ∧ ms.length ≤ ms2.length ∧ Ch ms2.length f2 x9_) B9.S (fun j2 ms2 h h1 => by have := Hh.out; unfold Ch at this; omega) (fun j2 ms2 h => ⟨h.1, by rw [lk_len]; omega, by rw [lk_len]; exact Ch.next (Ch.mono Hh.out h.2.1) h.2.2.1 h.2.2.2⟩)).mono ?_
              rintro v w10 ⟨f10_, rfl, S10, g10⟩
              have G10 := G9.trans g10
              have B10 := B9.go g10 S10
              clear x0 x1 x2 x3 x4 x5 x6 x7 xz xl xn xs
              obtain ⟨x0, x1, x2, x3, x4, x5, x6, x7, xz, xl, xn, xs⟩ := B10.fx
              go_wp2_with fail
              have B11 := B10.setA (f10_)
              have G11 := Gm.set (o := 1) (v := .int .i64 (f10_)) G10 Hnn
              have SE := St.jump (qq := fun _ _ => .blkL d f10_ x9_) B11.S
              go_roundg (gk - 1)
              case measure => have := Hg.out; have := Pj.lt; omega
              case rel => exact ⟨f10_, x9_, _, rfl, G11, MB.mk (SE.mono (fun j2 ms2 h => ⟨by have := Hg.out; omega, by omega, by omega, h.2.2⟩)) B11.X B11.ne⟩
          · have hb : (er == 0) = false := by simpa using h0
            have S9 : St _ s tb T nvr (body T (.block d) i ns) (KK (i + 1) ns.length) (fun j ms => wnt T 20 j fun j2 => put ⟨2, f, -1, -1, -1, 0, ps T i, ⟨#[]⟩⟩ j2 ms fin) := .inr ⟨_, _, _, _, h0, Pj, HCC.out.2 _ _ hE⟩
            have B9 := MB.mk S9 BJ.X BJ.ne
            clear hE
            obtain ⟨r0, r1, r2, r3, r4⟩ := Pj.regs
            obtain ⟨b1, b2⟩ := Pj.blt
            obtain ⟨x0, x1, x2, x3, x4, x5, x6, x7, xz, xl, xn, xs⟩ := BJ.fx
            go_wp2_with fail
            refine (want0 (k := 20) (K' := KK (i + 1) ns.length) B9.S (by decide) (fun j ms h => by unfold KK at *; omega)).mono ?_
            rintro v w12 ⟨p12, rfl, S12, g12⟩
            have G12 := GJ.trans g12
            have B12 := B9.go g12 S12
            clear r0 r1 r2 r3 r4 b1 b2 x0 x1 x2 x3 x4 x5 x6 x7 xz xl xn xs
            obtain ⟨x0, x1, x2, x3, x4, x5, x6, x7, xz, xl, xn, xs⟩ := B12.fx
            go_wp2_with fail
            refine (addCM (nd := ⟨2, f, -1, -1, -1, 0, ps T i, ⟨#[]⟩⟩) (K' := fun x j ms => i < j ∧ ns.length ≤ ms.length ∧ 0 ≤ x ∧ x < ms.length) B12.S (fun j ms h => by unfold KK at *; simp; omega)).mono ?_
            rintro v w13 ⟨x13_, v13, rfl, S13, g13⟩
            have G13 := G12.trans g13
            have B13 := B12.go g13 S13
            clear x0 x1 x2 x3 x4 x5 x6 x7 xz xl xn xs
            obtain ⟨x0, x1, x2, x3, x4, x5, x6, x7, xz, xl, xn, xs⟩ := B13.fx
            go_wp2_with fail
            go_ret
            exact .done B13.S (fun _ _ h => h) G13
      · exact absurd Hk.out hk
    · have G2 := G1.trans g2
      go_wp2_with fail
      go_ret
      exact .dead D2 G2
  · have hb : (kd T i != 19) = true := by simpa using k19
    have C0 : Hid _ := Im.of_eq (T := T) (M := body T (.block d) i ns) (if_neg k19)
    clear k19
    go_enter Tryz.func175, Tryz.ntmps175
    go_wp2_with fail
    refine (kindM P).mono ?_
    rintro v w14 ⟨rfl, f14⟩
    have P14 := P.same f14
    have G14 := G0.trans (.same f14)
    clear r0 r1 r2 r3 r4 b1 b2
    go_wp2_with fail
    refine (atMq P14).mono ?_
    rintro v w15 ⟨rfl, f15⟩
    have P15 := P14.same f15
    have G15 := G14.trans (.same f15)
    go_wp2_with fail
    refine (failM P15 10 (ps T i)).mono ?_
    rintro v w16 ⟨rfl, P16, g16⟩
    go_wp2_with fail
    go_ret
    exact .dead ⟨_, _, _, _, by decide, P16, C0.out _ (.ret _)⟩ (G15.trans g16)
end
end Go.Proofs.Qxb6500277aGreat
