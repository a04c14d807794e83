/- The model parser: primary: calls. -/
import Derived.Test.Qxb6500277aGreatQM8
namespace Go.Proofs.Qxb6500277aGreat
open Go Go.RowKit

section
variable {w w' w1 w2 : World} {s tb : Nat} {T : List Tok} {i : Nat} {ns : List Nd} {er q : Int} {nv nv' nv1 nv2 : Value} {S : Nat → Prop} {M : Mo} {K K' : Nat → List Nd → Prop} {g g' : Nat → List Nd → Mo}
set_option maxRecDepth 100000 in
set_option maxHeartbeats 8000000 in
theorem pm1 {n : Nat} (H : LxC T n) (P : SM w s tb T i ns 0 0 nv) (hi : T.length ≤ i + n + 1) (d : Nat) (hd : d ≤ 8) {dv : Int} (hdv : dv = d) (k0 : kd T i = 1) :
    Calls Tryz.prog 246 #[.pointer (some ⟨s, 0, none⟩), .int .i64 dv] w (MPM w s tb T nv i ns (.prim d)) := by
  have Hd : Hid _ := hdv
  have Hi : Hid _ := hi
  have l1 : -1 < dv := by omega
  have l2 : dv < 9 := by omega
  clear hdv hi
  have G0 : Gm s w nv w nv := .refl
  obtain ⟨r0, r1, r2, r3, r4⟩ := P.regs
  obtain ⟨b1, b2⟩ := P.blt
  obtain ⟨q0, q1, q2, q3⟩ := P.cellK
  obtain ⟨i1, i2⟩ := P.ib
  have hlt : decide ((i : Int) < (T.length : Nat)) = true := decide_eq_true (by have := P.lt; omega)
  have hl0 := P.lt
  have C0 : Hid _ := Im.of_eq (T := T) (M := body T (.prim d) i ns) ((if_neg (by omega)).trans ((if_neg (by omega)).trans ((if_neg (by omega)).trans ((if_neg (by omega)).trans ((if_neg (by omega)).trans ((if_neg (by omega)).trans ((if_neg (by omega)).trans (if_pos k0))))))))
  have Hs : Hid _ := P.nxt (by omega)
  have z2 : (kd T i == 2) = false := by simp [k0]
  have z10 : (kd T i == 10) = false := by simp [k0]
  have z11 : (kd T i == 11) = false := by simp [k0]
  have z17 : (kd T i == 17) = false := by simp [k0]
  have z12 : (kd T i == 12) = false := by simp [k0]
  have z13 : (kd T i == 13) = false := by simp [k0]
  have z14 : (kd T i == 14) = false := by simp [k0]
  have z1 : (kd T i == 1) = true := by simp [k0]
  clear k0
  go_enter Tryz.func246, Tryz.ntmps246
  go_wp2_with fail
  refine wp_region_text (by kernel_rfl) (by kernel_rfl) ?_
  go_wp2_with fail
  refine ⟨by kernel_rfl, ?_⟩
  generalize hw0 : World.drew _ = w0
  have f0 : Fr (fun _ => False) w w0 := by rw [← hw0]; exact ((Fr.refl _ _).alloc _).drew
  have X0 : Blk w0 w.heap.size 4 (tokCell (tk T i)) := by rw [← hw0]; exact (boxT_blk w (tk T i)).drew
  have P0 := P.same f0
  have GA := G0.trans (.same f0)
  have tne : w.heap.size ≠ s ∧ w.heap.size ≠ tb ∧ ¬ isBlk nv w.heap.size := ⟨by have := P.blt; omega, by have := P.blt; omega, fun h => by have := P.arr.lt h; omega⟩
  clear hw0
  clear r0 r1 r2 r3 r4 b1 b2 q0 q1 q2 q3 i1 i2 hlt hl0
  obtain ⟨t0, t1, t2, t3, t4⟩ := tokX X0
  go_wp2_with fail
  refine (nodeM 0 (ps T i) _).mono ?_
  rintro v w49 ⟨rfl, f49⟩
  have G49 := GA.trans (.same f49)
  unfold ndV
  have P49 := P0.same f49
  have X49 := X0.frame f49 (fun h => h)
  clear t0 t1 t2 t3 t4
  obtain ⟨t0, t1, t2, t3, t4⟩ := tokX X49
  go_wp2_with fail
  have B50 := MP.new P49 (⟨0, -1, -1, -1, -1, 0, ps T i, ⟨#[]⟩⟩)
  have Hn50 : w.heap.size ≤ w49.heap.size := G49.fr.size
  have G50 := G49.alloc (boxN (⟨0, -1, -1, -1, -1, 0, ps T i, ⟨#[]⟩⟩))
  have X9 := X49.alloc (boxN (⟨0, -1, -1, -1, -1, 0, ps T i, ⟨#[]⟩⟩))
  refine (nextM B50.P).mono ?_
  rintro v w52 ⟨rfl, P52, g52⟩
  have B52 := B50.go g52 P52
  have G52 := G50.trans g52
  have X52 := X9.frame g52.fr (fun h => h.elim tne.1 tne.2.2)
  have tnb : w.heap.size ≠ w49.heap.size := by have := X49.lt; omega
  clear t0 t1 t2 t3 t4
  obtain ⟨x0, x1, x2, x3, x4, x5, x6, x7, xz, xl, xn, xs⟩ := B52.fx
  obtain ⟨t0, t1, t2, t3, t4⟩ := tokX X52
  go_wp2_with fail
  go_region
  go_wp2_with fail
  generalize hw53 : World.drew _ = w53
  have B53 : MP w53 s tb T (stp T i) ns nv w49.heap.size ⟨12, -1, -1, -1, -1, 0, ps T i, (tk T i).text⟩ := by rw [← hw53]; exact ((B52.setK 12).setS (tk T i).text).same (Fr.refl _ _).drew
  have G53 : Gm s w nv w53 nv := by rw [← hw53]; exact ((G52.set Hn50).set Hn50).trans (.same (Fr.refl _ _).drew)
  clear hw53
  clear x0 x1 x2 x3 x4 x5 x6 x7 xz xl xn xs t0 t1 t2 t3 t4
  obtain ⟨x0, x1, x2, x3, x4, x5, x6, x7, xz, xl, xn, xs⟩ := B53.fx
  go_wp2_with fail
  refine (kindM B53.P).mono ?_
  rintro v w54 ⟨rfl, f54⟩
  have B54 := B53.same f54
  have G54 := G53.trans (.same f54)
  clear x0 x1 x2 x3 x4 x5 x6 x7 xz xl xn xs
  obtain ⟨x0, x1, x2, x3, x4, x5, x6, x7, xz, xl, xn, xs⟩ := B54.fx
  by_cases k17 : kd T (stp T i) = 17
  · have zz : (kd T (stp T i) == 17) = true := by simp [k17]
    have C9 : Hid _ := Im.of (T := T) C0.out (if_pos k17)
    have Hs2 : Hid _ := B54.P.nxt (by omega)
    clear k17
    go_wp2_with fail
    refine (enterL B54.P C9.out (d := d) (by omega) Hd.out).mono ?_
    rintro v w55 (⟨h855, rfl, e55, c55⟩ | ⟨rfl, D55, g55⟩)
    · subst w55
      have HCC : Hid _ := Im.call2 c55
      clear c55
      go_wp2_with fail
      refine (nextM B54.P).mono ?_
      rintro v w56 ⟨rfl, P56, g56⟩
      have B56 := B54.go g56 P56
      have G56 := G54.trans g56
      clear x0 x1 x2 x3 x4 x5 x6 x7 xz xl xn xs
      obtain ⟨x0, x1, x2, x3, x4, x5, x6, x7, xz, xl, xn, xs⟩ := B56.fx
      go_wp2_with fail
      have B57 := B56.setK (13)
      have G57 := Gm.set (o := 0) (v := .int .i64 (13)) G56 Hn50
      have S8 : MB _ s tb T nv (body T (.argL d (-1) (-1)) (stp T (stp T i)) ns) (fun j ms => i < j ∧ ns.length ≤ ms.length ∧ Ch ms.length (-1) (-1)) (fun j ms => body T (.argL d (-1) (-1)) j ms) w49.heap.size ⟨13, -1, -1, -1, -1, 0, ps T i, (tk T i).text⟩ := B57.mb ⟨by have := Hs.out; have := Hs2.out; omega, by omega, .inl ⟨rfl, rfl⟩⟩ (.refl _)
      have G8 := G57
      clear x0 x1 x2 x3 x4 x5 x6 x7 xz xl xn xs
      have Hnn := Hn50
      generalize w49.heap.size = bx at *
      go_loopg [7] (T.length + 1) (fun gk lv wr => ∃ (f la : Int) (nvr : Value), lv = .int .i64 la ∧ Gm s w nv wr nvr ∧ MB wr s tb T nvr (body T (.argL d (-1) (-1)) (stp T (stp T i)) ns) (fun j ms => T.length < j + gk ∧ i < j ∧ ns.length ≤ ms.length ∧ Ch ms.length f la) (fun j ms => body T (.argL d f la) j ms) bx ⟨13, f, -1, -1, -1, 0, ps T i, (tk T i).text⟩)
      case atStart => exact ⟨-1, -1, nv, rfl, G8, S8.conv (S8.S.mono (fun j ms h => ⟨by omega, h⟩))⟩
      case round =>
        clear S8 G8
        obtain ⟨f, la, nvr, rfl, GJ, BJ⟩ := hrel
        rcases id BJ.S with ⟨j, ms, Pj, hKj, Cj⟩ | ⟨er, q, j, ms, h0, Pj, hE⟩
        · have Hc : Hid _ := Cj
          simp only at Hc
          obtain ⟨hg, hij, hlen, hch⟩ := hKj
          have Hg : Hid _ := hg
          have Hh : Hid (Ch ms.length f la) := hch
          have fb : -2 < f ∧ f < 200 ∧ -2 < la ∧ la < 200 := by have := Ch.b hch Pj.le; omega
          clear Cj hg hch
          obtain ⟨r0, r1, r2, r3, r4⟩ := Pj.regs
          obtain ⟨b1, b2⟩ := Pj.blt
          obtain ⟨x0, x1, x2, x3, x4, x5, x6, x7, xz, xl, xn, xs⟩ := BJ.fx
          go_wp2_with fail
          refine (kindM Pj).mono ?_
          rintro v w58 ⟨rfl, f58⟩
          have P58 := Pj.same f58
          have B58 := BJ.same f58
          have G58 := GJ.trans (.same f58)
          clear r0 r1 r2 r3 r4 b1 b2 x0 x1 x2 x3 x4 x5 x6 x7 xz xl xn xs
          obtain ⟨x0, x1, x2, x3, x4, x5, x6, x7, xz, xl, xn, xs⟩ := B58.fx
          by_cases k18 : kd T j = 18
          · have hb : (kd T j != 18) = false := by simp [k18]
            have C1 : Im T (fin f (stp T j) ms) (body T (.argL d (-1) (-1)) (stp T (stp T i)) ns) := Im.of (T := T) Hc.out (m := body T (.argL d f la) j ms) (if_pos k18)
            have C2 : Im T (wnt T 18 j fun j2 => put ⟨13, f, -1, -1, -1, 0, ps T i, (tk T i).text⟩ j2 ms fin) (body T (.prim d) i ns) := by rw [wnt_ok k18]; exact HCC.out.1 _ _ _ C1
            have S9 : St _ s tb T nvr (body T (.prim d) i ns) (KK (i + 1) ns.length) (fun j ms => wnt T 18 j fun j2 => put ⟨13, f, -1, -1, -1, 0, ps T i, (tk T i).text⟩ j2 ms fin) := .inl ⟨_, _, P58, ⟨by omega, hlen⟩, C2⟩
            have B9 := MB.mk S9 B58.X B58.ne
            clear k18 C1 C2
            go_wp2_with fail
            refine (want0 (k := 18) (K' := KK (i + 1) ns.length) B9.S (by decide) (fun j ms h => by unfold KK at *; omega)).mono ?_
            rintro v w59 ⟨p59, rfl, S59, g59⟩
            have G59 := G58.trans g59
            have B59 := B9.go g59 S59
            clear x0 x1 x2 x3 x4 x5 x6 x7 xz xl xn xs
            obtain ⟨x0, x1, x2, x3, x4, x5, x6, x7, xz, xl, xn, xs⟩ := B59.fx
            go_wp2_with fail
            refine (addCM (nd := ⟨13, f, -1, -1, -1, 0, ps T i, (tk T i).text⟩) (K' := fun x j ms => i < j ∧ ns.length ≤ ms.length ∧ 0 ≤ x ∧ x < ms.length) B59.S (fun j ms h => by unfold KK at *; simp; omega)).mono ?_
            rintro v w60 ⟨x60_, v60, rfl, S60, g60⟩
            have G60 := G59.trans g60
            have B60 := B59.go g60 S60
            clear x0 x1 x2 x3 x4 x5 x6 x7 xz xl xn xs
            obtain ⟨x0, x1, x2, x3, x4, x5, x6, x7, xz, xl, xn, xs⟩ := B60.fx
            go_wp2_with fail
            go_ret
            exact .done B60.S (fun _ _ h => h) G60
          · have hb : (kd T j != 18) = true := by simpa using k18
            have C1 : Hid _ := Im.of (T := T) Hc.out (m := body T (.argL d f la) j ms) (if_neg k18)
            clear k18
            by_cases hf : 0 ≤ f
            · have hfb : decide (f ≥ 0) = true := decide_eq_true (by omega)
              have C2 : Hid _ := Im.com_y C1.out hf
              have S9 : St _ s tb T nvr (body T (.argL d (-1) (-1)) (stp T (stp T i)) ns) (KK j ms.length) (fun j2 ms2 => wnt T 23 j2 fun j3 => .call (.lev 1 (d + 1)) j3 ms2 fun x j ms => lnk ms f la x fun f ms => .call (.argL d f x) j ms fin) := .inl ⟨_, _, P58, ⟨by omega, by omega⟩, C2.out⟩
              have B9 := MB.mk S9 B58.X B58.ne
              go_wp2_with fail
              refine (want0 (k := 23) (K' := KK j ms.length) B9.S (by decide) (fun j ms h => by unfold KK at *; omega)).mono ?_
              rintro v w61 ⟨p61, rfl, S61, g61⟩
              have G61 := G58.trans g61
              have B61 := B9.go g61 S61
              clear x0 x1 x2 x3 x4 x5 x6 x7 xz xl xn xs
              obtain ⟨x0, x1, x2, x3, x4, x5, x6, x7, xz, xl, xn, xs⟩ := B61.fx
              go_wp2_with fail
              refine (H.use (d := d + 1) (fun x j2 ms2 => j + 1 ≤ j2 ∧ ms.length ≤ ms2.length ∧ 0 ≤ x ∧ x < ms2.length) B61.S (fun j ms h => by have := Hi.out; unfold KK at h; omega) (by omega) (by have := Hd.out; omega) (fun j ms x j1 ms1 h h1 h2 h3 h4 => by unfold KK at *; omega)).mono ?_
              rintro v w62 ⟨x62_, rfl, v62, S62, g62⟩
              have G62 := G61.trans g62
              have B62 := B61.go g62 S62
              clear x0 x1 x2 x3 x4 x5 x6 x7 xz xl xn xs
              obtain ⟨x0, x1, x2, x3, x4, x5, x6, x7, xz, xl, xn, xs⟩ := B62.fx
              go_wp2_with fail
              refine (linkC (f := f) (la := la) (x := x62_) (K' := fun f2 j2 ms2 => j + 1 ≤ j2 ∧ ms.length ≤ ms2.length ∧ Ch ms2.length f2 x62_) B62.S (fun j2 ms2 h h1 => by have := Hh.out; unfold Ch at this; omega) (fun j2 ms2 h => ⟨h.1, by rw [lk_len]; omega, by rw [lk_len]; exact Ch.next (Ch.mono Hh.out h.2.1) h.2.2.1 h.2.2.2⟩)).mono ?_
              rintro v w63 ⟨f63_, rfl, S63, g63⟩
              have G63 := G62.trans g63
              have B63 := B62.go g63 S63
              clear x0 x1 x2 x3 x4 x5 x6 x7 xz xl xn xs
              obtain ⟨x0, x1, x2, x3, x4, x5, x6, x7, xz, xl, xn, xs⟩ := B63.fx
              go_wp2_with fail
              have B64 := B63.setA (f63_)
              have G64 := Gm.set (o := 1) (v := .int .i64 (f63_)) G63 Hnn
              have SE := St.jump (qq := fun _ _ => .argL d f63_ x62_) B64.S
              go_roundg (gk - 1)
              case measure => have := Hg.out; have := Pj.lt; omega
              case rel => exact ⟨f63_, x62_, _, rfl, G64, MB.mk (SE.mono (fun j2 ms2 h => ⟨by have := Hg.out; omega, by omega, by omega, h.2.2⟩)) B64.X B64.ne⟩
            · have hfb : decide (f ≥ 0) = false := decide_eq_false (by omega)
              have C2 : Hid _ := Im.com_n C1.out (by omega)
              have S9 : St _ s tb T nvr (body T (.argL d (-1) (-1)) (stp T (stp T i)) ns) (KK j ms.length) (fun j2 ms2 => .call (.lev 1 (d + 1)) j2 ms2 fun x j ms => lnk ms f la x fun f ms => .call (.argL d f x) j ms fin) := .inl ⟨_, _, P58, ⟨by omega, by omega⟩, C2.out⟩
              have B9 := MB.mk S9 B58.X B58.ne
              go_wp2_with fail
              refine (H.use (d := d + 1) (fun x j2 ms2 => j + 1 ≤ j2 ∧ ms.length ≤ ms2.length ∧ 0 ≤ x ∧ x < ms2.length) B9.S (fun j ms h => by have := Hi.out; unfold KK at h; omega) (by omega) (by have := Hd.out; omega) (fun j ms x j1 ms1 h h1 h2 h3 h4 => by unfold KK at *; omega)).mono ?_
              rintro v w65 ⟨x65_, rfl, v65, S65, g65⟩
              have G65 := G58.trans g65
              have B65 := B9.go g65 S65
              clear x0 x1 x2 x3 x4 x5 x6 x7 xz xl xn xs
              obtain ⟨x0, x1, x2, x3, x4, x5, x6, x7, xz, xl, xn, xs⟩ := B65.fx
              go_wp2_with fail
              refine (linkC (f := f) (la := la) (x := x65_) (K' := fun f2 j2 ms2 => j + 1 ≤ j2 ∧ ms.length ≤ ms2.length ∧ Ch ms2.length f2 x65_) B65.S (fun j2 ms2 h h1 => by have := Hh.out; unfold Ch at this; omega) (fun j2 ms2 h => ⟨h.1, by rw [lk_len]; omega, by rw [lk_len]; exact Ch.next (Ch.mono Hh.out h.2.1) h.2.2.1 h.2.2.2⟩)).mono ?_
              rintro v w66 ⟨f66_, rfl, S66, g66⟩
              have G66 := G65.trans g66
              have B66 := B65.go g66 S66
              clear x0 x1 x2 x3 x4 x5 x6 x7 xz xl xn xs
              obtain ⟨x0, x1, x2, x3, x4, x5, x6, x7, xz, xl, xn, xs⟩ := B66.fx
              go_wp2_with fail
              have B67 := B66.setA (f66_)
              have G67 := Gm.set (o := 1) (v := .int .i64 (f66_)) G66 Hnn
              have SE := St.jump (qq := fun _ _ => .argL d f66_ x65_) B67.S
              go_roundg (gk - 1)
              case measure => have := Hg.out; have := Pj.lt; omega
              case rel => exact ⟨f66_, x65_, _, rfl, G67, MB.mk (SE.mono (fun j2 ms2 h => ⟨by have := Hg.out; omega, by omega, by omega, h.2.2⟩)) B67.X B67.ne⟩
        · have hb : (er == 0) = false := by simpa using h0
          have S9 : St _ s tb T nvr (body T (.prim d) i ns) (KK (i + 1) ns.length) (fun j ms => wnt T 18 j fun j2 => put ⟨13, f, -1, -1, -1, 0, ps T i, (tk T i).text⟩ j2 ms fin) := .inr ⟨_, _, _, _, h0, Pj, HCC.out.2 _ _ hE⟩
          have B9 := MB.mk S9 BJ.X BJ.ne
          clear hE
          obtain ⟨r0, r1, r2, r3, r4⟩ := Pj.regs
          obtain ⟨b1, b2⟩ := Pj.blt
          obtain ⟨x0, x1, x2, x3, x4, x5, x6, x7, xz, xl, xn, xs⟩ := BJ.fx
          go_wp2_with fail
          refine (want0 (k := 18) (K' := KK (i + 1) ns.length) B9.S (by decide) (fun j ms h => by unfold KK at *; omega)).mono ?_
          rintro v w68 ⟨p68, rfl, S68, g68⟩
          have G68 := GJ.trans g68
          have B68 := B9.go g68 S68
          clear r0 r1 r2 r3 r4 b1 b2 x0 x1 x2 x3 x4 x5 x6 x7 xz xl xn xs
          obtain ⟨x0, x1, x2, x3, x4, x5, x6, x7, xz, xl, xn, xs⟩ := B68.fx
          go_wp2_with fail
          refine (addCM (nd := ⟨13, f, -1, -1, -1, 0, ps T i, (tk T i).text⟩) (K' := fun x j ms => i < j ∧ ns.length ≤ ms.length ∧ 0 ≤ x ∧ x < ms.length) B68.S (fun j ms h => by unfold KK at *; simp; omega)).mono ?_
          rintro v w69 ⟨x69_, v69, rfl, S69, g69⟩
          have G69 := G68.trans g69
          have B69 := B68.go g69 S69
          clear x0 x1 x2 x3 x4 x5 x6 x7 xz xl xn xs
          obtain ⟨x0, x1, x2, x3, x4, x5, x6, x7, xz, xl, xn, xs⟩ := B69.fx
          go_wp2_with fail
          go_ret
          exact .done B69.S (fun _ _ h => h) G69
    · have GD := G54.trans g55
      clear x0 x1 x2 x3 x4 x5 x6 x7 xz xl xn xs
      go_wp2_with fail
      go_ret
      exact .dead D55 GD
  · have zz : (kd T (stp T i) == 17) = false := by simpa using k17
    have C9 : Hid _ := Im.of (T := T) C0.out (if_neg k17)
    clear k17
    go_wp2_with fail
    have B70 := B54.mb (M := body T (.prim d) i ns) (K := KK (i + 1) ns.length) (g := fun j ms => put ⟨12, -1, -1, -1, -1, 0, ps T i, (tk T i).text⟩ j ms fin) (by have := Hs.out; unfold KK; omega) C9.out
    refine (addCM (nd := ⟨12, -1, -1, -1, -1, 0, ps T i, (tk T i).text⟩) (K' := fun x j ms => i < j ∧ ns.length ≤ ms.length ∧ 0 ≤ x ∧ x < ms.length) B70.S (fun j ms h => by unfold KK at *; simp; omega)).mono ?_
    rintro v w71 ⟨x71_, v71, rfl, S71, g71⟩
    have G71 := G54.trans g71
    have B71 := B70.go g71 S71
    clear x0 x1 x2 x3 x4 x5 x6 x7 xz xl xn xs
    obtain ⟨x0, x1, x2, x3, x4, x5, x6, x7, xz, xl, xn, xs⟩ := B71.fx
    go_wp2_with fail
    go_ret
    exact .done B71.S (fun _ _ h => h) G71
end
end Go.Proofs.Qxb6500277aGreat
