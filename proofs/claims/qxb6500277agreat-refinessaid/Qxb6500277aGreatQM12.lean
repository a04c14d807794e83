/- The model parser: if. -/
import Derived.Test.Qxb6500277aGreatQM11
namespace Go.Proofs.Qxb6500277aGreat
open Go Go.RowKit

section
variable {w w' w1 w2 : World} {s tb : Nat} {T : List Tok} {i : Nat} {ns : List Nd} {er q : Int} {nv nv' nv1 nv2 : Value} {S : Nat → Prop} {M : Mo} {K K' : Nat → List Nd → Prop} {g g' : Nat → List Nd → Mo}
theorem MP.setA {b : Nat} {k a c2 c3 n v p : Int} {t : ByteArray} (h : MP w s tb T i ns nv b ⟨k, a, c2, c3, n, v, p, t⟩) (x : Int) : MP (w.setCell ⟨b, 1, none⟩ (.int .i64 x)) s tb T i ns nv b ⟨k, x, c2, c3, n, v, p, t⟩ := h.set fun c hc => by
  rcases lt8c hc with rfl | rfl | rfl | rfl | rfl | rfl | rfl | rfl <;> rfl
theorem MP.setB {b : Nat} {k a c2 c3 n v p : Int} {t : ByteArray} (h : MP w s tb T i ns nv b ⟨k, a, c2, c3, n, v, p, t⟩) (x : Int) : MP (w.setCell ⟨b, 2, none⟩ (.int .i64 x)) s tb T i ns nv b ⟨k, a, x, c3, n, v, p, t⟩ := h.set fun c hc => by
  rcases lt8c hc with rfl | rfl | rfl | rfl | rfl | rfl | rfl | rfl <;> rfl
theorem MP.setP {b : Nat} {k a c2 c3 n v p : Int} {t : ByteArray} (h : MP w s tb T i ns nv b ⟨k, a, c2, c3, n, v, p, t⟩) (x : Int) : MP (w.setCell ⟨b, 6, none⟩ (.int .i64 x)) s tb T i ns nv b ⟨k, a, c2, c3, n, v, x, t⟩ := h.set fun c hc => by
  rcases lt8c hc with rfl | rfl | rfl | rfl | rfl | rfl | rfl | rfl <;> rfl
theorem MB.deadSet {b : Nat} {nd nd' : Nd} {o : Nat} {v : Value} (h : MB w s tb T nv M K g b nd) (D : DdM w s tb T nv M) (B' : MB (w.setCell ⟨b, o, none⟩ v) s tb T nv M K g b nd') : MB (w.setCell ⟨b, o, none⟩ v) s tb T nv M K' g' b nd' :=
  ⟨.inr (D.frame ((Fr.refl (fun c => c = b) w).setC b o v (fun _ => rfl)) (Ne.symm h.ne.1) (Ne.symm h.ne.2.1) (fun _ hc e => h.ne.2.2 (e ▸ hc))), B'.X, B'.ne⟩
set_option maxRecDepth 100000 in
set_option maxHeartbeats 8000000 in
theorem sm5 {n : Nat} (HB : BxC T n) (P : SM w s tb T i ns 0 0 nv) (hi : T.length ≤ i + n + 1) (d : Nat) (hd : d ≤ 8) {dv : Int} (hdv : dv = d) (k0 : kd T i = 5) :
    Calls Tryz.prog 214 #[.pointer (some ⟨s, 0, none⟩), .int .i64 dv] w (MPM w s tb T nv i ns (.stmt d)) := by
  have Hd : Hid _ := hdv
  have Hi : Hid _ := hi
  have l1 : -1 < dv := by omega
  have l2 : dv < 9 := by omega
  clear hdv hi
  have G0 : Gm s w nv w nv := .refl
  have C0 : Hid _ := Im.of_eq (T := T) (M := body T (.stmt d) i ns) ((if_neg (by omega)).trans (if_pos k0))
  have Hs : Hid _ := P.nxt (by omega)
  have z4 : (kd T i == 4) = false := by simp [k0]
  have z5 : (kd T i == 5) = true := by simp [k0]
  clear k0
  go_enter Tryz.func214, Tryz.ntmps214
  go_wp2_with fail
  refine (atMq P).mono ?_
  rintro v w1 ⟨rfl, f1⟩
  have P1 := P.same f1
  have G1 := G0.trans (.same f1)
  go_wp2_with fail
  refine (nodeM 0 (ps T i) _).mono ?_
  rintro v w2 ⟨rfl, f2⟩
  have G2 := G1.trans (.same f2)
  unfold ndV
  have P2 := P1.same f2
  go_wp2_with fail
  have B3 := MP.new P2 (⟨0, -1, -1, -1, -1, 0, ps T i, ⟨#[]⟩⟩)
  have Hn3 : w.heap.size ≤ w2.heap.size := G2.fr.size
  have G3 := G2.alloc (boxN (⟨0, -1, -1, -1, -1, 0, ps T i, ⟨#[]⟩⟩))
  refine (kindM B3.P).mono ?_
  rintro v w4 ⟨rfl, f4⟩
  have B4 := B3.same f4
  have G4 := G3.trans (.same f4)
  obtain ⟨x0, x1, x2, x3, x4, x5, x6, x7, xz, xl, xn, xs⟩ := B4.fx
  go_wp2_with fail
  refine (nextM B4.P).mono ?_
  rintro v w5 ⟨rfl, P5, g5⟩
  have B5 := B4.go g5 P5
  have G5 := G4.trans g5
  clear x0 x1 x2 x3 x4 x5 x6 x7 xz xl xn xs
  obtain ⟨x0, x1, x2, x3, x4, x5, x6, x7, xz, xl, xn, xs⟩ := B5.fx
  go_wp2_with fail
  have B6 := B5.setK (5)
  have G6 := Gm.set (o := 0) (v := .int .i64 (5)) G5 Hn3
  have B7 := B6.mb (M := body T (.stmt d) i ns) (K := KK (i + 1) ns.length) (g := fun j ms => .call (.lev 1 d) j ms fun x j ms => .call (.block d) j ms fun y j ms => if kd T j = 6 then .call (.block d) (stp T j) ms fun z j ms => put ⟨5, x, y, z, -1, 0, ps T i, ⟨#[]⟩⟩ j ms fin else put ⟨5, x, y, -1, -1, 0, ps T i, ⟨#[]⟩⟩ j ms fin) (by have := Hs.out; unfold KK; omega) C0.out
  refine (lxT.use (d := d) (fun x => KK (i + 1) ns.length) B7.S (fun j ms h => by omega) (by omega) Hd.out (fun j ms x j1 ms1 h h1 h2 h3 h4 => by unfold KK at *; omega)).mono ?_
  rintro v w8 ⟨x8_, rfl, v8, S8, g8⟩
  have G8 := G6.trans g8
  have B8 := B7.go g8 S8
  clear x0 x1 x2 x3 x4 x5 x6 x7 xz xl xn xs
  obtain ⟨x0, x1, x2, x3, x4, x5, x6, x7, xz, xl, xn, xs⟩ := B8.fx
  go_wp2_with fail
  have B9 := B8.setA (x8_)
  have G9 := Gm.set (o := 1) (v := .int .i64 (x8_)) G8 Hn3
  refine (St.call (K' := fun x => KK (i + 1) ns.length) B9.S (fun j ms P h => HB _ s tb _ j ms d _ (by have := Hi.out; unfold KK at h; omega) P hd Hd.out) (fun er q j ms h0 P => (block_dead P h0 _).mono fun e w1 h => ⟨⟨_, h.1⟩, h.2⟩) (fun j ms x j1 ms1 h h1 h2 h3 h4 => by unfold KK at *; omega)).mono ?_
  rintro v w10 ⟨x10_, v10, rfl, S10, g10⟩
  have G10 := G9.trans g10
  have B10 := B9.go g10 S10
  clear x0 x1 x2 x3 x4 x5 x6 x7 xz xl xn xs
  obtain ⟨x0, x1, x2, x3, x4, x5, x6, x7, xz, xl, xn, xs⟩ := B10.fx
  clear x0 x1 x2 x3 x4 x5 x6 x7 xz xl xn xs
  rcases id B10.S with ⟨j, ms, Pj, hKj, Cj⟩ | ⟨er, q, j, ms, h0, Pj, hE⟩
  · have Hc : Hid _ := Cj
    simp only at Hc
    clear Cj
    have MJ := MP.mk Pj B10.X B10.ne
    obtain ⟨r0, r1, r2, r3, r4⟩ := Pj.regs
    obtain ⟨b1, b2⟩ := Pj.blt
    obtain ⟨x0, x1, x2, x3, x4, x5, x6, x7, xz, xl, xn, xs⟩ := MJ.fx
    go_wp2_with fail
    have B11 := MJ.setB (x10_)
    have G11 := Gm.set (o := 2) (v := .int .i64 (x10_)) G10 Hn3
    refine (kindM B11.P).mono ?_
    rintro v w12 ⟨rfl, f12⟩
    have B12 := B11.same f12
    have G12 := G11.trans (.same f12)
    clear r0 r1 r2 r3 r4 b1 b2 x0 x1 x2 x3 x4 x5 x6 x7 xz xl xn xs
    obtain ⟨x0, x1, x2, x3, x4, x5, x6, x7, xz, xl, xn, xs⟩ := B12.fx
    by_cases k6 : kd T j = 6
    · have z6 : (kd T j == 6) = true := by simp [k6]
      have Hs6 : Hid _ := B12.P.nxt (by omega)
      have C6 := Im.of (T := T) Hc.out (if_pos k6)
      have B9 := B12.mb (M := body T (.stmt d) i ns) (K := fun j2 ms2 => j2 = j ∧ ms2 = ms) (g := fun j2 ms2 => .call (.block d) (stp T j2) ms2 fun z j ms => put ⟨5, x8_, x10_, z, -1, 0, ps T i, ⟨#[]⟩⟩ j ms fin) ⟨rfl, rfl⟩ C6
      clear k6 C6
      go_wp2_with fail
      refine (nextC (g := fun j2 ms2 => .call (.block d) j2 ms2 fun z j ms => put ⟨5, x8_, x10_, z, -1, 0, ps T i, ⟨#[]⟩⟩ j ms fin) (K' := KK (i + 1) ns.length) B9.S (fun j ms h => by have := Hs6.out; unfold KK at *; rw [h.1, h.2]; omega)).mono ?_
      rintro v w13 ⟨rfl, S13, g13⟩
      have G13 := G12.trans g13
      have B13 := B9.go g13 S13
      clear x0 x1 x2 x3 x4 x5 x6 x7 xz xl xn xs
      obtain ⟨x0, x1, x2, x3, x4, x5, x6, x7, xz, xl, xn, xs⟩ := B13.fx
      go_wp2_with fail
      refine (St.call (K' := fun x => KK (i + 1) ns.length) B13.S (fun j ms P h => HB _ s tb _ j ms d _ (by have := Hi.out; unfold KK at h; omega) P hd Hd.out) (fun er q j ms h0 P => (block_dead P h0 _).mono fun e w1 h => ⟨⟨_, h.1⟩, h.2⟩) (fun j ms x j1 ms1 h h1 h2 h3 h4 => by unfold KK at *; omega)).mono ?_
      rintro v w14 ⟨x14_, v14, rfl, S14, g14⟩
      have G14 := G13.trans g14
      have B14 := B13.go g14 S14
      clear x0 x1 x2 x3 x4 x5 x6 x7 xz xl xn xs
      obtain ⟨x0, x1, x2, x3, x4, x5, x6, x7, xz, xl, xn, xs⟩ := B14.fx
      go_wp2_with fail
      have B15 := B14.setC (x14_)
      have G15 := Gm.set (o := 3) (v := .int .i64 (x14_)) G14 Hn3
      refine (addCM (nd := ⟨5, x8_, x10_, x14_, -1, 0, ps T i, ⟨#[]⟩⟩) (K' := fun x j ms => i < j ∧ ns.length ≤ ms.length ∧ 0 ≤ x ∧ x < ms.length) B15.S (fun j ms h => by unfold KK at *; simp; omega)).mono ?_
      rintro v w16 ⟨x16_, v16, rfl, S16, g16⟩
      have G16 := G15.trans g16
      have B16 := B15.go g16 S16
      clear x0 x1 x2 x3 x4 x5 x6 x7 xz xl xn xs
      obtain ⟨x0, x1, x2, x3, x4, x5, x6, x7, xz, xl, xn, xs⟩ := B16.fx
      go_wp2_with fail
      go_ret
      exact .done B16.S (fun _ _ h => h) G16
    · have z6 : (kd T j == 6) = false := by simpa using k6
      have C6 := Im.of (T := T) Hc.out (if_neg k6)
      have B9 := B12.mb (M := body T (.stmt d) i ns) (K := KK (i + 1) ns.length) (g := fun j2 ms2 => put ⟨5, x8_, x10_, -1, -1, 0, ps T i, ⟨#[]⟩⟩ j2 ms2 fin) hKj C6
      clear k6 C6
      go_wp2_with fail
      refine (addCM (nd := ⟨5, x8_, x10_, -1, -1, 0, ps T i, ⟨#[]⟩⟩) (K' := fun x j ms => i < j ∧ ns.length ≤ ms.length ∧ 0 ≤ x ∧ x < ms.length) B9.S (fun j ms h => by unfold KK at *; simp; omega)).mono ?_
      rintro v w17 ⟨x17_, v17, rfl, S17, g17⟩
      have G17 := G12.trans g17
      have B17 := B9.go g17 S17
      clear x0 x1 x2 x3 x4 x5 x6 x7 xz xl xn xs
      obtain ⟨x0, x1, x2, x3, x4, x5, x6, x7, xz, xl, xn, xs⟩ := B17.fx
      go_wp2_with fail
      go_ret
      exact .done B17.S (fun _ _ h => h) G17
  · have hb : (er == 0) = false := by simpa using h0
    have hb2 : (er != 0) = true := by simpa using h0
    have DJ : DdM _ s tb T _ (body T (.stmt d) i ns) := ⟨_, _, _, _, h0, Pj, hE⟩
    clear hE
    obtain ⟨r0, r1, r2, r3, r4⟩ := Pj.regs
    obtain ⟨b1, b2⟩ := Pj.blt
    obtain ⟨x0, x1, x2, x3, x4, x5, x6, x7, xz, xl, xn, xs⟩ := B10.fx
    go_wp2_with fail
    have B18 := B10.setB (x10_)
    have G18 := Gm.set (o := 2) (v := .int .i64 (x10_)) G10 Hn3
    have B9 := B10.deadSet (K' := KK (i + 1) ns.length) (g' := fun j2 ms2 => put ⟨5, x8_, x10_, -1, -1, 0, ps T i, ⟨#[]⟩⟩ j2 ms2 fin) DJ B18
    refine (addCM (nd := ⟨5, x8_, x10_, -1, -1, 0, ps T i, ⟨#[]⟩⟩) (K' := fun x j ms => i < j ∧ ns.length ≤ ms.length ∧ 0 ≤ x ∧ x < ms.length) B9.S (fun j ms h => by unfold KK at *; simp; omega)).mono ?_
    rintro v w19 ⟨x19_, v19, rfl, S19, g19⟩
    have G19 := G18.trans g19
    have B19 := B9.go g19 S19
    clear r0 r1 r2 r3 r4 b1 b2 x0 x1 x2 x3 x4 x5 x6 x7 xz xl xn xs
    obtain ⟨x0, x1, x2, x3, x4, x5, x6, x7, xz, xl, xn, xs⟩ := B19.fx
    go_wp2_with fail
    go_ret
    exact .done B19.S (fun _ _ h => h) G19
end
end Go.Proofs.Qxb6500277aGreat
