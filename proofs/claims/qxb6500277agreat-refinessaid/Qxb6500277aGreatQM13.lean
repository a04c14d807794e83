/- The model parser: plain statements. -/
import Derived.Test.Qxb6500277aGreatQM12
namespace Go.Proofs.Qxb6500277aGreat
open Go Go.RowKit

section
variable {w w' w1 w2 : World} {s tb : Nat} {T : List Tok} {i : Nat} {ns : List Nd} {er q : Int} {nv nv' nv1 nv2 : Value} {S : Nat → Prop} {M : Mo} {K K' : Nat → List Nd → Prop} {g g' : Nat → List Nd → Mo}
theorem plainM_y {j x : Nat} {ms : List Nd} (h1 : kd T j = 25) (h2 : (ms[x]?.getD nd0).kind = 12 ∨ (ms[x]?.getD nd0).kind = 14) {a b : Mo} (C : Im T (if kd T j = 25 ∧ ((ms[(x : Int).toNat]?.getD nd0).kind = 12 ∨ (ms[(x : Int).toNat]?.getD nd0).kind = 14) then a else b) M) : Im T a M := plain_y h1 h2 C
set_option maxRecDepth 100000 in
set_option maxHeartbeats 8000000 in
theorem smX {n : Nat} (_HB : BxC T n) (P : SM w s tb T i ns 0 0 nv) (hi : T.length ≤ i + n + 1) (d : Nat) (hd : d ≤ 8) {dv : Int} (hdv : dv = d) (k4 : kd T i ≠ 4) (k5 : kd T i ≠ 5) (k7 : kd T i ≠ 7) (k8 : kd T i ≠ 8) (k9 : kd T i ≠ 9) :
    Calls Tryz.prog 214 #[.pointer (some ⟨s, 0, none⟩), .int .i64 dv] w (MPM w s tb T nv i ns (.stmt d)) := by
  have Hd : Hid _ := hdv
  have Hi : Hid _ := hi
  have l1 : -1 < dv := by omega
  have l2 : dv < 9 := by omega
  clear hdv hi
  have G0 : Gm s w nv w nv := .refl
  have C0 : Hid _ := Im.of_eq (T := T) (M := body T (.stmt d) i ns) ((if_neg k4).trans ((if_neg k5).trans ((if_neg k7).trans ((if_neg k8).trans (if_neg k9)))))
  have z4 : (kd T i == 4) = false := by simpa using k4
  have z5 : (kd T i == 5) = false := by simpa using k5
  have z7 : (kd T i == 7) = false := by simpa using k7
  have z8 : (kd T i == 8) = false := by simpa using k8
  have z9 : (kd T i == 9) = false := by simpa using k9
  clear k4 k5 k7 k8 k9
  go_enter Tryz.func214, Tryz.ntmps214
  go_wp2_with fail
  refine (atMq P).mono ?_
  rintro v w20 ⟨rfl, f20⟩
  have P20 := P.same f20
  have G20 := G0.trans (.same f20)
  go_wp2_with fail
  refine (nodeM 0 (ps T i) _).mono ?_
  rintro v w21 ⟨rfl, f21⟩
  have G21 := G20.trans (.same f21)
  unfold ndV
  have P21 := P20.same f21
  go_wp2_with fail
  have B22 := MP.new P21 (⟨0, -1, -1, -1, -1, 0, ps T i, ⟨#[]⟩⟩)
  have Hn22 : w.heap.size ≤ w21.heap.size := G21.fr.size
  have G22 := G21.alloc (boxN (⟨0, -1, -1, -1, -1, 0, ps T i, ⟨#[]⟩⟩))
  refine (kindM B22.P).mono ?_
  rintro v w23 ⟨rfl, f23⟩
  have B23 := B22.same f23
  have G23 := G22.trans (.same f23)
  obtain ⟨x0, x1, x2, x3, x4, x5, x6, x7, xz, xl, xn, xs⟩ := B23.fx
  go_wp2_with fail
  have B24 := B23.setK (9)
  have G24 := Gm.set (o := 0) (v := .int .i64 (9)) G23 Hn22
  have B25 := B24.mb (M := body T (.stmt d) i ns) (K := KK i ns.length) (g := fun j ms => .call (.lev 1 d) j ms fun x j ms => if kd T j = 25 ∧ ((ms[x.toNat]?.getD nd0).kind = 12 ∨ (ms[x.toNat]?.getD nd0).kind = 14) then .call (.lev 1 d) (stp T j) ms fun y j2 ms => wnt T 24 j2 fun j3 => put ⟨4, x, y, -1, -1, 0, ps T j, ⟨#[]⟩⟩ j3 ms fin else wnt T 24 j fun j3 => put ⟨9, x, -1, -1, -1, 0, (ms[x.toNat]?.getD nd0).pos, ⟨#[]⟩⟩ j3 ms fin) (by unfold KK; omega) C0.out
  refine (lxT.use (d := d) (fun x j ms => i < j ∧ ns.length ≤ ms.length ∧ 0 ≤ x ∧ x < ms.length) B25.S (fun j ms h => by omega) (by omega) Hd.out (fun j ms x j1 ms1 h h1 h2 h3 h4 => by unfold KK at *; omega)).mono ?_
  rintro v w26 ⟨x26_, rfl, v26, S26, g26⟩
  have G26 := G24.trans g26
  have B26 := B25.go g26 S26
  clear x0 x1 x2 x3 x4 x5 x6 x7 xz xl xn xs
  obtain ⟨x0, x1, x2, x3, x4, x5, x6, x7, xz, xl, xn, xs⟩ := B26.fx
  clear x0 x1 x2 x3 x4 x5 x6 x7 xz xl xn xs
  rcases id B26.S with ⟨j, ms, Pj, hKj, Cj⟩ | ⟨er, q, j, ms, h0, Pj, hE⟩
  · have Hc : Hid _ := Cj
    simp only at Hc
    clear Cj
    have MJ := MP.mk Pj B26.X B26.ne
    obtain ⟨r0, r1, r2, r3, r4⟩ := Pj.regs
    obtain ⟨b1, b2⟩ := Pj.blt
    obtain ⟨x0, x1, x2, x3, x4, x5, x6, x7, xz, xl, xn, xs⟩ := MJ.fx
    obtain ⟨hij, hlen, hx0, hxl⟩ := hKj
    obtain ⟨x, rfl⟩ : ∃ z : Nat, x26_ = z := ⟨x26_.toNat, by omega⟩
    have hxl2 : x < ms.length := by omega
    have hx200 : x < 200 := by have := Pj.le; omega
    obtain ⟨nb, nc, nf, hnv, hncl, hnb, y0, y6⟩ := Pj.arr.at hxl2
    obtain ⟨pp, hpp⟩ : ∃ z, (ms[x]?.getD nd0).pos = z := ⟨_, rfl⟩
    obtain ⟨kk, hkk⟩ : ∃ z, (ms[x]?.getD nd0).kind = z := ⟨_, rfl⟩
    have Hpp : Hid _ := hpp
    have Hkk : Hid _ := hkk
    rw [hkk] at y0
    rw [hpp] at y6
    rw [hnv] at r2
    have nbl := hnb.lt
    have nbx : nb ≠ w21.heap.size := fun e => MJ.ne.2.2 ⟨_, _, by rw [hnv, e]⟩
    have hm200 : ms.length ≤ 200 := Pj.le
    have Hnv : Hid _ := hnv
    clear hpp hkk hnv hxl
    go_wp2_with fail
    refine wp_region_text (by kernel_rfl) (by kernel_rfl) ?_
    go_wp2_with fail
    refine ⟨by kernel_rfl, ?_⟩
    go_wp2_with fail
    go_quiet (fail)
    go_wp2_with fail
    generalize hw27 : World.drewN _ _ = w27
    have B27 : MP w27 s tb T j ms v26 w21.heap.size ⟨9, (x : Int), -1, -1, -1, 0, pp, ⟨#[]⟩⟩ := by rw [← hw27]; exact ((MJ.setA (x : Int)).setP pp).same ((Fr.refl _ _).drewN _)
    have G27 : Gm s w nv w27 v26 := by rw [← hw27]; exact ((G26.set Hn22).set Hn22).trans (.same ((Fr.refl _ _).drewN _))
    clear hw27
    refine (kindM B27.P).mono ?_
    rintro v w28 ⟨rfl, f28⟩
    have B28 := B27.same f28
    have G28 := G27.trans (.same f28)
    clear r0 r1 r2 r3 r4 b1 b2 x0 x1 x2 x3 x4 x5 x6 x7 xz xl xn xs y0 y6 nbl
    obtain ⟨x0, x1, x2, x3, x4, x5, x6, x7, xz, xl, xn, xs⟩ := B28.fx
    by_cases hc : kd T j = 25 ∧ (kk = 12 ∨ kk = 14)
    · have z25 : (kd T j == 25) = true := by simp [hc.1]
      have Hs : Hid _ := B28.P.nxt (by have := hc.1; omega)
      have H25 : Hid _ := hc.1
      have CY : Hid _ := plainM_y hc.1 (by rw [Hkk.out]; exact hc.2) Hc.out
      have hkc : (kk == 12) = true ∨ ((kk == 12) = false ∧ (kk == 14) = true) := by
        rcases hc.2 with h | h <;> simp [h]
      clear hc
      rcases hkc with z12 | ⟨z12, z14⟩
      all_goals
        go_wp2_with fail
        have B29 := B28.setK (4)
        have G29 := Gm.set (o := 0) (v := .int .i64 (4)) G28 Hn22
        refine (wantM B29.P 25).mono ?_
        rintro v w30 ⟨rfl, g30, ⟨-, P30⟩ | ⟨hk, P30⟩⟩
        · have B30 := B29.go g30 P30
          have G30 := G29.trans g30
          clear x0 x1 x2 x3 x4 x5 x6 x7 xz xl xn xs
          obtain ⟨x0, x1, x2, x3, x4, x5, x6, x7, xz, xl, xn, xs⟩ := B30.fx
          go_wp2_with fail
          have B31 := B30.setP (ps T j)
          have G31 := Gm.set (o := 6) (v := .int .i64 (ps T j)) G30 Hn22
          have B32 := B31.mb (M := body T (.stmt d) i ns) (K := KK (i + 1) ns.length) (g := fun j2 ms2 => .call (.lev 1 d) j2 ms2 fun y j2 ms => wnt T 24 j2 fun j3 => put ⟨4, (x : Int), y, -1, -1, 0, ps T j, ⟨#[]⟩⟩ j3 ms fin) (by have := Hs.out; unfold KK; omega) CY.out
          refine (lxT.use (d := d) (fun x => KK (i + 1) ns.length) B32.S (fun j ms h => by omega) (by omega) Hd.out (fun j ms x j1 ms1 h h1 h2 h3 h4 => by unfold KK at *; omega)).mono ?_
          rintro v w33 ⟨x33_, rfl, v33, S33, g33⟩
          have G33 := G31.trans g33
          have B33 := B32.go g33 S33
          clear x0 x1 x2 x3 x4 x5 x6 x7 xz xl xn xs
          obtain ⟨x0, x1, x2, x3, x4, x5, x6, x7, xz, xl, xn, xs⟩ := B33.fx
          go_wp2_with fail
          have B34 := B33.setB (x33_)
          have G34 := Gm.set (o := 2) (v := .int .i64 (x33_)) G33 Hn22
          refine (want0 (k := 24) (K' := KK (i + 1) ns.length) B34.S (by decide) (fun j ms h => by unfold KK at *; omega)).mono ?_
          rintro v w35 ⟨p35, rfl, S35, g35⟩
          have G35 := G34.trans g35
          have B35 := B34.go g35 S35
          clear x0 x1 x2 x3 x4 x5 x6 x7 xz xl xn xs
          obtain ⟨x0, x1, x2, x3, x4, x5, x6, x7, xz, xl, xn, xs⟩ := B35.fx
          go_wp2_with fail
          refine (addCM (nd := ⟨4, (x : Int), x33_, -1, -1, 0, ps T j, ⟨#[]⟩⟩) (K' := fun x j ms => i < j ∧ ns.length ≤ ms.length ∧ 0 ≤ x ∧ x < ms.length) B35.S (fun j ms h => by unfold KK at *; simp; omega)).mono ?_
          rintro v w36 ⟨x36_, v36, rfl, S36, g36⟩
          have G36 := G35.trans g36
          have B36 := B35.go g36 S36
          clear x0 x1 x2 x3 x4 x5 x6 x7 xz xl xn xs
          obtain ⟨x0, x1, x2, x3, x4, x5, x6, x7, xz, xl, xn, xs⟩ := B36.fx
          go_wp2_with fail
          go_ret
          exact .done B36.S (fun _ _ h => h) G36
        · exact absurd H25.out hk
    · have CN := plain_n (by rw [Hkk.out]; exact hc) Hc.out
      simp only [Int.toNat_natCast] at CN
      rw [Hpp.out] at CN
      have CN2 : Hid _ := CN
      have hkc : (kd T j == 25) = false ∨ ((kd T j == 25) = true ∧ (kk == 12) = false ∧ (kk == 14) = false) := by
        by_cases h : kd T j = 25
        · right; simp [h] at hc ⊢; exact hc
        · left; simpa using h
      clear hc CN
      rcases hkc with z25 | ⟨z25, z12, z14⟩
      all_goals
        go_wp2_with fail
        have B37 := B28.mb (M := body T (.stmt d) i ns) (K := KK (i + 1) ns.length) (g := fun j2 ms2 => wnt T 24 j2 fun j3 => put ⟨9, (x : Int), -1, -1, -1, 0, pp, ⟨#[]⟩⟩ j3 ms2 fin) (by unfold KK; omega) CN2.out
        refine (want0 (k := 24) (K' := KK (i + 1) ns.length) B37.S (by decide) (fun j ms h => by unfold KK at *; omega)).mono ?_
        rintro v w38 ⟨p38, rfl, S38, g38⟩
        have G38 := G28.trans g38
        have B38 := B37.go g38 S38
        clear x0 x1 x2 x3 x4 x5 x6 x7 xz xl xn xs
        obtain ⟨x0, x1, x2, x3, x4, x5, x6, x7, xz, xl, xn, xs⟩ := B38.fx
        go_wp2_with fail
        refine (addCM (nd := ⟨9, (x : Int), -1, -1, -1, 0, pp, ⟨#[]⟩⟩) (K' := fun x j ms => i < j ∧ ns.length ≤ ms.length ∧ 0 ≤ x ∧ x < ms.length) B38.S (fun j ms h => by unfold KK at *; simp; omega)).mono ?_
        rintro v w39 ⟨x39_, v39, rfl, S39, g39⟩
        have G39 := G38.trans g39
        have B39 := B38.go g39 S39
        clear x0 x1 x2 x3 x4 x5 x6 x7 xz xl xn xs
        obtain ⟨x0, x1, x2, x3, x4, x5, x6, x7, xz, xl, xn, xs⟩ := B39.fx
        go_wp2_with fail
        go_ret
        exact .done B39.S (fun _ _ h => h) G39
  · have hb : (er == 0) = false := by simpa using h0
    have hb2 : (er != 0) = true := by simpa using h0
    have DJ : DdM _ s tb T _ (body T (.stmt d) i ns) := ⟨_, _, _, _, h0, Pj, hE⟩
    clear hE
    obtain ⟨r0, r1, r2, r3, r4⟩ := Pj.regs
    obtain ⟨b1, b2⟩ := Pj.blt
    obtain ⟨x0, x1, x2, x3, x4, x5, x6, x7, xz, xl, xn, xs⟩ := B26.fx
    go_wp2_with fail
    have B40 := B26.setA (x26_)
    have G40 := Gm.set (o := 1) (v := .int .i64 (x26_)) G26 Hn22
    skip
    go_ret
    exact .dead (DJ.frame ((Fr.refl (fun c => c = w21.heap.size) _).setC w21.heap.size 1 _ (fun _ => rfl)) (Ne.symm B26.ne.1) (Ne.symm B26.ne.2.1) (fun _ hc e => B26.ne.2.2 (e ▸ hc))) G40
end
end Go.Proofs.Qxb6500277aGreat
