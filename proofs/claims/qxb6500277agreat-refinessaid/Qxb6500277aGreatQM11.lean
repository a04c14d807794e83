/- The model parser: statements. -/
import Derived.Test.Qxb6500277aGreatQM10
namespace Go.Proofs.Qxb6500277aGreat
open Go Go.RowKit

section
variable {w w' w1 w2 : World} {s tb : Nat} {T : List Tok} {i : Nat} {ns : List Nd} {er q : Int} {nv nv' nv1 nv2 : Value} {S : Nat → Prop} {M : Mo} {K K' : Nat → List Nd → Prop} {g g' : Nat → List Nd → Mo}
theorem SlN.at (h : SlN w nv ns) {x : Nat} (hx : x < ns.length) : ∃ b cap f, nv = .slice (some ⟨b, 0, none⟩) ns.length cap ∧ ns.length ≤ cap ∧ Blk w b (cap * 8) f ∧ (w.cell? ⟨b, x * 8, none⟩ = some (.int .i64 (ns[x]?.getD nd0).kind) ∧ w.cell? ⟨b, x * 8 + 6, none⟩ = some (.int .i64 (ns[x]?.getD nd0).pos)) := by
  rcases h with ⟨_, rfl⟩ | ⟨b, cap, f, rfl, hc, hb, hf⟩
  · simp at hx
  · have e : ns[x]?.getD nd0 = ns[x] := by simp [List.getElem?_eq_getElem hx]
    have hp := bufN_of hf
    rw [e]
    refine ⟨b, cap, f, rfl, hc, hb, ?_, ?_⟩
    · rw [hb.cell (by omega)]
      exact congrArg some (hp x hx 0 (by omega))
    · rw [hb.cell (by omega)]
      exact congrArg some (hp x hx 6 (by omega))
set_option maxRecDepth 100000 in
set_option maxHeartbeats 8000000 in
theorem sm4 {n : Nat} (_HB : BxC T n) (P : SM w s tb T i ns 0 0 nv) (hi : T.length ≤ i + n + 1) (d : Nat) (hd : d ≤ 8) {dv : Int} (hdv : dv = d) (k0 : kd T i = 4) :
    Calls Tryz.prog 214 #[.pointer (some ⟨s, 0, none⟩), .int .i64 dv] w (MPM w s tb T nv i ns (.stmt d)) := by
  have Hd : Hid _ := hdv
  have Hi : Hid _ := hi
  have l1 : -1 < dv := by omega
  have l2 : dv < 9 := by omega
  clear hdv hi
  have G0 : Gm s w nv w nv := .refl
  have C0 : Hid _ := Im.of_eq (T := T) (M := body T (.stmt d) i ns) (if_pos k0)
  have Hs : Hid _ := P.nxt (by omega)
  have z4 : (kd T i == 4) = true := by simp [k0]
  clear k0
  go_enter Tryz.func214, Tryz.ntmps214
  go_wp2_with fail
  refine (atMq P).mono ?_
  rintro v w17 ⟨rfl, f17⟩
  have P17 := P.same f17
  have G17 := G0.trans (.same f17)
  go_wp2_with fail
  refine (nodeM 0 (ps T i) _).mono ?_
  rintro v w18 ⟨rfl, f18⟩
  have G18 := G17.trans (.same f18)
  unfold ndV
  have P18 := P17.same f18
  go_wp2_with fail
  have B19 := MP.new P18 (⟨0, -1, -1, -1, -1, 0, ps T i, ⟨#[]⟩⟩)
  have Hn19 : w.heap.size ≤ w18.heap.size := G18.fr.size
  have G19 := G18.alloc (boxN (⟨0, -1, -1, -1, -1, 0, ps T i, ⟨#[]⟩⟩))
  refine (kindM B19.P).mono ?_
  rintro v w20 ⟨rfl, f20⟩
  have B20 := B19.same f20
  have G20 := G19.trans (.same f20)
  obtain ⟨x0, x1, x2, x3, x4, x5, x6, x7, xz, xl, xn, xs⟩ := B20.fx
  go_wp2_with fail
  refine (nextM B20.P).mono ?_
  rintro v w21 ⟨rfl, P21, g21⟩
  have B21 := B20.go g21 P21
  have G21 := G20.trans g21
  clear x0 x1 x2 x3 x4 x5 x6 x7 xz xl xn xs
  obtain ⟨x0, x1, x2, x3, x4, x5, x6, x7, xz, xl, xn, xs⟩ := B21.fx
  go_wp2_with fail
  have B22 := B21.setK (3)
  have G22 := Gm.set (o := 0) (v := .int .i64 (3)) G21 Hn19
  have B23 := B22.mb (M := body T (.stmt d) i ns) (K := KK (i + 1) ns.length) (g := fun j ms => wnt T 1 j fun j2 => typ T j2 fun t j3 => wnt T 25 j3 fun j4 => .call (.lev 1 d) j4 ms fun x j5 ms2 => wnt T 24 j5 fun j6 => put ⟨3, x, -1, -1, -1, t, ps T j, (tk T j).text⟩ j6 ms2 fin) (by have := Hs.out; unfold KK; omega) C0.out
  refine (nameC (g := fun tx p j2 ms => typ T j2 fun t j3 => wnt T 25 j3 fun j4 => .call (.lev 1 d) j4 ms fun x j5 ms2 => wnt T 24 j5 fun j6 => put ⟨3, x, -1, -1, -1, t, p, tx⟩ j6 ms2 fin) (K' := KK (i + 1) ns.length) B23.S (fun j ms h => by unfold KK at *; omega)).mono ?_
  rintro v w24 ⟨t24, p24, rfl, S24, g24⟩
  have G24 := G22.trans g24
  have B24 := B23.go g24 S24
  clear x0 x1 x2 x3 x4 x5 x6 x7 xz xl xn xs
  obtain ⟨x0, x1, x2, x3, x4, x5, x6, x7, xz, xl, xn, xs⟩ := B24.fx
  go_wp2_with fail
  have B25 := B24.setS (t24)
  have G25 := Gm.set (o := 7) (v := .string (t24)) G24 Hn19
  have B26 := B25.setP (p24)
  have G26 := Gm.set (o := 6) (v := .int .i64 (p24)) G25 Hn19
  refine (typCM (K' := KK (i + 1) ns.length) B26.S (fun j ms j1 h h1 => by unfold KK at *; omega)).mono ?_
  rintro v w27 ⟨t27, rfl, S27, g27⟩
  have G27 := G26.trans g27
  have B27 := B26.go g27 S27
  clear x0 x1 x2 x3 x4 x5 x6 x7 xz xl xn xs
  obtain ⟨x0, x1, x2, x3, x4, x5, x6, x7, xz, xl, xn, xs⟩ := B27.fx
  go_wp2_with fail
  have B28 := B27.setV (t27)
  have G28 := Gm.set (o := 5) (v := .int .i64 (t27)) G27 Hn19
  refine (want0 (k := 25) (K' := KK (i + 1) ns.length) B28.S (by decide) (fun j ms h => by unfold KK at *; omega)).mono ?_
  rintro v w29 ⟨p29, rfl, S29, g29⟩
  have G29 := G28.trans g29
  have B29 := B28.go g29 S29
  clear x0 x1 x2 x3 x4 x5 x6 x7 xz xl xn xs
  obtain ⟨x0, x1, x2, x3, x4, x5, x6, x7, xz, xl, xn, xs⟩ := B29.fx
  go_wp2_with fail
  refine (lxT.use (d := d) (fun x => KK (i + 1) ns.length) B29.S (fun j ms h => by omega) (by omega) Hd.out (fun j ms x j1 ms1 h h1 h2 h3 h4 => by unfold KK at *; omega)).mono ?_
  rintro v w30 ⟨x30_, rfl, v30, S30, g30⟩
  have G30 := G29.trans g30
  have B30 := B29.go g30 S30
  clear x0 x1 x2 x3 x4 x5 x6 x7 xz xl xn xs
  obtain ⟨x0, x1, x2, x3, x4, x5, x6, x7, xz, xl, xn, xs⟩ := B30.fx
  go_wp2_with fail
  have B31 := B30.setA (x30_)
  have G31 := Gm.set (o := 1) (v := .int .i64 (x30_)) G30 Hn19
  refine (want0 (k := 24) (K' := KK (i + 1) ns.length) B31.S (by decide) (fun j ms h => by unfold KK at *; omega)).mono ?_
  rintro v w32 ⟨p32, rfl, S32, g32⟩
  have G32 := G31.trans g32
  have B32 := B31.go g32 S32
  clear x0 x1 x2 x3 x4 x5 x6 x7 xz xl xn xs
  obtain ⟨x0, x1, x2, x3, x4, x5, x6, x7, xz, xl, xn, xs⟩ := B32.fx
  go_wp2_with fail
  refine (addCM (nd := ⟨3, x30_, -1, -1, -1, t27, p24, t24⟩) (K' := fun x j ms => i < j ∧ ns.length ≤ ms.length ∧ 0 ≤ x ∧ x < ms.length) B32.S (fun j ms h => by unfold KK at *; simp; omega)).mono ?_
  rintro v w33 ⟨x33_, v33, rfl, S33, g33⟩
  have G33 := G32.trans g33
  have B33 := B32.go g33 S33
  clear x0 x1 x2 x3 x4 x5 x6 x7 xz xl xn xs
  obtain ⟨x0, x1, x2, x3, x4, x5, x6, x7, xz, xl, xn, xs⟩ := B33.fx
  go_wp2_with fail
  go_ret
  exact .done B33.S (fun _ _ h => h) G33
set_option maxRecDepth 100000 in
set_option maxHeartbeats 8000000 in
theorem sm7 {n : Nat} (HB : BxC T n) (P : SM w s tb T i ns 0 0 nv) (hi : T.length ≤ i + n + 1) (d : Nat) (hd : d ≤ 8) {dv : Int} (hdv : dv = d) (k0 : kd T i = 7) :
    Calls Tryz.prog 214 #[.pointer (some ⟨s, 0, none⟩), .int .i64 dv] w (MPM w s tb T nv i ns (.stmt d)) := by
  have Hd : Hid _ := hdv
  have Hi : Hid _ := hi
  have l1 : -1 < dv := by omega
  have l2 : dv < 9 := by omega
  clear hdv hi
  have G0 : Gm s w nv w nv := .refl
  have C0 : Hid _ := Im.of_eq (T := T) (M := body T (.stmt d) i ns) ((if_neg (by omega)).trans ((if_neg (by omega)).trans (if_pos k0)))
  have Hs : Hid _ := P.nxt (by omega)
  have z4 : (kd T i == 4) = false := by simp [k0]
  have z5 : (kd T i == 5) = false := by simp [k0]
  have z7 : (kd T i == 7) = true := by simp [k0]
  clear k0
  go_enter Tryz.func214, Tryz.ntmps214
  go_wp2_with fail
  refine (atMq P).mono ?_
  rintro v w34 ⟨rfl, f34⟩
  have P34 := P.same f34
  have G34 := G0.trans (.same f34)
  go_wp2_with fail
  refine (nodeM 0 (ps T i) _).mono ?_
  rintro v w35 ⟨rfl, f35⟩
  have G35 := G34.trans (.same f35)
  unfold ndV
  have P35 := P34.same f35
  go_wp2_with fail
  have B36 := MP.new P35 (⟨0, -1, -1, -1, -1, 0, ps T i, ⟨#[]⟩⟩)
  have Hn36 : w.heap.size ≤ w35.heap.size := G35.fr.size
  have G36 := G35.alloc (boxN (⟨0, -1, -1, -1, -1, 0, ps T i, ⟨#[]⟩⟩))
  refine (kindM B36.P).mono ?_
  rintro v w37 ⟨rfl, f37⟩
  have B37 := B36.same f37
  have G37 := G36.trans (.same f37)
  obtain ⟨x0, x1, x2, x3, x4, x5, x6, x7, xz, xl, xn, xs⟩ := B37.fx
  go_wp2_with fail
  refine (nextM B37.P).mono ?_
  rintro v w38 ⟨rfl, P38, g38⟩
  have B38 := B37.go g38 P38
  have G38 := G37.trans g38
  clear x0 x1 x2 x3 x4 x5 x6 x7 xz xl xn xs
  obtain ⟨x0, x1, x2, x3, x4, x5, x6, x7, xz, xl, xn, xs⟩ := B38.fx
  go_wp2_with fail
  have B39 := B38.setK (6)
  have G39 := Gm.set (o := 0) (v := .int .i64 (6)) G38 Hn36
  have B40 := B39.mb (M := body T (.stmt d) i ns) (K := KK (i + 1) ns.length) (g := fun j ms => .call (.lev 1 d) j ms fun x j ms => .call (.block d) j ms fun y j ms => put ⟨6, x, y, -1, -1, 0, ps T i, ⟨#[]⟩⟩ j ms fin) (by have := Hs.out; unfold KK; omega) C0.out
  refine (lxT.use (d := d) (fun x => KK (i + 1) ns.length) B40.S (fun j ms h => by omega) (by omega) Hd.out (fun j ms x j1 ms1 h h1 h2 h3 h4 => by unfold KK at *; omega)).mono ?_
  rintro v w41 ⟨x41_, rfl, v41, S41, g41⟩
  have G41 := G39.trans g41
  have B41 := B40.go g41 S41
  clear x0 x1 x2 x3 x4 x5 x6 x7 xz xl xn xs
  obtain ⟨x0, x1, x2, x3, x4, x5, x6, x7, xz, xl, xn, xs⟩ := B41.fx
  go_wp2_with fail
  have B42 := B41.setA (x41_)
  have G42 := Gm.set (o := 1) (v := .int .i64 (x41_)) G41 Hn36
  refine (St.call (K' := fun x => KK (i + 1) ns.length) B42.S (fun j ms P h => HB _ s tb _ j ms d _ (by have := Hi.out; unfold KK at h; omega) P hd Hd.out) (fun er q j ms h0 P => (block_dead P h0 _).mono fun e w1 h => ⟨⟨_, h.1⟩, h.2⟩) (fun j ms x j1 ms1 h h1 h2 h3 h4 => by unfold KK at *; omega)).mono ?_
  rintro v w43 ⟨x43_, v43, rfl, S43, g43⟩
  have G43 := G42.trans g43
  have B43 := B42.go g43 S43
  clear x0 x1 x2 x3 x4 x5 x6 x7 xz xl xn xs
  obtain ⟨x0, x1, x2, x3, x4, x5, x6, x7, xz, xl, xn, xs⟩ := B43.fx
  go_wp2_with fail
  have B44 := B43.setB (x43_)
  have G44 := Gm.set (o := 2) (v := .int .i64 (x43_)) G43 Hn36
  refine (addCM (nd := ⟨6, x41_, x43_, -1, -1, 0, ps T i, ⟨#[]⟩⟩) (K' := fun x j ms => i < j ∧ ns.length ≤ ms.length ∧ 0 ≤ x ∧ x < ms.length) B44.S (fun j ms h => by unfold KK at *; simp; omega)).mono ?_
  rintro v w45 ⟨x45_, v45, rfl, S45, g45⟩
  have G45 := G44.trans g45
  have B45 := B44.go g45 S45
  clear x0 x1 x2 x3 x4 x5 x6 x7 xz xl xn xs
  obtain ⟨x0, x1, x2, x3, x4, x5, x6, x7, xz, xl, xn, xs⟩ := B45.fx
  go_wp2_with fail
  go_ret
  exact .done B45.S (fun _ _ h => h) G45
set_option maxRecDepth 100000 in
set_option maxHeartbeats 8000000 in
theorem sm8 {n : Nat} (_HB : BxC T n) (P : SM w s tb T i ns 0 0 nv) (hi : T.length ≤ i + n + 1) (d : Nat) (hd : d ≤ 8) {dv : Int} (hdv : dv = d) (k0 : kd T i = 8) :
    Calls Tryz.prog 214 #[.pointer (some ⟨s, 0, none⟩), .int .i64 dv] w (MPM w s tb T nv i ns (.stmt d)) := by
  have Hd : Hid _ := hdv
  have Hi : Hid _ := hi
  have l1 : -1 < dv := by omega
  have l2 : dv < 9 := by omega
  clear hdv hi
  have G0 : Gm s w nv w nv := .refl
  have C0 : Hid _ := Im.of_eq (T := T) (M := body T (.stmt d) i ns) ((if_neg (by omega)).trans ((if_neg (by omega)).trans ((if_neg (by omega)).trans (if_pos k0))))
  have Hs : Hid _ := P.nxt (by omega)
  have z4 : (kd T i == 4) = false := by simp [k0]
  have z5 : (kd T i == 5) = false := by simp [k0]
  have z7 : (kd T i == 7) = false := by simp [k0]
  have z8 : (kd T i == 8) = true := by simp [k0]
  have z9 : (kd T i == 9) = false := by simp [k0]
  clear k0
  go_enter Tryz.func214, Tryz.ntmps214
  go_wp2_with fail
  refine (atMq P).mono ?_
  rintro v w46 ⟨rfl, f46⟩
  have P46 := P.same f46
  have G46 := G0.trans (.same f46)
  go_wp2_with fail
  refine (nodeM 0 (ps T i) _).mono ?_
  rintro v w47 ⟨rfl, f47⟩
  have G47 := G46.trans (.same f47)
  unfold ndV
  have P47 := P46.same f47
  go_wp2_with fail
  have B48 := MP.new P47 (⟨0, -1, -1, -1, -1, 0, ps T i, ⟨#[]⟩⟩)
  have Hn48 : w.heap.size ≤ w47.heap.size := G47.fr.size
  have G48 := G47.alloc (boxN (⟨0, -1, -1, -1, -1, 0, ps T i, ⟨#[]⟩⟩))
  refine (kindM B48.P).mono ?_
  rintro v w49 ⟨rfl, f49⟩
  have B49 := B48.same f49
  have G49 := G48.trans (.same f49)
  obtain ⟨x0, x1, x2, x3, x4, x5, x6, x7, xz, xl, xn, xs⟩ := B49.fx
  go_wp2_with fail
  have B50 := B49.setK (7)
  have G50 := Gm.set (o := 0) (v := .int .i64 (7)) G49 Hn48
  refine (kindM B50.P).mono ?_
  rintro v w51 ⟨rfl, f51⟩
  have B51 := B50.same f51
  have G51 := G50.trans (.same f51)
  clear x0 x1 x2 x3 x4 x5 x6 x7 xz xl xn xs
  obtain ⟨x0, x1, x2, x3, x4, x5, x6, x7, xz, xl, xn, xs⟩ := B51.fx
  go_wp2_with fail
  refine (nextM B51.P).mono ?_
  rintro v w52 ⟨rfl, P52, g52⟩
  have B52 := B51.go g52 P52
  have G52 := G51.trans g52
  clear x0 x1 x2 x3 x4 x5 x6 x7 xz xl xn xs
  obtain ⟨x0, x1, x2, x3, x4, x5, x6, x7, xz, xl, xn, xs⟩ := B52.fx
  go_wp2_with fail
  have B53 := B52.mb (M := body T (.stmt d) i ns) (K := KK (i + 1) ns.length) (g := fun j ms => .call (.lev 1 d) j ms fun x j ms => wnt T 24 j fun j => put ⟨7, x, -1, -1, -1, 0, ps T i, ⟨#[]⟩⟩ j ms fin) (by have := Hs.out; unfold KK; omega) C0.out
  refine (lxT.use (d := d) (fun x => KK (i + 1) ns.length) B53.S (fun j ms h => by omega) (by omega) Hd.out (fun j ms x j1 ms1 h h1 h2 h3 h4 => by unfold KK at *; omega)).mono ?_
  rintro v w54 ⟨x54_, rfl, v54, S54, g54⟩
  have G54 := G52.trans g54
  have B54 := B53.go g54 S54
  clear x0 x1 x2 x3 x4 x5 x6 x7 xz xl xn xs
  obtain ⟨x0, x1, x2, x3, x4, x5, x6, x7, xz, xl, xn, xs⟩ := B54.fx
  go_wp2_with fail
  have B55 := B54.setA (x54_)
  have G55 := Gm.set (o := 1) (v := .int .i64 (x54_)) G54 Hn48
  refine (want0 (k := 24) (K' := KK (i + 1) ns.length) B55.S (by decide) (fun j ms h => by unfold KK at *; omega)).mono ?_
  rintro v w56 ⟨p56, rfl, S56, g56⟩
  have G56 := G55.trans g56
  have B56 := B55.go g56 S56
  clear x0 x1 x2 x3 x4 x5 x6 x7 xz xl xn xs
  obtain ⟨x0, x1, x2, x3, x4, x5, x6, x7, xz, xl, xn, xs⟩ := B56.fx
  go_wp2_with fail
  refine (addCM (nd := ⟨7, x54_, -1, -1, -1, 0, ps T i, ⟨#[]⟩⟩) (K' := fun x j ms => i < j ∧ ns.length ≤ ms.length ∧ 0 ≤ x ∧ x < ms.length) B56.S (fun j ms h => by unfold KK at *; simp; omega)).mono ?_
  rintro v w57 ⟨x57_, v57, rfl, S57, g57⟩
  have G57 := G56.trans g57
  have B57 := B56.go g57 S57
  clear x0 x1 x2 x3 x4 x5 x6 x7 xz xl xn xs
  obtain ⟨x0, x1, x2, x3, x4, x5, x6, x7, xz, xl, xn, xs⟩ := B57.fx
  go_wp2_with fail
  go_ret
  exact .done B57.S (fun _ _ h => h) G57
set_option maxRecDepth 100000 in
set_option maxHeartbeats 8000000 in
theorem sm9 {n : Nat} (_HB : BxC T n) (P : SM w s tb T i ns 0 0 nv) (hi : T.length ≤ i + n + 1) (d : Nat) (hd : d ≤ 8) {dv : Int} (hdv : dv = d) (k0 : kd T i = 9) :
    Calls Tryz.prog 214 #[.pointer (some ⟨s, 0, none⟩), .int .i64 dv] w (MPM w s tb T nv i ns (.stmt d)) := by
  have Hd : Hid _ := hdv
  have Hi : Hid _ := hi
  have l1 : -1 < dv := by omega
  have l2 : dv < 9 := by omega
  clear hdv hi
  have G0 : Gm s w nv w nv := .refl
  have C0 : Hid _ := Im.of_eq (T := T) (M := body T (.stmt d) i ns) ((if_neg (by omega)).trans ((if_neg (by omega)).trans ((if_neg (by omega)).trans ((if_neg (by omega)).trans (if_pos k0)))))
  have Hs : Hid _ := P.nxt (by omega)
  have z4 : (kd T i == 4) = false := by simp [k0]
  have z5 : (kd T i == 5) = false := by simp [k0]
  have z7 : (kd T i == 7) = false := by simp [k0]
  have z8 : (kd T i == 8) = false := by simp [k0]
  have z9 : (kd T i == 9) = true := by simp [k0]
  clear k0
  go_enter Tryz.func214, Tryz.ntmps214
  go_wp2_with fail
  refine (atMq P).mono ?_
  rintro v w58 ⟨rfl, f58⟩
  have P58 := P.same f58
  have G58 := G0.trans (.same f58)
  go_wp2_with fail
  refine (nodeM 0 (ps T i) _).mono ?_
  rintro v w59 ⟨rfl, f59⟩
  have G59 := G58.trans (.same f59)
  unfold ndV
  have P59 := P58.same f59
  go_wp2_with fail
  have B60 := MP.new P59 (⟨0, -1, -1, -1, -1, 0, ps T i, ⟨#[]⟩⟩)
  have Hn60 : w.heap.size ≤ w59.heap.size := G59.fr.size
  have G60 := G59.alloc (boxN (⟨0, -1, -1, -1, -1, 0, ps T i, ⟨#[]⟩⟩))
  refine (kindM B60.P).mono ?_
  rintro v w61 ⟨rfl, f61⟩
  have B61 := B60.same f61
  have G61 := G60.trans (.same f61)
  obtain ⟨x0, x1, x2, x3, x4, x5, x6, x7, xz, xl, xn, xs⟩ := B61.fx
  go_wp2_with fail
  have B62 := B61.setK (7)
  have G62 := Gm.set (o := 0) (v := .int .i64 (7)) G61 Hn60
  refine (kindM B62.P).mono ?_
  rintro v w63 ⟨rfl, f63⟩
  have B63 := B62.same f63
  have G63 := G62.trans (.same f63)
  clear x0 x1 x2 x3 x4 x5 x6 x7 xz xl xn xs
  obtain ⟨x0, x1, x2, x3, x4, x5, x6, x7, xz, xl, xn, xs⟩ := B63.fx
  go_wp2_with fail
  have B64 := B63.setK (8)
  have G64 := Gm.set (o := 0) (v := .int .i64 (8)) G63 Hn60
  refine (nextM B64.P).mono ?_
  rintro v w65 ⟨rfl, P65, g65⟩
  have B65 := B64.go g65 P65
  have G65 := G64.trans g65
  clear x0 x1 x2 x3 x4 x5 x6 x7 xz xl xn xs
  obtain ⟨x0, x1, x2, x3, x4, x5, x6, x7, xz, xl, xn, xs⟩ := B65.fx
  go_wp2_with fail
  have B66 := B65.mb (M := body T (.stmt d) i ns) (K := KK (i + 1) ns.length) (g := fun j ms => .call (.lev 1 d) j ms fun x j ms => wnt T 24 j fun j => put ⟨8, x, -1, -1, -1, 0, ps T i, ⟨#[]⟩⟩ j ms fin) (by have := Hs.out; unfold KK; omega) C0.out
  refine (lxT.use (d := d) (fun x => KK (i + 1) ns.length) B66.S (fun j ms h => by omega) (by omega) Hd.out (fun j ms x j1 ms1 h h1 h2 h3 h4 => by unfold KK at *; omega)).mono ?_
  rintro v w67 ⟨x67_, rfl, v67, S67, g67⟩
  have G67 := G65.trans g67
  have B67 := B66.go g67 S67
  clear x0 x1 x2 x3 x4 x5 x6 x7 xz xl xn xs
  obtain ⟨x0, x1, x2, x3, x4, x5, x6, x7, xz, xl, xn, xs⟩ := B67.fx
  go_wp2_with fail
  have B68 := B67.setA (x67_)
  have G68 := Gm.set (o := 1) (v := .int .i64 (x67_)) G67 Hn60
  refine (want0 (k := 24) (K' := KK (i + 1) ns.length) B68.S (by decide) (fun j ms h => by unfold KK at *; omega)).mono ?_
  rintro v w69 ⟨p69, rfl, S69, g69⟩
  have G69 := G68.trans g69
  have B69 := B68.go g69 S69
  clear x0 x1 x2 x3 x4 x5 x6 x7 xz xl xn xs
  obtain ⟨x0, x1, x2, x3, x4, x5, x6, x7, xz, xl, xn, xs⟩ := B69.fx
  go_wp2_with fail
  refine (addCM (nd := ⟨8, x67_, -1, -1, -1, 0, ps T i, ⟨#[]⟩⟩) (K' := fun x j ms => i < j ∧ ns.length ≤ ms.length ∧ 0 ≤ x ∧ x < ms.length) B69.S (fun j ms h => by unfold KK at *; simp; omega)).mono ?_
  rintro v w70 ⟨x70_, v70, rfl, S70, g70⟩
  have G70 := G69.trans g70
  have B70 := B69.go g70 S70
  clear x0 x1 x2 x3 x4 x5 x6 x7 xz xl xn xs
  obtain ⟨x0, x1, x2, x3, x4, x5, x6, x7, xz, xl, xn, xs⟩ := B70.fx
  go_wp2_with fail
  go_ret
  exact .done B70.S (fun _ _ h => h) G70
end
end Go.Proofs.Qxb6500277aGreat
