/- The model parser: inner, unary. -/
import Derived.Test.Qxb6500277aGreatQM4
namespace Go.Proofs.Qxb6500277aGreat
open Go Go.RowKit

section
variable {w w' w1 w2 : World} {s tb : Nat} {T : List Tok} {i : Nat} {ns : List Nd} {er q : Int} {nv nv' nv1 nv2 : Value} {S : Nat → Prop} {M : Mo} {K K' : Nat → List Nd → Prop} {g g' : Nat → List Nd → Mo}
theorem SM.err0 {j : Nat} {ms : List Nd} {q' : Int} (h : SM w s tb T i ns er q nv) (h' : SM w s tb T j ms 0 q' nv) : er = 0 := by
  have a := h.regs.2.2.2.1
  have b := h'.regs.2.2.2.1
  rw [a] at b
  cases b
  rfl
set_option maxRecDepth 100000 in
set_option maxHeartbeats 8000000 in
theorem innerL {n : Nat} (H : LxC T n) (P : SM w s tb T i ns 0 0 nv) (hi : T.length ≤ i + n + 1) (d : Nat) (hd : d ≤ 8) {dv : Int} (hdv : dv = d) : Calls Tryz.prog 249 #[.pointer (some ⟨s, 0, none⟩), .int .i64 dv] w (MPM w s tb T nv i ns (.inner d)) := by
  have Hd : Hid _ := hdv
  have Hi : Hid _ := hi
  have l1 : -1 < dv := by omega
  have l2 : dv < 9 := by omega
  clear hdv hi
  have G0 : Gm s w nv w nv := .refl
  obtain ⟨r0, r1, r2, r3, r4⟩ := P.regs
  obtain ⟨b1, b2⟩ := P.blt
  by_cases k17 : kd T i = 17
  · have hb : (kd T i != 17) = false := by simp [k17]
    have Hs : Hid _ := P.nxt (by omega)
    have C0 : Hid _ := Im.of_eq (T := T) (M := body T (.inner d) i ns) (if_pos k17)
    clear k17
    go_enter Tryz.func249, Tryz.ntmps249
    go_wp2_with fail
    refine (kindM P).mono ?_
    rintro v w1 ⟨rfl, f1⟩
    have P1 := P.same f1
    have G1 := G0.trans (.same f1)
    clear r0 r1 r2 r3 r4 b1 b2
    go_wp2_with fail
    refine (enterL P1 C0.out (d := d) (by omega) Hd.out).mono ?_
    rintro v w2 (⟨h82, rfl, e2, c2⟩ | ⟨rfl, D2, g2⟩)
    · subst w2
      have C2 : Hid _ := c2
      clear c2
      go_wp2_with fail
      refine (nextM P1).mono ?_
      rintro v w3 ⟨rfl, P3, g3⟩
      have G3 := G1.trans g3
      have S0 : St w3 s tb T nv (body T (.inner d) i ns) (KK (i + 1) ns.length) (fun j ms => .call (.lev 1 (d + 1)) j ms fun x j ms => wnt T 18 j fun j => fin x j ms) := .inl ⟨_, _, P3, ⟨by have := Hs.out; omega, by omega⟩, C2.out⟩
      go_wp2_with fail
      refine (H.use (d := d + 1) (fun x j ms => i < j ∧ ns.length ≤ ms.length ∧ 0 ≤ x ∧ x < ms.length) S0 (fun j ms h => by have := Hi.out; unfold KK at h; omega) (by omega) (by have := Hd.out; omega) (fun j ms x j1 ms1 h h1 h2 h3 h4 => by unfold KK at *; omega)).mono ?_
      rintro v w4 ⟨x4_, rfl, v4, S4, g4⟩
      have G4 := G3.trans g4
      go_wp2_with fail
      refine (want0 (k := 18) (K' := (fun x j ms => i < j ∧ ns.length ≤ ms.length ∧ 0 ≤ x ∧ x < ms.length) x4_) S4 (by decide) (fun j ms h => by omega)).mono ?_
      rintro v w5 ⟨p5, rfl, S5, g5⟩
      have G5 := G4.trans g5
      go_wp2_with fail
      go_ret
      exact .done S5 (fun _ _ h => h) G5
    · have G2 := G1.trans g2
      go_wp2_with fail
      go_ret
      exact .dead D2 G2
  · have hb : (kd T i != 17) = true := by simpa using k17
    have C0 : Hid _ := Im.of_eq (T := T) (M := body T (.inner d) i ns) (if_neg k17)
    clear k17
    go_enter Tryz.func249, Tryz.ntmps249
    go_wp2_with fail
    refine (kindM P).mono ?_
    rintro v w6 ⟨rfl, f6⟩
    have P6 := P.same f6
    have G6 := G0.trans (.same f6)
    clear r0 r1 r2 r3 r4 b1 b2
    go_wp2_with fail
    refine (atMq P6).mono ?_
    rintro v w7 ⟨rfl, f7⟩
    have P7 := P6.same f7
    have G7 := G6.trans (.same f7)
    go_wp2_with fail
    refine (failM P7 10 (ps T i)).mono ?_
    rintro v w8 ⟨rfl, P8, g8⟩
    go_wp2_with fail
    go_ret
    exact .dead ⟨_, _, _, _, by decide, P8, C0.out _ (.ret _)⟩ (G7.trans g8)
/-- postfix at i. -/
def PxC (T : List Tok) (i : Nat) : Prop := ∀ (w : World) (s tb : Nat) (nv : Value) (ns : List Nd) (d : Nat) (dv : Int), SM w s tb T i ns 0 0 nv → d ≤ 8 → dv = d → Calls Tryz.prog 244 #[.pointer (some ⟨s, 0, none⟩), .int .i64 dv] w (MPM w s tb T nv i ns (.post d))
set_option maxRecDepth 100000 in
set_option maxHeartbeats 8000000 in
theorem unL {n : Nat} (H : UxC T n) (hp : PxC T i) (P : SM w s tb T i ns 0 0 nv) (hi : T.length ≤ i + n + 1) (d : Nat) (hd : d ≤ 8) {dv : Int} (hdv : dv = d) : Calls Tryz.prog 241 #[.pointer (some ⟨s, 0, none⟩), .int .i64 dv] w (MPM w s tb T nv i ns (.un d)) := by
  have Hd : Hid _ := hdv
  have Hi : Hid _ := hi
  have l1 : -1 < dv := by omega
  have l2 : dv < 9 := by omega
  clear hdv hi
  have G0 : Gm s w nv w nv := .refl
  obtain ⟨r0, r1, r2, r3, r4⟩ := P.regs
  obtain ⟨b1, b2⟩ := P.blt
  by_cases hop : kd T i = 33 ∨ kd T i = 39
  · have Hs : Hid _ := P.nxt (by omega)
    have hb3 : (kd T i != 33) = false ∨ ((kd T i != 33) = true ∧ (kd T i != 39) = false) := by
      rcases hop with h | h <;> simp [h]
    have C0 : Hid _ := Im.of_eq (T := T) (M := body T (.un d) i ns) (if_pos hop)
    clear hop
    rcases hb3 with hb3 | ⟨hb3, hb4⟩
    all_goals
      go_enter Tryz.func241, Tryz.ntmps241
      go_wp2_with fail
      refine (kindM P).mono ?_
      rintro v w9 ⟨rfl, f9⟩
      have P9 := P.same f9
      have G9 := G0.trans (.same f9)
      clear r0 r1 r2 r3 r4 b1 b2
      go_wp2_with fail
      refine (enterL P9 C0.out (d := d) (by omega) Hd.out).mono ?_
      rintro v w10 (⟨h810, rfl, e10, c10⟩ | ⟨rfl, D10, g10⟩)
      · subst w10
        have C10 : Hid _ := c10
        clear c10
        go_wp2_with fail
        refine (atMq P9).mono ?_
        rintro v w11 ⟨rfl, f11⟩
        have P11 := P9.same f11
        have G11 := G9.trans (.same f11)
        go_wp2_with fail
        refine (nodeM 19 (ps T i) _).mono ?_
        rintro v w12 ⟨rfl, f12⟩
        have G12 := G11.trans (.same f12)
        unfold ndV
        have P12 := P11.same f12
        have S0 : St _ s tb T nv (body T (.un d) i ns) (fun j ms => j = i ∧ ms = ns) (fun j ms => .call (.un (d + 1)) (stp T j) ms fun x j ms => put ⟨19, x, -1, -1, -1, kd T i, ps T i, ⟨#[]⟩⟩ j ms fin) := .inl ⟨_, _, P12, ⟨rfl, rfl⟩, C10.out⟩
        go_wp2_with fail
        have B13 := MB.new S0 (⟨19, -1, -1, -1, -1, kd T i, ps T i, ⟨#[]⟩⟩)
        have Hn13 : w.heap.size ≤ w12.heap.size := G12.fr.size
        have G13 := G12.alloc (boxN (⟨19, -1, -1, -1, -1, kd T i, ps T i, ⟨#[]⟩⟩))
        refine (nextC (g := fun j ms => .call (.un (d + 1)) j ms fun x j ms => put ⟨19, x, -1, -1, -1, kd T i, ps T i, ⟨#[]⟩⟩ j ms fin) (K' := KK (i + 1) ns.length) B13.S (fun j ms h => by have := Hs.out; unfold KK; rw [h.1, h.2]; omega)).mono ?_
        rintro v w14 ⟨rfl, S14, g14⟩
        have G14 := G13.trans g14
        have B14 := B13.go g14 S14
        obtain ⟨x0, x1, x2, x3, x4, x5, x6, x7, xz, xl, xn, xs⟩ := B14.fx
        go_wp2_with fail
        refine (St.call (K' := fun x j ms => i < j ∧ ns.length ≤ ms.length ∧ 0 ≤ x ∧ x < ms.length) B14.S (fun j ms P h => H _ s tb nv j ms (d + 1) _ (by have := Hi.out; unfold KK at h; omega) P (by omega) (by have := Hd.out; omega)) (fun er q j ms h0 P => (unary_dead P h0 _).mono fun e w1 h => ⟨⟨_, h.1⟩, h.2⟩) (fun j ms x j1 ms1 h h1 h2 h3 h4 => by unfold KK at *; omega)).mono ?_
        rintro v w15 ⟨x15_, v15, rfl, S15, g15⟩
        have G15 := G14.trans g15
        have B15 := B14.go g15 S15
        clear x0 x1 x2 x3 x4 x5 x6 x7 xz xl xn xs
        obtain ⟨x0, x1, x2, x3, x4, x5, x6, x7, xz, xl, xn, xs⟩ := B15.fx
        go_wp2_with fail
        have B16 := B15.setA (x15_)
        have G16 := Gm.set (o := 1) (v := .int .i64 (x15_)) G15 Hn13
        refine (addCM (nd := ⟨19, x15_, -1, -1, -1, kd T i, ps T i, ⟨#[]⟩⟩) (K' := fun x j ms => i < j ∧ ns.length ≤ ms.length ∧ 0 ≤ x ∧ x < ms.length) B16.S (fun j ms h => by simp; omega)).mono ?_
        rintro v w17 ⟨x17_, v17, rfl, S17, g17⟩
        have G17 := G16.trans g17
        have B17 := B16.go g17 S17
        clear x0 x1 x2 x3 x4 x5 x6 x7 xz xl xn xs
        obtain ⟨x0, x1, x2, x3, x4, x5, x6, x7, xz, xl, xn, xs⟩ := B17.fx
        go_wp2_with fail
        go_ret
        exact .done B17.S (fun _ _ h => h) G17
      · have G10 := G9.trans g10
        go_wp2_with fail
        go_ret
        exact .dead D10 G10
  · have hb3 : (kd T i != 33) = true := by simp; omega
    have hb4 : (kd T i != 39) = true := by simp; omega
    have C0 : Hid _ := Im.of_eq (T := T) (M := body T (.un d) i ns) (if_neg hop)
    clear hop
    go_enter Tryz.func241, Tryz.ntmps241
    go_wp2_with fail
    refine (kindM P).mono ?_
    rintro v w18 ⟨rfl, f18⟩
    have P18 := P.same f18
    have G18 := G0.trans (.same f18)
    clear r0 r1 r2 r3 r4 b1 b2
    go_wp2_with fail
    have S0 : St _ s tb T nv (body T (.un d) i ns) (fun j ms => j = i ∧ ms = ns) (fun j ms => .call (.post d) j ms fin) := .inl ⟨_, _, P18, ⟨rfl, rfl⟩, C0.out⟩
    refine (St.call (K' := fun x j ms => i < j ∧ ns.length ≤ ms.length ∧ 0 ≤ x ∧ x < ms.length) S0 (fun j ms P h => by rw [h.1] at P ⊢; exact hp _ s tb nv ms d dv P hd Hd.out) (fun er q j ms h0 Pd => absurd (Pd.err0 P18) h0) (fun j ms x j1 ms1 h h1 h2 h3 h4 => by rw [h.1, h.2] at *; omega)).mono ?_
    rintro v w19 ⟨x, v19, rfl, S19, g19⟩
    go_wp2_with fail
    go_ret
    exact .done S19 (fun _ _ h => h) (G18.trans g19)
end
end Go.Proofs.Qxb6500277aGreat
