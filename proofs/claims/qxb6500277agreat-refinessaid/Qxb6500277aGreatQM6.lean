/- The model parser: postfix. -/
import Derived.Test.Qxb6500277aGreatQM5
namespace Go.Proofs.Qxb6500277aGreat
open Go Go.RowKit

section
variable {w w' w1 w2 : World} {s tb : Nat} {T : List Tok} {i : Nat} {ns : List Nd} {er q : Int} {nv nv' nv1 nv2 : Value} {S : Nat → Prop} {M : Mo} {K K' : Nat → List Nd → Prop} {g g' : Nat → List Nd → Mo}
theorem St.jump {qq : Nat → List Nd → Rq} (h : St w s tb T nv M K (fun j ms => .call (qq j ms) j ms fin)) : St w s tb T nv M K (fun j ms => body T (qq j ms) j ms) := by
  rcases h with ⟨j, ms, P, hK, C⟩ | D
  · exact .inl ⟨j, ms, P, hK, Im.jump C⟩
  · exact .inr D
/-- primary at i. -/
def PpC (T : List Tok) (i : Nat) : Prop := ∀ (w : World) (s tb : Nat) (nv : Value) (ns : List Nd) (d : Nat) (dv : Int), SM w s tb T i ns 0 0 nv → d ≤ 8 → dv = d → Calls Tryz.prog 246 #[.pointer (some ⟨s, 0, none⟩), .int .i64 dv] w (MPM w s tb T nv i ns (.prim d))
set_option maxRecDepth 100000 in
set_option maxHeartbeats 8000000 in
theorem postL {n : Nat} (H : LxC T n) (hp : PpC T i) (P : SM w s tb T i ns 0 0 nv) (hi : T.length ≤ i + n + 1) (d : Nat) (hd : d ≤ 8) {dv : Int} (hdv : dv = d) : Calls Tryz.prog 244 #[.pointer (some ⟨s, 0, none⟩), .int .i64 dv] w (MPM w s tb T nv i ns (.post d)) := by
  have Hd : Hid _ := hdv
  have Hi : Hid _ := hi
  have l1 : -1 < dv := by omega
  have l2 : dv < 9 := by omega
  clear hdv hi
  have G0 : Gm s w nv w nv := .refl
  have S0 : St w s tb T nv (body T (.post d) i ns) (fun j ms => j = i ∧ ms = ns) (fun j ms => .call (.prim d) j ms fun x j ms => .call (.postL d x) j ms fin) := .inl ⟨_, _, P, ⟨rfl, rfl⟩, .refl _⟩
  go_enter Tryz.func244, Tryz.ntmps244
  go_wp2_with fail
  refine (St.call (K' := fun x j ms => i < j ∧ ns.length ≤ ms.length ∧ 0 ≤ x ∧ x < ms.length) S0 (fun j ms P h => by rw [h.1] at P ⊢; exact hp _ s tb nv ms d dv P hd Hd.out) (fun er q j ms h0 Pd => absurd (Pd.err0 P) h0) (fun j ms x j1 ms1 h h1 h2 h3 h4 => by rw [h.1, h.2] at *; omega)).mono ?_
  rintro v w1 ⟨x0, v1, rfl, S1, g1⟩
  have S2 := St.jump (qq := fun _ _ => .postL d x0) S1
  clear S0 S1 P hp
  go_wp2_with fail
  go_loopg [5] (T.length + 1) (fun gk xv wr => ∃ (x : Int) (nvr : Value), xv = .int .i64 x ∧ Gm s w nv wr nvr ∧ St wr s tb T nvr (body T (.post d) i ns) (fun j ms => T.length < j + gk ∧ i < j ∧ ns.length ≤ ms.length ∧ 0 ≤ x ∧ x < ms.length) (fun j ms => body T (.postL d x) j ms))
  case atStart => exact ⟨x0, v1, rfl, g1, S2.mono (fun j ms h => by omega)⟩
  case round =>
    clear S2 g1
    obtain ⟨x, nvr, rfl, GJ, SJ⟩ := hrel
    rcases SJ with ⟨j, ms, Pj, hKj, Cj⟩ | ⟨er, q, j, ms, h0, Pj, hE⟩
    · have Hc : Hid _ := Cj
      simp only at Hc
      obtain ⟨hg, hij, hlen, hx0, hxl⟩ := hKj
      have Hg : Hid _ := hg
      have xb : x < 200 := by have := Pj.le; omega
      clear Cj hg
      obtain ⟨r0, r1, r2, r3, r4⟩ := Pj.regs
      obtain ⟨b1, b2⟩ := Pj.blt
      go_wp2_with fail
      refine (kindM Pj).mono ?_
      rintro v w1 ⟨rfl, f1⟩
      have P1 := Pj.same f1
      have G1 := GJ.trans (.same f1)
      clear r0 r1 r2 r3 r4 b1 b2
      by_cases k21 : kd T j = 21
      · have hb : (kd T j == 21) = true := by simp [k21]
        have Hs : Hid _ := Pj.nxt (by omega)
        have C0 : Hid _ := Im.of (T := T) Hc.out (m := body T (.postL d x) j ms) (if_pos k21)
        have Hk : Hid _ := k21
        clear k21
        go_wp2_with fail
        refine (enterL P1 C0.out (d := d) (by omega) Hd.out).mono ?_
        rintro v w2 (⟨h82, rfl, e2, c2⟩ | ⟨rfl, D2, g2⟩)
        · subst w2
          have C2 : Hid _ := c2
          clear c2
          go_wp2_with fail
          refine (wantM P1 21).mono ?_
          rintro v w3 ⟨rfl, g3, ⟨-, P3⟩ | ⟨hk, P3⟩⟩
          · have G3 := G1.trans g3
            go_wp2_with fail
            refine (nodeM 14 (ps T j) _).mono ?_
            rintro v w4 ⟨rfl, f4⟩
            have G4 := G3.trans (.same f4)
            unfold ndV
            have P4 := P3.same f4
            have S0 : St _ s tb T nvr (body T (.post d) i ns) (KK (j + 1) ms.length) (fun j2 ms2 => .call (.lev 1 (d + 1)) j2 ms2 fun y j3 ms3 => wnt T 22 j3 fun j4 => put ⟨14, x, y, -1, -1, 0, ps T j, ⟨#[]⟩⟩ j4 ms3 fun x j ms => .call (.postL d x) j ms fin) := .inl ⟨_, _, P4, ⟨by have := Hs.out; omega, by omega⟩, C2.out⟩
            go_wp2_with fail
            have B5 := MB.new S0 (⟨14, x, -1, -1, -1, 0, ps T j, ⟨#[]⟩⟩)
            have Hn5 : w.heap.size ≤ w4.heap.size := G4.fr.size
            have G5 := G4.alloc (boxN (⟨14, x, -1, -1, -1, 0, ps T j, ⟨#[]⟩⟩))
            refine (H.use (d := d + 1) (fun y => KK (j + 2) ms.length) B5.S (fun j ms h => by have := Hi.out; unfold KK at h; omega) (by omega) (by have := Hd.out; omega) (fun j ms x j1 ms1 h h1 h2 h3 h4 => by unfold KK at *; omega)).mono ?_
            rintro v w6 ⟨x6_, rfl, v6, S6, g6⟩
            have G6 := G5.trans g6
            have B6 := B5.go g6 S6
            obtain ⟨x0, x1, x2, x3, x4, x5, x6, x7, xz, xl, xn, xs⟩ := B6.fx
            go_wp2_with fail
            have B7 := B6.setB (x6_)
            have G7 := Gm.set (o := 2) (v := .int .i64 (x6_)) G6 Hn5
            refine (want0 (k := 22) (K' := KK (j + 2) ms.length) B7.S (by decide) (fun j ms h => by unfold KK at *; omega)).mono ?_
            rintro v w8 ⟨p8, rfl, S8, g8⟩
            have G8 := G7.trans g8
            have B8 := B7.go g8 S8
            clear x0 x1 x2 x3 x4 x5 x6 x7 xz xl xn xs
            obtain ⟨x0, x1, x2, x3, x4, x5, x6, x7, xz, xl, xn, xs⟩ := B8.fx
            go_wp2_with fail
            refine (addCM (nd := ⟨14, x, x6_, -1, -1, 0, ps T j, ⟨#[]⟩⟩) (K' := fun z j2 ms2 => j + 2 ≤ j2 ∧ ms.length ≤ ms2.length ∧ 0 ≤ z ∧ z < ms2.length) B8.S (fun j ms h => by unfold KK at *; simp; omega)).mono ?_
            rintro v w9 ⟨x9_, v9, rfl, S9, g9⟩
            have G9 := G8.trans g9
            have B9 := B8.go g9 S9
            clear x0 x1 x2 x3 x4 x5 x6 x7 xz xl xn xs
            obtain ⟨x0, x1, x2, x3, x4, x5, x6, x7, xz, xl, xn, xs⟩ := B9.fx
            go_wp2_with fail
            have SE := St.jump (qq := fun _ _ => .postL d x9_) B9.S
            go_roundg (gk - 1)
            case measure => have := Hg.out; have := Pj.lt; omega
            case rel => exact ⟨x9_, _, rfl, G9, SE.mono (fun j2 ms2 h => by have := Hg.out; omega)⟩
          · exact absurd Hk.out hk
        · have G2 := G1.trans g2
          go_wp2_with fail
          go_ret
          exact .dead D2 G2
      · have hb : (kd T j == 21) = false := by simpa using k21
        have C0 : Hid _ := Im.of (T := T) Hc.out (m := body T (.postL d x) j ms) (if_neg k21)
        clear k21
        go_wp2_with fail
        go_ret
        exact .done (K := fun j2 ms2 => j2 = j ∧ ms2 = ms) (.inl ⟨_, _, P1, ⟨rfl, rfl⟩, C0.out⟩) (fun j2 ms2 h => by rw [h.1, h.2]; omega) G1
    · have HE : Hid _ := hE
      have hb : (er == 0) = false := by simpa using h0
      clear hE
      obtain ⟨r0, r1, r2, r3, r4⟩ := Pj.regs
      obtain ⟨b1, b2⟩ := Pj.blt
      go_wp2_with fail
      go_ret
      exact .dead ⟨er, q, j, ms, h0, Pj, HE.out⟩ GJ
end
end Go.Proofs.Qxb6500277aGreat
