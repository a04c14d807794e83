/- The model parser: programs. -/
import Derived.Test.Qxb6500277aGreatQM14
namespace Go.Proofs.Qxb6500277aGreat
open Go Go.RowKit

section
variable {w w' w1 w2 : World} {s tb : Nat} {T : List Tok} {i : Nat} {ns : List Nd} {er q : Int} {nv nv' nv1 nv2 : Value} {S : Nat → Prop} {M : Mo} {K K' : Nat → List Nd → Prop} {g g' : Nat → List Nd → Mo}
set_option maxRecDepth 100000 in
set_option maxHeartbeats 8000000 in
theorem progM (P : SM w s tb T i ns 0 0 nv) : Calls Tryz.prog 74 #[.pointer (some ⟨s, 0, none⟩)] w fun e w' => ∃ x nv', e = .returned (.int .i64 x) ∧ St w' s tb T nv' (body T (.prog (-1) (-1)) i ns) (fun j _ => kd T j = 0) (fin x) ∧ Gm s w nv w' nv' := by
  have G0 : Gm s w nv w nv := .refl
  have S8 : St w s tb T nv (body T (.prog (-1) (-1)) i ns) (fun j ms => Ch ms.length (-1) (-1)) (fun j ms => body T (.prog (-1) (-1)) j ms) := .inl ⟨_, _, P, .inl ⟨rfl, rfl⟩, .refl _⟩
  go_enter Tryz.func74, Tryz.ntmps74
  go_wp2_with fail
  go_loopg [3, 4] (T.length + 1) (fun gk fv lv wr => ∃ (f la : Int) (nvr : Value), fv = .int .i64 f ∧ lv = .int .i64 la ∧ Gm s w nv wr nvr ∧ St wr s tb T nvr (body T (.prog (-1) (-1)) i ns) (fun j ms => T.length < j + gk ∧ Ch ms.length f la) (fun j ms => body T (.prog f la) j ms))
  case atStart => exact ⟨-1, -1, nv, rfl, rfl, G0, S8.mono (fun j ms h => ⟨by omega, h⟩)⟩
  case round =>
    clear S8 G0 P
    obtain ⟨f, la, nvr, rfl, rfl, GJ, SJ⟩ := hrel
    rcases SJ with ⟨j, ms, Pj, hKj, Cj⟩ | ⟨er, q, j, ms, h0, Pj, hE⟩
    · have Hc : Hid _ := Cj
      simp only at Hc
      obtain ⟨hg, hch⟩ := hKj
      have Hg : Hid _ := hg
      have Hh : Hid (Ch ms.length f la) := hch
      have fb : -2 < f ∧ f < 200 ∧ -2 < la ∧ la < 200 := by have := Ch.b hch Pj.le; omega
      clear Cj hg hch
      obtain ⟨r0, r1, r2, r3, r4⟩ := Pj.regs
      obtain ⟨b1, b2⟩ := Pj.blt
      go_wp2_with fail
      refine (kindM Pj).mono ?_
      rintro v w48 ⟨rfl, f48⟩
      have P48 := Pj.same f48
      have G48 := GJ.trans (.same f48)
      clear r0 r1 r2 r3 r4 b1 b2
      by_cases k0 : kd T j = 0
      · have hb : (kd T j != 0) = false := by simp [k0]
        have Hk : Hid _ := k0
        have C1 : Hid _ := Im.of (T := T) Hc.out (m := body T (.prog f la) j ms) (if_pos k0)
        clear k0
        go_wp2_with fail
        go_ret
        exact ⟨f, _, rfl, .inl ⟨_, _, P48, Hk.out, C1.out⟩, G48⟩
      · have hb : (kd T j != 0) = true := by simpa using k0
        have C1 : Hid _ := Im.of (T := T) Hc.out (m := body T (.prog f la) j ms) (if_neg k0)
        clear k0
        have S9 : St _ s tb T nvr (body T (.prog (-1) (-1)) i ns) (fun j2 ms2 => j2 = j ∧ ms2 = ms) (fun j2 ms2 => .call .fn j2 ms2 fun x j ms => lnk ms f la x fun f ms => .call (.prog f x) j ms fin) := .inl ⟨_, _, P48, ⟨rfl, rfl⟩, C1.out⟩
        go_wp2_with fail
        refine (St.call (K' := fun x j2 ms2 => j + 1 ≤ j2 ∧ ms.length ≤ ms2.length ∧ 0 ≤ x ∧ x < ms2.length) S9 (fun j2 ms2 P h => fnMq P) (fun er q j2 ms2 h0 Pd => absurd (Pd.err0 P48) h0) (fun j2 ms2 x j1 ms1 h h1 h2 h3 h4 => by rw [h.1, h.2] at *; omega)).mono ?_
        rintro v w49 ⟨x49_, v49, rfl, S49, g49⟩
        have G49 := G48.trans g49
        go_wp2_with fail
        refine (linkC (f := f) (la := la) (x := x49_) (K' := fun f2 j2 ms2 => j + 1 ≤ j2 ∧ Ch ms2.length f2 x49_) S49 (fun j2 ms2 h h1 => by have := Hh.out; unfold Ch at this; omega) (fun j2 ms2 h => ⟨h.1, by rw [lk_len]; exact Ch.next (Ch.mono Hh.out h.2.1) h.2.2.1 h.2.2.2⟩)).mono ?_
        rintro v w50 ⟨f50_, rfl, S50, g50⟩
        have G50 := G49.trans g50
        go_wp2_with fail
        have SE := St.jump (qq := fun _ _ => .prog f50_ x49_) S50
        go_roundg (gk - 1)
        case measure => have := Hg.out; have := Pj.lt; omega
        case rel => exact ⟨f50_, x49_, _, rfl, rfl, G50, SE.mono (fun j2 ms2 h => ⟨by have := Hg.out; omega, h.2⟩)⟩
    · have HE : Hid _ := hE
      have hb : (er == 0) = false := by simpa using h0
      clear hE
      obtain ⟨r0, r1, r2, r3, r4⟩ := Pj.regs
      obtain ⟨b1, b2⟩ := Pj.blt
      go_wp2_with fail
      go_ret
      exact ⟨f, _, rfl, .inr ⟨er, q, j, ms, h0, Pj, HE.out⟩, GJ⟩
end
end Go.Proofs.Qxb6500277aGreat
