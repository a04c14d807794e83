/- The real parser: types. -/
import Derived.Test.Qxb6500277aGreatPW3
namespace Go.Proofs.Qxb6500277aGreat
open Go Go.RowKit

section
variable {w w' : World} {A : Pa} {T : List Tok} {i j : Nat} {ns ms : List Nd} {fl : Bool} {er q : Int} {S : Nat → Prop}
/-- The answer of typ. -/
def TyP (w : World) (A : Pa) (T : List Tok) (i : Nat) (ns : List Nd) (e : Ending) (w' : World) : Prop := Fr (PS A) w w' ∧
  ((∃ (t : Int) (j : Nat), e = .returned (.int .i64 t) ∧ PM w' A T j ns false 0 0 ∧ i < j ∧ 0 ≤ t ∧ t < 8 ∧ ∀ f, typ T i f = f t j) ∨ (∃ (er q : Int) (j : Nat), e = .returned (.int .i64 (-1)) ∧ er ≠ 0 ∧ PM w' A T j ns true er q ∧ ∀ f, typ T i f = .ret (.bad er q)))
theorem typ_b {l j : Nat} (h : ∀ f, tyO T 3 i f = tyO T l j f) (h1 : kd T j ≠ 21) (h2 : kd T j = 16) (f : Int → Nat → Mo) : typ T i f = tyC T (3 - l) (stp T j) (f (1 + 2 * ((3 - l : Nat) : Int))) := by
  unfold typ
  rw [h]
  cases l <;> simp only [tyO] <;> rw [if_neg h1, if_pos h2]
theorem typ_i {l j : Nat} (h : ∀ f, tyO T 3 i f = tyO T l j f) (h1 : kd T j ≠ 21) (h2 : kd T j ≠ 16) (h3 : kd T j = 15) (f : Int → Nat → Mo) : typ T i f = tyC T (3 - l) (stp T j) (f (2 * ((3 - l : Nat) : Int))) := by
  unfold typ
  rw [h]
  cases l <;> simp only [tyO] <;> rw [if_neg h1, if_neg h2, if_pos h3]
theorem typ_x {l j : Nat} (h : ∀ f, tyO T 3 i f = tyO T l j f) (h1 : kd T j ≠ 21) (h2 : kd T j ≠ 16) (h3 : kd T j ≠ 15) (f : Int → Nat → Mo) : typ T i f = .ret (.bad 10 (ps T j)) := by
  unfold typ
  rw [h]
  cases l <;> simp only [tyO] <;> rw [if_neg h1, if_neg h2, if_neg h3]
theorem typ_d {j : Nat} (h : ∀ f, tyO T 3 i f = tyO T 0 j f) (h1 : kd T j = 21) (f : Int → Nat → Mo) : typ T i f = .ret (.bad 11 (ps T j)) := by
  unfold typ
  rw [h]
  simp only [tyO]
  rw [if_pos h1]
set_option maxRecDepth 100000 in
set_option maxHeartbeats 8000000 in
theorem typF (P : PM w A T i ns false 0 0) : Calls Tryz.prog 187 #[.pointer (some ⟨A.p, 0, none⟩)] w (TyP w A T i ns) := by
  go_enter Tryz.func187, Tryz.ntmps187
  go_wp2_with fail
  go_loopg [3] 3 (fun gk dv wr => ∃ (l j : Nat), dv = .int .i64 ((3 : Int) - l) ∧ l = gk ∧ l ≤ 3 ∧ PM wr A T j ns false 0 0 ∧ Fr (PS A) w wr ∧ i ≤ j ∧ ∀ f, tyO T 3 i f = tyO T l j f)
  case atStart => exact ⟨3, i, rfl, rfl, by omega, P, Fr.refl _ _, by omega, fun _ => rfl⟩
  case round =>
    obtain ⟨l, j, rfl, hlg, hl3, Pj, FJ, hij, hc'⟩ := hrel
    have hc : Hid _ := hc'
    clear hc' P
    have hlg' : Hid _ := hlg
    clear hlg
    go_wp2_with fail
    refine (kindF Pj).mono ?_
    rintro v w1 ⟨rfl, f1⟩
    have P1 := Pj.same f1
    have F1 := FJ.trans f1 (fun _ _ h => h.elim)
    by_cases k21 : kd T j = 21
    · have hb : (kd T j == 21) = true := by simp [k21]
      by_cases hl : l = 0
      · subst hl
        have Hx : Hid _ := typ_d hc.out k21
        have hc1 : decide ((3 : Int) - ((0 : Nat) : Int) ≥ 3) = true := by decide
        clear k21
        go_wp2_with fail
        refine (atFp P1).mono ?_
        rintro v w2 ⟨rfl, f2⟩
        have P2 := P1.same f2
        have F2 := F1.trans f2 (fun _ _ h => h.elim)
        go_wp2_with fail
        refine (failF P2 11 (ps T j)).mono ?_
        rintro v w3 ⟨rfl, P3, f3⟩
        go_wp2_with fail
        go_ret
        exact ⟨F2.trans f3 (fun _ _ h => h), .inr ⟨11, _, j, rfl, by decide, P3, Hx.out⟩⟩
      · have hc1 : decide ((3 : Int) - (l : Int) ≥ 3) = false := decide_eq_false (by omega)
        obtain ⟨hs, hs2⟩ := P1.nxt (by omega)
        have Hs : Hid _ := hs
        clear hs
        have Hk : Hid _ := k21
        clear k21
        have hl4 : 1 ≤ l := by omega
        go_wp2_with fail
        refine (stepFp P1).mono ?_
        rintro v w2 ⟨rfl, P2, f2⟩
        go_wp2_with fail
        go_roundg (l - 1)
        case measure => have := hlg'.out; omega
        case rel =>
          refine ⟨l - 1, stp T j, ?_, rfl, by omega, P2, F1.trans f2 (fun _ _ h => h), by have := Hs.out; omega, fun f => ?_⟩
          · congr 1; omega
          · rw [hc.out f]
            obtain ⟨m, rfl⟩ : ∃ m, l = m + 1 := ⟨l - 1, by omega⟩
            simp only [tyO]
            rw [if_pos Hk.out]
            rfl
    · have hb : (kd T j == 21) = false := by simpa using k21
      have Hk : Hid _ := k21
      clear k21
      go_wp2_with fail
      refine (kindF P1).mono ?_
      rintro v w2 ⟨rfl, f2⟩
      have P2 := P1.same f2
      have F2 := F1.trans f2 (fun _ _ h => h.elim)
      by_cases k16 : kd T j = 16
      · have hb2 : (kd T j == 16) = true := by simp [k16]
        have Ht : Hid _ := typ_b hc.out Hk.out k16
        have Hs : Hid _ := P2.nxt (by omega)
        clear k16
        go_wp2_with fail
        refine (stepFp P2).mono ?_
        rintro v w3 ⟨rfl, P3, f3⟩
        have F3 := F2.trans f3 (fun _ _ h => h)
        go_wp2_with fail
        go_loopg [6] (3 - l) (fun gk kv wr => ∃ (k j2 : Nat), kv = .int .i64 k ∧ k + gk = 3 - l ∧ PM wr A T j2 ns false 0 0 ∧ Fr (PS A) w wr ∧ i < j2 ∧ ∀ f, typ T i f = tyC T gk j2 (f (1 + 2 * ((3 - l : Nat) : Int))))
        case atStart => exact ⟨0, stp T j, rfl, by omega, P3, F3, by have := Hs.out; omega, Ht.out⟩
        case round =>
          clear P3 F3 f3 P2 F2 f2 P1 F1 f1 Pj FJ Ht
          obtain ⟨k, j2, rfl, hkg, P4, F4, hij4, hc4'⟩ := hrel
          have hc4 : Hid _ := hc4'
          clear hc4'
          by_cases hk : k < 3 - l
          · have hb4 : decide ((k : Int) < 3 - (l : Int)) = true := decide_eq_true (by omega)
            have hk5 : k < 3 := by omega
            have hkg' : Hid _ := hkg
            clear hkg
            go_wp2_with fail
            refine (takeF P4 22).mono ?_
            rintro v w5 ⟨f5, h5⟩
            have F5 := F4.trans f5 (fun _ _ h => h)
            rcases h5 with ⟨k22, rfl, P5⟩ | ⟨k22, rfl, P5⟩
            · have Hk2 : Hid _ := k22
              have Hs2 : Hid _ := P4.nxt (by omega)
              clear k22
              go_wp2_with fail
              go_roundg (3 - l - k - 1)
              case measure => have := hkg'.out; omega
              case rel =>
                refine ⟨k + 1, stp T j2, by simp, by omega, P5, F5, by have := Hs2.out; omega, fun f => ?_⟩
                rw [hc4.out f, show gk = 3 - l - k - 1 + 1 by have := hkg'.out; omega]
                simp only [tyC]
                rw [wnt_ok Hk2.out]
            · have Hk2 : Hid _ := k22
              clear k22
              go_wp2_with fail
              go_ret
              refine ⟨F5, .inr ⟨10, _, j2, rfl, by decide, P5, fun f => ?_⟩⟩
              rw [hc4.out f, show gk = 3 - l - k - 1 + 1 by have := hkg'.out; omega]
              simp only [tyC]
              rw [wnt_bad Hk2.out]
          · have hb4 : decide ((k : Int) < 3 - (l : Int)) = false := decide_eq_false (by omega)
            obtain rfl : gk = 0 := by omega
            have hc5 : Hid _ := hc4.out
            clear hkg
            go_wp2_with fail
            go_ret
            refine ⟨F4, .inl ⟨1 + 2 * ((3 - l : Nat) : Int), j2, ?_, P4, hij4, by omega, by omega, fun f => ?_⟩⟩
            · exact congrArg (fun z => Ending.returned (.int .i64 z)) (by omega)
            · rw [hc5.out f]; rfl
      · have hb2 : (kd T j == 16) = false := by simpa using k16
        go_wp2_with fail
        refine (takeF P2 15).mono ?_
        rintro v w3 ⟨f3, h3⟩
        have F3 := F2.trans f3 (fun _ _ h => h)
        rcases h3 with ⟨k15, rfl, P3⟩ | ⟨k15, rfl, P3⟩
        · have Ht : Hid _ := typ_i hc.out Hk.out k16 k15
          have Hs : Hid _ := P2.nxt (by omega)
          clear k16 k15
          go_wp2_with fail
          go_loopg [6] (3 - l) (fun gk kv wr => ∃ (k j2 : Nat), kv = .int .i64 k ∧ k + gk = 3 - l ∧ PM wr A T j2 ns false 0 0 ∧ Fr (PS A) w wr ∧ i < j2 ∧ ∀ f, typ T i f = tyC T gk j2 (f (2 * ((3 - l : Nat) : Int))))
          case atStart => exact ⟨0, stp T j, rfl, by omega, P3, F3, by have := Hs.out; omega, Ht.out⟩
          case round =>
            clear P3 F3 f3 P2 F2 f2 P1 F1 f1 Pj FJ Ht
            obtain ⟨k, j2, rfl, hkg, P4, F4, hij4, hc4'⟩ := hrel
            have hc4 : Hid _ := hc4'
            clear hc4'
            by_cases hk : k < 3 - l
            · have hb4 : decide ((k : Int) < 3 - (l : Int)) = true := decide_eq_true (by omega)
              have hk5 : k < 3 := by omega
              have hkg' : Hid _ := hkg
              clear hkg
              go_wp2_with fail
              refine (takeF P4 22).mono ?_
              rintro v w5 ⟨f5, h5⟩
              have F5 := F4.trans f5 (fun _ _ h => h)
              rcases h5 with ⟨k22, rfl, P5⟩ | ⟨k22, rfl, P5⟩
              · have Hk2 : Hid _ := k22
                have Hs2 : Hid _ := P4.nxt (by omega)
                clear k22
                go_wp2_with fail
                go_roundg (3 - l - k - 1)
                case measure => have := hkg'.out; omega
                case rel =>
                  refine ⟨k + 1, stp T j2, by simp, by omega, P5, F5, by have := Hs2.out; omega, fun f => ?_⟩
                  rw [hc4.out f, show gk = 3 - l - k - 1 + 1 by have := hkg'.out; omega]
                  simp only [tyC]
                  rw [wnt_ok Hk2.out]
              · have Hk2 : Hid _ := k22
                clear k22
                go_wp2_with fail
                go_ret
                refine ⟨F5, .inr ⟨10, _, j2, rfl, by decide, P5, fun f => ?_⟩⟩
                rw [hc4.out f, show gk = 3 - l - k - 1 + 1 by have := hkg'.out; omega]
                simp only [tyC]
                rw [wnt_bad Hk2.out]
            · have hb4 : decide ((k : Int) < 3 - (l : Int)) = false := decide_eq_false (by omega)
              obtain rfl : gk = 0 := by omega
              have hc5 : Hid _ := hc4.out
              clear hkg
              go_wp2_with fail
              go_ret
              refine ⟨F4, .inl ⟨2 * ((3 - l : Nat) : Int), j2, ?_, P4, hij4, by omega, by omega, fun f => ?_⟩⟩
              · exact congrArg (fun z => Ending.returned (.int .i64 z)) (by omega)
              · rw [hc5.out f]; rfl
        · have Ht : Hid _ := typ_x hc.out Hk.out k16 k15
          clear k16 k15
          go_wp2_with fail
          go_ret
          exact ⟨F3, .inr ⟨10, _, j, rfl, by decide, P3, Ht.out⟩⟩
theorem typC (P : PM w A T i ns false 0 0) {f : Int → Nat → Mo} {M : Mo} (C : Im T (typ T i f) M) : Calls Tryz.prog 187 #[.pointer (some ⟨A.p, 0, none⟩)] w fun e w' => Fr (PS A) w w' ∧
    ((∃ (t : Int) (j : Nat), e = .returned (.int .i64 t) ∧ PM w' A T j ns false 0 0 ∧ i < j ∧ 0 ≤ t ∧ t < 8 ∧ Im T (f t j) M) ∨ (e = .returned (.int .i64 (-1)) ∧ Dd w' A T M)) := by
  refine (typF P).mono ?_
  rintro e w1 ⟨f1, ⟨t, j, h1, h2, h3, h4, h5, h6⟩ | ⟨er, q, j, h1, h2, h3, h4⟩⟩
  · rw [h6] at C
    exact ⟨f1, .inl ⟨t, j, h1, h2, h3, h4, h5, C⟩⟩
  · rw [h4] at C
    exact ⟨f1, .inr ⟨h1, _, _, _, _, h2, h3, C _ (.ret _)⟩⟩
end
end Go.Proofs.Qxb6500277aGreat
