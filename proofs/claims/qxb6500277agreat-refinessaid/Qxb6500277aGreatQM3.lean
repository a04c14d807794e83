/- The model parser: name, typ. -/
import Derived.Test.Qxb6500277aGreatQM2
namespace Go.Proofs.Qxb6500277aGreat
open Go Go.RowKit

section
variable {w w' w1 w2 : World} {s tb : Nat} {T : List Tok} {i : Nat} {ns : List Nd} {er q : Int} {nv nv1 nv2 : Value} {S : Nat → Prop} {M : Mo} {K : Nat → List Nd → Prop} {g : Nat → List Nd → Mo}
theorem St.mono {K' : Nat → List Nd → Prop} (h : St w s tb T nv M K g) (hK : ∀ j ms, K j ms → K' j ms) : St w s tb T nv M K' g := by
  rcases h with ⟨j, ms, P, hKK, C⟩ | D
  · exact .inl ⟨j, ms, P, hK _ _ hKK, C⟩
  · exact .inr D
set_option maxRecDepth 100000 in
set_option maxHeartbeats 4000000 in
theorem nameM (P : SM w s tb T i ns er q nv) {Q : World → Prop} (hW : ∀ w1, Fr (fun _ => False) w w1 → Calls Tryz.prog 170 #[.pointer (some ⟨s, 0, none⟩), .int .i64 1] w1 fun e w' => (∃ p, e = .returned (.int .i64 p)) ∧ Q w' ∧ Gm s w1 nv w' nv) :
    Calls Tryz.prog 172 #[.pointer (some ⟨s, 0, none⟩)] w fun e w' => e = .returned (.tuple #[.string (tk T i).text, .int .i64 (ps T i)]) ∧ ∃ w2, Q w2 ∧ Gm s w nv w2 nv ∧ Fr (fun _ => False) w2 w' := by
  obtain ⟨r0, r1, r2, r3, r4⟩ := P.regs
  obtain ⟨b1, b2⟩ := P.blt
  obtain ⟨c0, c1, c2, c3⟩ := P.cellK
  obtain ⟨i1, i2⟩ := P.ib
  have hlt : decide ((i : Int) < (T.length : Nat)) = true := decide_eq_true (by have := P.lt; omega)
  have hl := P.lt
  have hsb : ¬ isBlk nv w.heap.size := fun h => by have := P.arr.lt h; omega
  go_enter Tryz.func172, Tryz.ntmps172
  go_wp2_with fail
  refine wp_region_text (by kernel_rfl) (by kernel_rfl) ?_
  go_wp2_with fail
  refine ⟨by kernel_rfl, ?_⟩
  generalize hw0 : World.drew _ = w0
  have f0 : Fr (fun _ => False) w w0 := by rw [← hw0]; exact ((Fr.refl _ _).alloc _).drew
  have X0 : Blk w0 w.heap.size 4 (tokCell (tk T i)) := by rw [← hw0]; exact (boxT_blk w (tk T i)).drew
  clear hw0 r0 r1 r2 r3 r4 c0 c1 c2 c3
  go_wp2_with fail
  refine (hW w0 f0).mono ?_
  rintro e w2 ⟨⟨p, rfl⟩, hQ, G2⟩
  have X2 := X0.frame G2.fr (by unfold MSq; intro h; exact h.elim (fun h => by omega) hsb)
  obtain ⟨t0, t1, t2, t3, t4⟩ := tokX X2
  go_wp2_with fail
  go_quiet (fail)
  go_wp2_with fail
  exact bodyPost_ret (v := .tuple #[.string (tk T i).text, .int .i64 (ps T i)]) (by simp [results, Tryz.results172, go_sem]) rfl ⟨rfl, w2, hQ, (Gm.same f0).trans G2, (Fr.refl _ _).drewN _⟩
theorem nameC {K' : Nat → List Nd → Prop} {g : ByteArray → Int → Nat → List Nd → Mo} (h : St w s tb T nv M K (fun j ms => wnt T 1 j fun j' => g (tk T j).text (ps T j) j' ms)) (hK : ∀ j ms, K j ms → K' (j + 1) ms) :
    Calls Tryz.prog 172 #[.pointer (some ⟨s, 0, none⟩)] w fun e w' => ∃ t p, e = .returned (.tuple #[.string t, .int .i64 p]) ∧ St w' s tb T nv M K' (g t p) ∧ Gm s w nv w' nv := by
  rcases h with ⟨j, ms, P, hKK, C⟩ | ⟨er, q, j, ms, h0, P, hE⟩
  · refine (nameM P (Q := fun w2 => St w2 s tb T nv M K' (g (tk T j).text (ps T j))) fun w1 f1 => (wantCq (g := fun _ => g (tk T j).text (ps T j)) (K := fun j' ms' => j' = j ∧ ms' = ms) (.inl ⟨j, ms, P.same f1, ⟨rfl, rfl⟩, C⟩) (by decide) (fun j' ms' h => by rw [h.1, h.2]; exact hK _ _ hKK)).mono ?_).mono ?_
    · rintro e w' ⟨p, rfl, h1, h2⟩
      exact ⟨⟨p, rfl⟩, h1, h2⟩
    · rintro e w' ⟨rfl, w2, h1, h2, h3⟩
      exact ⟨_, _, rfl, h1.same h3, h2.trans (.same h3)⟩
  · refine (nameM P (Q := fun w2 => SM w2 s tb T j ms er q nv) fun w1 f1 => (wantM_dead (P.same f1) h0 1).mono ?_).mono ?_
    · rintro e w' ⟨rfl, f2⟩
      exact ⟨⟨_, rfl⟩, (P.same f1).same f2, .same f2⟩
    · rintro e w' ⟨rfl, w2, h1, h2, h3⟩
      exact ⟨_, _, rfl, .inr ⟨_, _, _, _, h0, h1.same h3, hE⟩, h2.trans (.same h3)⟩
/-- The ']' that are left. -/
theorem tyC_succ {n j : Nat} {f : Nat → Mo} : tyC T (n + 1) j f = wnt T 22 j fun j' => tyC T n j' f := rfl
set_option maxRecDepth 100000 in
set_option maxHeartbeats 8000000 in
theorem typM_live {K' : Nat → List Nd → Prop} {g : Int → Nat → List Nd → Mo} (h : LvM w s tb T nv M K (fun j ms => typ T j fun t j' => g t j' ms)) (hK : ∀ j ms j', K j ms → j < j' → K' j' ms) :
    Calls Tryz.prog 173 #[.pointer (some ⟨s, 0, none⟩)] w fun e w' => ∃ t, e = .returned (.int .i64 t) ∧ St w' s tb T nv M K' (g t) ∧ Gm s w nv w' nv := by
  obtain ⟨i, ns, P, hKi, C⟩ := h
  simp only at C
  have HC : Hid _ := C
  clear C
  go_enter Tryz.func173, Tryz.ntmps173
  go_wp2_with fail
  go_loopg [3] 3 (fun gk dv wr => ∃ (l j : Nat), dv = .int .i64 ((3 : Int) - l) ∧ l = gk ∧ l ≤ 3 ∧ SM wr s tb T j ns 0 0 nv ∧ Gm s w nv wr nv ∧ i ≤ j ∧ ∀ f, tyO T 3 i f = tyO T l j f)
  case atStart => exact ⟨3, i, rfl, rfl, by omega, P, .refl, by omega, fun _ => rfl⟩
  case round =>
    obtain ⟨l, j, rfl, hlg, hl3, Pj, GJ, hij, hc'⟩ := hrel
    have hc : Hid _ := hc'
    have Hlg : Hid _ := hlg
    clear hc' P hlg
    obtain ⟨r0, r1, r2, r3, r4⟩ := Pj.regs
    obtain ⟨b1, b2⟩ := Pj.blt
    go_wp2_with fail
    refine (kindM Pj).mono ?_
    rintro v w1 ⟨rfl, f1⟩
    have P1 := Pj.same f1
    have G1 := GJ.trans (.same f1)
    clear r0 r1 r2 r3 r4 b1 b2 Pj GJ
    by_cases k21 : kd T j = 21
    · have hb : (kd T j == 21) = true := by simp [k21]
      by_cases hl : l = 0
      · subst hl
        have Hx : Hid _ := typ_d hc.out k21
        have hc1 : decide ((3 : Int) - ((0 : Nat) : Int) ≥ 3) = true := by decide
        clear k21
        go_wp2_with fail
        refine (atMq P1).mono ?_
        rintro v w2 ⟨rfl, f2⟩
        go_wp2_with fail
        refine (failM (P1.same f2) 11 (ps T j)).mono ?_
        rintro v w3 ⟨rfl, P3, G3⟩
        go_wp2_with fail
        go_ret
        refine ⟨-1, rfl, .inr ⟨_, _, _, _, by decide, P3, ?_⟩, G1.trans ((Gm.same f2).trans G3)⟩
        have := HC.out
        rw [Hx.out] at this
        exact this _ (.ret _)
      · have hc1 : decide ((3 : Int) - (l : Int) ≥ 3) = false := decide_eq_false (by omega)
        have Hs : Hid _ := P1.nxt (by omega)
        have Hk : Hid _ := k21
        clear k21
        have hl4 : 1 ≤ l := by omega
        go_wp2_with fail
        refine (nextM P1).mono ?_
        rintro v w2 ⟨rfl, P2, G2⟩
        go_wp2_with fail
        go_roundg (l - 1)
        case measure => have := Hlg.out; omega
        case rel =>
          refine ⟨l - 1, stp T j, ?_, rfl, by omega, P2, G1.trans G2, by have := Hs.out; omega, fun f => ?_⟩
          · congr 1; omega
          · rw [hc.out f]
            obtain ⟨m, rfl⟩ : ∃ m, l = m + 1 := ⟨l - 1, by omega⟩
            simp only [tyO]
            rw [if_pos Hk.out]
            rfl
    · have hb : (kd T j == 21) = false := by simpa using k21
      have Hk : Hid _ := k21
      clear k21
      go_wp2_with fail
      refine (kindM P1).mono ?_
      rintro v w2 ⟨rfl, f2⟩
      have P2 := P1.same f2
      have G2 := G1.trans (.same f2)
      by_cases k16 : kd T j = 16
      · have hb2 : (kd T j == 16) = true := by simp [k16]
        have Ht : Hid _ := typ_b hc.out Hk.out k16
        have Hs : Hid _ := P2.nxt (by omega)
        clear k16
        go_wp2_with fail
        refine (nextM P2).mono ?_
        rintro v w3 ⟨rfl, P3, G3⟩
        have SS : Hid (St w3 s tb T nv M (fun j' ms => ∃ j, K j ms ∧ j < j') (fun j ms => tyC T (3 - l) j (fun j' => g (1 + 2 * ((3 - l : Nat) : Int)) j' ms))) := .inl ⟨_, _, P3, ⟨i, hKi, by have := Hs.out; omega⟩, by have := HC.out; rw [Ht.out] at this; exact this⟩
        have GS : Hid _ := G2.trans G3
        clear P3 G3 G2 P2 P1 G1
        go_wp2_with fail
        go_loopg [6] (3 - l) (fun gk kv wr => ∃ k : Nat, kv = .int .i64 k ∧ k + gk = 3 - l ∧ Gm s w nv wr nv ∧ St wr s tb T nv M (fun j' ms => ∃ j, K j ms ∧ j < j') (fun j ms => tyC T gk j (fun j' => g (1 + 2 * ((3 - l : Nat) : Int)) j' ms)))
        case atStart => exact ⟨0, rfl, by omega, GS.out, SS.out⟩
        case round =>
          clear SS GS
          obtain ⟨k, rfl, hkg, GJ, SJ⟩ := hrel
          have Hkg : Hid _ := hkg
          have HS : Hid _ := SJ
          clear SJ
          by_cases hk : k < 3 - l
          · have hb4 : decide ((k : Int) < 3 - (l : Int)) = true := decide_eq_true (by omega)
            have hk5 : k < 3 := by omega
            clear hkg
            have S2 : St wr s tb T nv M (fun j' ms => ∃ j, K j ms ∧ j < j') (fun j ms => wnt T 22 j fun j' => tyC T (gk - 1) j' (fun j' => g (1 + 2 * ((3 - l : Nat) : Int)) j' ms)) := by
              have h := HS.out
              rw [show gk = gk - 1 + 1 by have := Hkg.out; omega] at h
              exact h
            have HS2 : Hid _ := S2
            clear S2
            go_wp2_with fail
            refine (wantCq (g := fun _ j ms => tyC T (gk - 1) j (fun j' => g (1 + 2 * ((3 - l : Nat) : Int)) j' ms)) (K' := fun j' ms => ∃ j, K j ms ∧ j < j') HS2.out (by decide) (fun j ms h => by obtain ⟨a, b, c⟩ := h; exact ⟨a, b, by omega⟩)).mono ?_
            rintro v w5 ⟨p5, rfl, S5, G5⟩
            have HS5 : Hid _ := S5
            clear S5
            go_wp2_with fail
            go_roundg (gk - 1)
            case measure => have := Hkg.out; omega
            case rel => exact ⟨k + 1, by simp, by have := Hkg.out; omega, GJ.trans G5, HS5.out⟩
          · have hb4 : decide ((k : Int) < 3 - (l : Int)) = false := decide_eq_false (by omega)
            obtain rfl : gk = 0 := by omega
            clear hkg
            go_wp2_with fail
            go_ret
            refine ⟨1 + 2 * ((3 - l : Nat) : Int), ?_, (St.mono HS.out (fun j' ms h => by obtain ⟨a, b, c⟩ := h; exact hK _ _ _ b c)), GJ⟩
            exact congrArg (fun z => Ending.returned (.int .i64 z)) (by omega)
      · have hb2 : (kd T j == 16) = false := by simpa using k16
        go_wp2_with fail
        refine (wantM P2 15).mono ?_
        rintro v w3 ⟨rfl, G3, h3⟩
        have SS : Hid (St w3 s tb T nv M (fun j' ms => ∃ j, K j ms ∧ j < j') (fun j ms => tyC T (3 - l) j (fun j' => g (2 * ((3 - l : Nat) : Int)) j' ms))) := by
          rcases h3 with ⟨h, P3⟩ | ⟨h, P3⟩
          · refine .inl ⟨_, _, P3, ⟨i, hKi, by have := P2.nxt (by omega); omega⟩, ?_⟩
            have := HC.out
            rw [typ_i hc.out Hk.out k16 h] at this
            exact this
          · refine .inr ⟨_, _, _, _, by decide, P3, ?_⟩
            have := HC.out
            rw [typ_x hc.out Hk.out k16 h] at this
            exact this _ (.ret _)
        have GS : Hid _ := G2.trans G3
        clear G3 G2 P2 P1 G1 h3
        go_wp2_with fail
        go_loopg [6] (3 - l) (fun gk kv wr => ∃ k : Nat, kv = .int .i64 k ∧ k + gk = 3 - l ∧ Gm s w nv wr nv ∧ St wr s tb T nv M (fun j' ms => ∃ j, K j ms ∧ j < j') (fun j ms => tyC T gk j (fun j' => g (2 * ((3 - l : Nat) : Int)) j' ms)))
        case atStart => exact ⟨0, rfl, by omega, GS.out, SS.out⟩
        case round =>
          clear SS GS
          obtain ⟨k, rfl, hkg, GJ, SJ⟩ := hrel
          have Hkg : Hid _ := hkg
          have HS : Hid _ := SJ
          clear SJ
          by_cases hk : k < 3 - l
          · have hb4 : decide ((k : Int) < 3 - (l : Int)) = true := decide_eq_true (by omega)
            have hk5 : k < 3 := by omega
            clear hkg
            have S2 : St wr s tb T nv M (fun j' ms => ∃ j, K j ms ∧ j < j') (fun j ms => wnt T 22 j fun j' => tyC T (gk - 1) j' (fun j' => g (2 * ((3 - l : Nat) : Int)) j' ms)) := by
              have h := HS.out
              rw [show gk = gk - 1 + 1 by have := Hkg.out; omega] at h
              exact h
            have HS2 : Hid _ := S2
            clear S2
            go_wp2_with fail
            refine (wantCq (g := fun _ j ms => tyC T (gk - 1) j (fun j' => g (2 * ((3 - l : Nat) : Int)) j' ms)) (K' := fun j' ms => ∃ j, K j ms ∧ j < j') HS2.out (by decide) (fun j ms h => by obtain ⟨a, b, c⟩ := h; exact ⟨a, b, by omega⟩)).mono ?_
            rintro v w5 ⟨p5, rfl, S5, G5⟩
            have HS5 : Hid _ := S5
            clear S5
            go_wp2_with fail
            go_roundg (gk - 1)
            case measure => have := Hkg.out; omega
            case rel => exact ⟨k + 1, by simp, by have := Hkg.out; omega, GJ.trans G5, HS5.out⟩
          · have hb4 : decide ((k : Int) < 3 - (l : Int)) = false := decide_eq_false (by omega)
            obtain rfl : gk = 0 := by omega
            clear hkg
            go_wp2_with fail
            go_ret
            refine ⟨2 * ((3 - l : Nat) : Int), ?_, (St.mono HS.out (fun j' ms h => by obtain ⟨a, b, c⟩ := h; exact hK _ _ _ b c)), GJ⟩
            exact congrArg (fun z => Ending.returned (.int .i64 z)) (by omega)
set_option maxRecDepth 100000 in
set_option maxHeartbeats 8000000 in
theorem typM_dead (P : SM w s tb T i ns er q nv) (h0 : er ≠ 0) : Calls Tryz.prog 173 #[.pointer (some ⟨s, 0, none⟩)] w fun e w' => ∃ t j, e = .returned (.int .i64 t) ∧ SM w' s tb T j ns er q nv ∧ Gm s w nv w' nv := by
  obtain ⟨r0, r1, r2, r3, r4⟩ := P.regs
  obtain ⟨b1, b2⟩ := P.blt
  have hb : (er == 0) = false := by simpa using h0
  go_enter Tryz.func173, Tryz.ntmps173
  go_wp2_with fail
  refine wp_loop_rounds 1 ?_
  rw [rounds_succ]
  go_wp2_with fail
  refine (kindM P).mono ?_
  rintro v w1 ⟨rfl, f1⟩
  have P1 := P.same f1
  clear r0 r1 r2 r3 r4 b1 b2
  by_cases k16 : kd T i = 16
  · have hb2 : (kd T i == 16) = true := by simp [k16]
    clear k16
    go_wp2_with fail
    refine (nextM P1).mono ?_
    rintro v w2 ⟨rfl, P2, G2⟩
    go_wp2_with fail
    refine wp_loop_rounds 1 ?_
    rw [rounds_succ]
    go_wp2_with fail
    go_ret
    exact ⟨_, _, rfl, P2, (Gm.same f1).trans G2⟩
  · have hb2 : (kd T i == 16) = false := by simpa using k16
    clear k16
    go_wp2_with fail
    refine (wantM_dead P1 h0 15).mono ?_
    rintro v w2 ⟨rfl, f2⟩
    go_wp2_with fail
    refine wp_loop_rounds 1 ?_
    rw [rounds_succ]
    go_wp2_with fail
    go_ret
    exact ⟨_, _, rfl, P1.same f2, (Gm.same f1).trans (.same f2)⟩
theorem typCM {K' : Nat → List Nd → Prop} {g : Int → Nat → List Nd → Mo} (h : St w s tb T nv M K (fun j ms => typ T j fun t j' => g t j' ms)) (hK : ∀ j ms j', K j ms → j < j' → K' j' ms) :
    Calls Tryz.prog 173 #[.pointer (some ⟨s, 0, none⟩)] w fun e w' => ∃ t, e = .returned (.int .i64 t) ∧ St w' s tb T nv M K' (g t) ∧ Gm s w nv w' nv := by
  rcases h with h | ⟨er, q, j, ms, h0, P, hE⟩
  · exact typM_live h hK
  · refine (typM_dead P h0).mono ?_
    rintro e w1 ⟨t, j', rfl, P1, G1⟩
    exact ⟨t, rfl, .inr ⟨_, _, _, _, h0, P1, hE⟩, G1⟩
end
end Go.Proofs.Qxb6500277aGreat
