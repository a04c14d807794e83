/- The real parser: unary. -/
import Derived.Test.Qxb6500277aGreatPW5
namespace Go.Proofs.Qxb6500277aGreat
open Go Go.RowKit

section
variable {w w' : World} {A : Pa} {T : List Tok} {i j : Nat} {ns ms : List Nd} {fl : Bool} {er q : Int} {S : Nat → Prop}
/-- postfix from i0 on. -/
def PoC (T : List Tok) (i0 : Nat) : Prop := ∀ (w : World) (A : Pa) (i : Nat) (ns : List Nd) (d : Nat) (l : Int), i0 ≤ i → PM w A T i ns false 0 0 → d ≤ 8 → l = 8 - (d : Int) → Calls Tryz.prog 243 #[.pointer (some ⟨A.p, 0, none⟩), .int .i64 l] w (PPost w A T i ns (.post d))
/-- A run of c operators from i on. -/
def Rn (T : List Tok) (i c : Nat) : Prop := ∀ o, o < c → (kd T (i + o) = 33 ∨ kd T (i + o) = 39) ∧ i + o + 1 < T.length
theorem un_put {d c : Nat} {x : Int} (hR : (kd T (i + c) = 33 ∨ kd T (i + c) = 39) ∧ i + c + 1 < T.length) (hd : d + c < 8) (h : EvM T (body T (.un (d + (c + 1))) (i + (c + 1)) ns) (.ok x j ms)) : Im T (put ⟨19, x, -1, -1, -1, kd T (i + c), ps T (i + c), ⟨#[]⟩⟩ j ms fin) (body T (.un (d + c)) (i + c) ns) := fun r h2 => by
  obtain ⟨h1, h3⟩ := hR
  simp only [body]
  rw [if_pos h1, ent_ok (by omega), show stp T (i + c) = i + (c + 1) by unfold stp; rw [if_pos h3]; omega]
  exact EvM.ok h h2
set_option maxRecDepth 100000 in
set_option maxHeartbeats 8000000 in
theorem unF (hp : PoC T i) (P : PM w A T i ns false 0 0) (d : Nat) (hd : d ≤ 8) {l : Int} (hl : l = 8 - (d : Int)) :
    Calls Tryz.prog 239 #[.pointer (some ⟨A.p, 0, none⟩), .int .i64 l] w (PPost w A T i ns (.un d)) := by
  have Hl : Hid _ := hl
  have l1 : -1 < l := by omega
  have l2 : l < 9 := by omega
  have ib : (i : Int) < 8192 := P.ib.1
  clear hl
  have F0 : Fr (PS A) w w := Fr.refl _ _
  obtain ⟨r1, r2, r3, r4, r5⟩ := P.r15
  obtain ⟨b1, b2, b3⟩ := P.blt
  go_enter Tryz.func239, Tryz.ntmps239
  go_wp2_with fail
  refine (kindF P).mono ?_
  rintro v w1 ⟨rfl, f1⟩
  have P1 := P.same f1
  have F1 := F0.trans f1 (fun _ _ h => h.elim)
  clear r1 r2 r3 r4 r5 b1 b2 b3
  obtain ⟨r1, r2, r3, r4, r5⟩ := P1.r15
  obtain ⟨b1, b2, b3⟩ := P1.blt
  go_wp2_with fail
  clear r1 r2 r3 r4 r5 b1 b2 b3
  go_loopg [1, 6] T.length (fun gk lv kv wr => ∃ c : Nat, lv = .int .i64 (l - c) ∧ kv = .int .i64 (kd T (i + c)) ∧ Fr (PS A) w wr ∧ PM wr A T (i + c) ns false 0 0 ∧ Rn T i c ∧ d + c ≤ 8 ∧ c + gk = T.length)
  case atStart => exact ⟨0, by simp, rfl, F1, P1, fun o ho => by omega, by omega, by omega⟩
  case round =>
    clear P1 F1 P F0
    obtain ⟨c, rfl, rfl, FJ, Pj, hR, hdc, hg⟩ := hrel
    have HR : Hid _ := hR
    have Hg : Hid _ := hg
    have hcb : c < 9 := by omega
    clear hR hg
    by_cases hop : kd T (i + c) = 33 ∨ kd T (i + c) = 39
    · have Ho : Hid _ := hop
      have Hs : Hid _ := Pj.nxt (by omega)
      have hb3 : (kd T (i + c) == 33) = true ∨ ((kd T (i + c) == 33) = false ∧ (kd T (i + c) == 39) = true) := by
        rcases hop with h | h <;> simp [h]
      have key : Hid (∀ wq, Fr (PS A) w wq → PM wq A T (stp T (i + c)) ns false 0 0 → d + c < 8 → ∃ c' : Nat, (Value.int .i64 (l - c - 1)) = .int .i64 (l - c') ∧ (Value.int .i64 (kd T (stp T (i + c)))) = .int .i64 (kd T (i + c')) ∧ Fr (PS A) w wq ∧ PM wq A T (i + c') ns false 0 0 ∧ Rn T i c' ∧ d + c' ≤ 8 ∧ c' + (gk - 1) = T.length ∧ gk - 1 < gk) := fun wq Fq Pq h8 => by
        have e1 := Hs.out.1
        have e2 := Hs.out.2
        have e3 := Hg.out
        refine ⟨c + 1, by congr 1; omega, by rw [e1]; rfl, Fq, by rw [e1] at Pq; exact Pq, fun o ho => ?_, by omega, by omega, by omega⟩
        by_cases eo : o = c
        · subst eo; exact ⟨Ho.out, e2⟩
        · exact HR.out o (by omega)
      have CB : Hid _ := Im.of_eq (T := T) (M := body T (.un (d + c)) (i + c) ns) (if_pos hop)
      clear hop
      rcases hb3 with hb3 | ⟨hb3, hb4⟩
      all_goals
        obtain ⟨r1, r2, r3, r4, r5⟩ := Pj.r15
        obtain ⟨b1, b2, b3⟩ := Pj.blt
        go_wp2_with fail
        refine (openC Pj (d + c) (by omega) (by have := Hl.out; omega) CB.out).mono ?_
        rintro v w2 ⟨f2, ⟨h82, rfl, e2, c2⟩ | ⟨rfl, D2⟩⟩
        · subst w2
          have C2 : Hid _ := c2
          clear c2 f2
          go_wp2_with fail
          refine (stepFp Pj).mono ?_
          rintro v w3 ⟨rfl, P3, f3⟩
          have F3 := FJ.trans f3 (fun _ _ h => h)
          clear r1 r2 r3 r4 r5 b1 b2 b3
          obtain ⟨r1, r2, r3, r4, r5⟩ := P3.r15
          obtain ⟨b1, b2, b3⟩ := P3.blt
          go_wp2_with fail
          refine (kindF P3).mono ?_
          rintro v w4 ⟨rfl, f4⟩
          have P4 := P3.same f4
          have F4 := F3.trans f4 (fun _ _ h => h.elim)
          clear r1 r2 r3 r4 r5 b1 b2 b3
          obtain ⟨r1, r2, r3, r4, r5⟩ := P4.r15
          obtain ⟨b1, b2, b3⟩ := P4.blt
          go_wp2_with fail
          have Hkk : Hid _ := key.out _ F4 P4 (by omega)
          go_roundg (gk - 1)
          case measure => obtain ⟨_, _, _, _, _, _, _, _, h⟩ := Hkk.out; exact h
          case rel =>
            obtain ⟨c2, a1, a2, a3, a4, a5, a6, a7, _⟩ := Hkk.out
            exact ⟨c2, a1, a2, a3, a4, a5, a6, a7⟩
        · obtain ⟨er2, q2, jd2, md2, h02, P2, hE2⟩ := D2
          have HE2 : Hid _ := hE2
          clear hE2
          have F2 := FJ.trans f2 (fun _ _ h => h)
          clear r1 r2 r3 r4 r5 b1 b2 b3
          obtain ⟨r1, r2, r3, r4, r5⟩ := P2.r15
          obtain ⟨b1, b2, b3⟩ := P2.blt
          go_wp2_with fail
          go_ret
          exact .dead F2 ⟨_, _, _, _, h02, P2, un_bad c HR.out (by omega) HE2.out⟩
    · have CB : Hid _ := (Im.of_eq (T := T) (M := body T (.un (d + c)) (i + c) ns) (if_neg hop))
      have hb3 : (kd T (i + c) == 33) = false := by simp; omega
      have hb4 : (kd T (i + c) == 39) = false := by simp; omega
      have icb : ((i + c : Nat) : Int) < 8192 := Pj.ib.1
      clear hop
      obtain ⟨r1, r2, r3, r4, r5⟩ := Pj.r15
      obtain ⟨b1, b2, b3⟩ := Pj.blt
      go_wp2_with fail
      refine (hp wr A (i + c) ns (d + c) (l - c) (by omega) Pj hdc (by have := Hl.out; omega)).mono ?_
      intro v w2 h1
      obtain ⟨f2, h1⟩ := h1.use CB.out
      have F2 := FJ.trans f2 (fun _ _ h => h)
      have hv : ∃ x0 : Int, v = .returned (.int .i64 x0) ∧ ((x0 = -1 ∧ Dd w2 A T (body T (.un d) i ns)) ∨ ∃ j ms, PM w2 A T j ms false 0 0 ∧ i < j ∧ x0 + 1 = ms.length ∧ (ns.length : Int) ≤ x0 ∧ EvM T (body T (.un (d + c)) (i + c) ns) (.ok x0 j ms)) := by
        rcases h1 with ⟨x, j, ms, e, a, b, c', d', C⟩ | ⟨e, er, q, j, ms, h0, P4, hE⟩
        · exact ⟨x, e, .inr ⟨j, ms, a, by omega, c', d', C _ (.fin _ _ _)⟩⟩
        · exact ⟨-1, e, .inl ⟨rfl, er, q, j, ms, h0, P4, un_bad c HR.out hdc hE⟩⟩
      obtain ⟨x0, rfl, h3⟩ := hv
      have H3 : Hid _ := h3
      clear r1 r2 r3 r4 r5 b1 b2 b3
      clear h1 h3 CB hp Pj FJ f2 hb3 hb4
      go_wp2_with fail
      go_loopg [8, 9] (c + 1) (fun gk2 xv jv wr => ∃ (x : Int) (m : Nat), xv = .int .i64 x ∧ jv = .int .i64 ((i : Int) + m - 1) ∧ m + 1 = gk2 ∧ m ≤ c ∧ Fr (PS A) w wr ∧ ((x = -1 ∧ Dd wr A T (body T (.un d) i ns)) ∨ ∃ j ms, PM wr A T j ms false 0 0 ∧ i < j ∧ x + 1 = ms.length ∧ (ns.length : Int) ≤ x ∧ EvM T (body T (.un (d + m)) (i + m) ns) (.ok x j ms)))
      case atStart => exact ⟨x0, c, rfl, by congr 1, rfl, by omega, F2, H3.out⟩
      case round =>
        clear H3 F2
        obtain ⟨x, m, rfl, rfl, hmg, hmc, FJ, ⟨rfl, D⟩ | ⟨j, ms, Pj, hij, hx, hn, hE⟩⟩ := hrel
        · obtain ⟨er0, q0, jd0, md0, h00, Pj, hE0⟩ := D
          have HE0 : Hid _ := hE0
          have Hm : Hid _ := hmg
          clear hE0 hmg
          obtain ⟨r1, r2, r3, r4, r5⟩ := Pj.r15
          obtain ⟨b1, b2, b3⟩ := Pj.blt
          by_cases hm : (i : Int) + m - 1 ≥ i
          · have hmb : decide ((i : Int) + m - 1 ≥ i) = true := decide_eq_true hm
            go_wp2_with fail
            go_ret
            exact .dead FJ ⟨_, _, _, _, h00, Pj, HE0.out⟩
          · have hmb : decide ((i : Int) + m - 1 ≥ i) = false := decide_eq_false hm
            go_wp2_with fail
            go_ret
            exact .dead FJ ⟨_, _, _, _, h00, Pj, HE0.out⟩
        · have HE : Hid _ := hE
          have Hx : Hid _ := hx
          have Hm : Hid _ := hmg
          clear hE hx hmg
          have xb : x < 200 := by have := Pj.le; have := Hx.out; omega
          have xb0 : -1 < x := by omega
          obtain ⟨r1, r2, r3, r4, r5⟩ := Pj.r15
          obtain ⟨b1, b2, b3⟩ := Pj.blt
          obtain ⟨i1, i2⟩ := Pj.ib
          cases m with
          | zero =>
            have hmb : decide ((i : Int) + ((0 : Nat) : Int) - 1 ≥ i) = false := decide_eq_false (by omega)
            go_wp2_with fail
            go_ret
            exact ⟨.ok x j ms, HE.out, FJ, rfl, Pj, hij, Hx.out, hn⟩
          | succ m =>
            have Hoo : Hid _ := HR.out m (by omega)
            have hlT : i + m < T.length := by have := Hoo.out.2; omega
            have ck0 : wr.cell? ⟨A.tb, (i + m) * 4, none⟩ = some (.int .i64 (kd T (i + m))) := by
              have := Pj.tks.tok (i + m) hlT 0 (by omega)
              simpa [kd, tk, List.getElem?_eq_getElem hlT, tokCell] using this
            have ck1 : wr.cell? ⟨A.tb, (i + m) * 4 + 1, none⟩ = some (.int .i64 (ps T (i + m))) := by
              have := Pj.tks.tok (i + m) hlT 1 (by omega)
              simpa [ps, tk, List.getElem?_eq_getElem hlT, tokCell] using this
            have hpsn : 0 ≤ ps T (i + m) := by
              have := Pj.tok.ps (i + m) hlT
              simpa [ps, tk, List.getElem?_eq_getElem hlT] using this
            have CP : Hid _ := un_put Hoo.out (by omega) HE.out
            have UB : Hid (∀ e q, EvM T (body T (.un (d + m)) (i + m) ns) (.bad e q) → EvM T (body T (.un d) i ns) (.bad e q)) := fun e q h => un_bad m (fun o ho => HR.out o (by omega)) (by omega) h
            have UO : Hid (∀ x j ms, Im T (fin x j ms) (body T (.un (d + m)) (i + m) ns) → EvM T (body T (.un (d + m)) (i + m) ns) (.ok x j ms)) := fun x j ms h => h _ (.fin _ _ _)
            have ej : ((i : Int) + ((m + 1 : Nat) : Int) - 1) = ((i + m : Nat) : Int) := by omega
            have ej2 : Hid (((i + m : Nat) : Int) - 1 = (i : Int) + m - 1) := by show _ = _; omega
            have hmb : decide (((i + m : Nat) : Int) ≥ i) = true := decide_eq_true (by omega)
            have hlt4 : decide (((i + m : Nat) : Int) < (T.length : Nat)) = true := decide_eq_true (by omega)
            rw [ej]
            clear ej HE
            have hmb2 : decide ((i : Int) ≤ ((i + m : Nat) : Int)) = true := decide_eq_true (by omega)
            have hmb3 : decide (i ≤ i + m) = true := decide_eq_true (by omega)
            generalize him : i + m = im at *
            have Him : Hid _ := him
            clear him
            go_wp2_with fail
            refine (freshF 19 (ps T im) _).mono ?_
            rintro v w5 ⟨rfl, f5⟩
            have P5 := Pj.same f5
            have F5 := FJ.trans f5 (fun _ _ h => h.elim)
            unfold ndV fre
            clear r1 r2 r3 r4 r5 b1 b2 b3
            obtain ⟨r1, r2, r3, r4, r5⟩ := P5.r15
            obtain ⟨b1, b2, b3⟩ := P5.blt
            have ck0' : w5.cell? ⟨A.tb, im * 4, none⟩ = some (.int .i64 (kd T im)) := by rw [f5.cell Pj.blt.2.1 (fun h => h)]; exact ck0
            have ck1' : w5.cell? ⟨A.tb, im * 4 + 1, none⟩ = some (.int .i64 (ps T im)) := by rw [f5.cell Pj.blt.2.1 (fun h => h)]; exact ck1
            clear ck0 ck1
            go_wp2_with fail
            have B5 := BM.new P5 (⟨19, x, -1, -1, -1, kd T im, ps T im, ⟨#[]⟩⟩)
            have G5 := F5.alloc (boxN (⟨19, x, -1, -1, -1, kd T im, ps T im, ⟨#[]⟩⟩))
            have Hn5 : w.heap.size ≤ w5.heap.size := F5.size
            refine (addC B5.P (⟨19, x, -1, -1, -1, kd T im, ps T im, ⟨#[]⟩⟩) ⟨by simp, hpsn, by have := Hx.out; simp; omega, by simp; omega, by simp; omega, .inl rfl⟩ CP.out).mono ?_
            rintro v w6 ⟨f6, ⟨n6, hn6, rfl, P6, hb6, c6⟩ | ⟨rfl, D6⟩⟩
            · have C6 : Hid _ := c6
              have Hn_6 : Hid _ := hn6
              clear c6 hn6
              have B6 := B5.go f6 P6
              have F6 := G5.trans f6 (fun _ _ h => h)
              clear r1 r2 r3 r4 r5 b1 b2 b3
              obtain ⟨r1, r2, r3, r4, r5⟩ := B6.P.r15
              obtain ⟨b1, b2, b3⟩ := B6.P.blt
              obtain ⟨x0, x1, x2, x3, x4, x5, x6, x7, xz, xl, xn1, xn2, xn3⟩ := B6.fx
              go_wp2_with fail
              go_roundg (m + 1)
              case measure => have := Hm.out; omega
              case rel => exact ⟨n6, m, rfl, by rw [← ej2.out], rfl, by omega, F6, .inr ⟨_, _, B6.P, hij, by have := Hn_6.out; simp; omega, by have := Hn_6.out; have := Hx.out; omega, by rw [Him.out]; exact UO.out _ _ _ C6.out⟩⟩
            · obtain ⟨er6, q6, jd6, md6, h06, P6, hE6⟩ := D6
              have HE6 : Hid _ := hE6
              clear hE6
              have B6 := B5.go f6 P6
              have F6 := G5.trans f6 (fun _ _ h => h)
              clear r1 r2 r3 r4 r5 b1 b2 b3
              obtain ⟨r1, r2, r3, r4, r5⟩ := B6.P.r15
              obtain ⟨b1, b2, b3⟩ := B6.P.blt
              obtain ⟨x0, x1, x2, x3, x4, x5, x6, x7, xz, xl, xn1, xn2, xn3⟩ := B6.fx
              go_wp2_with fail
              go_roundg (m + 1)
              case measure => have := Hm.out; omega
              case rel => exact ⟨-1, m, rfl, by rw [← ej2.out], rfl, by omega, F6, .inl ⟨rfl, _, _, _, _, h06, B6.P, UB.out _ _ HE6.out⟩⟩
end
end Go.Proofs.Qxb6500277aGreat
