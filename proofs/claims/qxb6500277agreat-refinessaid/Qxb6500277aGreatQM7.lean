/- The model parser: level. -/
import Derived.Test.Qxb6500277aGreatQM6
namespace Go.Proofs.Qxb6500277aGreat
open Go Go.RowKit

section
variable {w w' w1 w2 : World} {s tb : Nat} {T : List Tok} {i : Nat} {ns : List Nd} {er q : Int} {nv nv' nv1 nv2 : Value} {S : Nat → Prop} {M : Mo} {K K' : Nat → List Nd → Prop} {g g' : Nat → List Nd → Mo}
theorem pow1 (k : Int) : pow k = 1 ↔ k = 38 := by unfold pow; (repeat' split) <;> omega
theorem pow2 (k : Int) : pow k = 2 ↔ k = 37 := by unfold pow; (repeat' split) <;> omega
theorem pow3 (k : Int) : pow k = 3 ↔ (26 ≤ k ∧ k ≤ 31) := by unfold pow; (repeat' split) <;> omega
theorem pow4 (k : Int) : pow k = 4 ↔ (k = 32 ∨ k = 33) := by unfold pow; (repeat' split) <;> omega
theorem pow5 (k : Int) : pow k = 5 ↔ (k = 34 ∨ k = 35 ∨ k = 36) := by unfold pow; (repeat' split) <;> omega
set_option maxRecDepth 100000 in
set_option maxHeartbeats 8000000 in
theorem isOpM (k : Int) (lv : Nat) (h1 : 1 ≤ lv) (h5 : lv ≤ 5) {lvv : Int} (hl : lvv = lv) (w : World) : Calls Tryz.prog 242 #[.int .i64 k, .int .i64 lvv] w fun e w' => e = .returned (.bool (decide (pow k = lv))) ∧ w' = w := by
  subst hl
  obtain rfl | rfl | rfl | rfl | rfl : lv = 1 ∨ lv = 2 ∨ lv = 3 ∨ lv = 4 ∨ lv = 5 := by omega
  · by_cases h : k = 38
    · have z : (k == 38) = true := by simp [h]
      have Hp : Hid (decide (pow k = 1) = true) := decide_eq_true ((pow1 k).2 (by omega))
      go_enter Tryz.func242, Tryz.ntmps242
      go_wp2_with fail
      go_ret
      rw [Hp.out]
      exact ⟨rfl, rfl⟩
    · have z : (k == 38) = false := by simpa using h
      have Hp : Hid (decide (pow k = 1) = false) := decide_eq_false (fun hh => by have := (pow1 k).1 hh; omega)
      go_enter Tryz.func242, Tryz.ntmps242
      go_wp2_with fail
      go_ret
      rw [Hp.out]
      exact ⟨rfl, rfl⟩
  · by_cases h : k = 37
    · have z : (k == 37) = true := by simp [h]
      have Hp : Hid (decide (pow k = 2) = true) := decide_eq_true ((pow2 k).2 (by omega))
      go_enter Tryz.func242, Tryz.ntmps242
      go_wp2_with fail
      go_ret
      rw [Hp.out]
      exact ⟨rfl, rfl⟩
    · have z : (k == 37) = false := by simpa using h
      have Hp : Hid (decide (pow k = 2) = false) := decide_eq_false (fun hh => by have := (pow2 k).1 hh; omega)
      go_enter Tryz.func242, Tryz.ntmps242
      go_wp2_with fail
      go_ret
      rw [Hp.out]
      exact ⟨rfl, rfl⟩
  · by_cases h : 26 ≤ k
    · by_cases h2 : k ≤ 31
      · have z : decide (k ≥ 26) = true := decide_eq_true h
        have z2 : decide (k ≤ 31) = true := decide_eq_true h2
        have Hp : Hid (decide (pow k = 3) = true) := decide_eq_true ((pow3 k).2 (by omega))
        go_enter Tryz.func242, Tryz.ntmps242
        go_wp2_with fail
        go_ret
        rw [Hp.out]
        exact ⟨rfl, rfl⟩
      · have z : decide (k ≥ 26) = true := decide_eq_true h
        have z2 : decide (k ≤ 31) = false := decide_eq_false h2
        have Hp : Hid (decide (pow k = 3) = false) := decide_eq_false (fun hh => by have := (pow3 k).1 hh; omega)
        go_enter Tryz.func242, Tryz.ntmps242
        go_wp2_with fail
        go_ret
        rw [Hp.out]
        exact ⟨rfl, rfl⟩
    · have z : decide (k ≥ 26) = false := decide_eq_false h
      have Hp : Hid (decide (pow k = 3) = false) := decide_eq_false (fun hh => by have := (pow3 k).1 hh; omega)
      go_enter Tryz.func242, Tryz.ntmps242
      go_wp2_with fail
      go_ret
      rw [Hp.out]
      exact ⟨rfl, rfl⟩
  · by_cases h32 : k = 32
    · have z32 : (k == 32) = true := by simp [h32]
      have Hp : Hid (decide (pow k = 4) = true) := decide_eq_true ((pow4 k).2 (by omega))
      go_enter Tryz.func242, Tryz.ntmps242
      go_wp2_with fail
      go_ret
      rw [Hp.out]
      exact ⟨rfl, rfl⟩
    · by_cases h33 : k = 33
      · have z32 : (k == 32) = false := by simpa using h32
        have z33 : (k == 33) = true := by simp [h33]
        have Hp : Hid (decide (pow k = 4) = true) := decide_eq_true ((pow4 k).2 (by omega))
        go_enter Tryz.func242, Tryz.ntmps242
        go_wp2_with fail
        go_ret
        rw [Hp.out]
        exact ⟨rfl, rfl⟩
      · have z32 : (k == 32) = false := by simpa using h32
        have z33 : (k == 33) = false := by simpa using h33
        have Hp : Hid (decide (pow k = 4) = false) := decide_eq_false (fun hh => by have := (pow4 k).1 hh; omega)
        go_enter Tryz.func242, Tryz.ntmps242
        go_wp2_with fail
        go_ret
        rw [Hp.out]
        exact ⟨rfl, rfl⟩
  · by_cases h34 : k = 34
    · have z34 : (k == 34) = true := by simp [h34]
      have Hp : Hid (decide (pow k = 5) = true) := decide_eq_true ((pow5 k).2 (by omega))
      go_enter Tryz.func242, Tryz.ntmps242
      go_wp2_with fail
      go_ret
      rw [Hp.out]
      exact ⟨rfl, rfl⟩
    · by_cases h35 : k = 35
      · have z34 : (k == 34) = false := by simpa using h34
        have z35 : (k == 35) = true := by simp [h35]
        have Hp : Hid (decide (pow k = 5) = true) := decide_eq_true ((pow5 k).2 (by omega))
        go_enter Tryz.func242, Tryz.ntmps242
        go_wp2_with fail
        go_ret
        rw [Hp.out]
        exact ⟨rfl, rfl⟩
      · by_cases h36 : k = 36
        · have z34 : (k == 34) = false := by simpa using h34
          have z35 : (k == 35) = false := by simpa using h35
          have z36 : (k == 36) = true := by simp [h36]
          have Hp : Hid (decide (pow k = 5) = true) := decide_eq_true ((pow5 k).2 (by omega))
          go_enter Tryz.func242, Tryz.ntmps242
          go_wp2_with fail
          go_ret
          rw [Hp.out]
          exact ⟨rfl, rfl⟩
        · have z34 : (k == 34) = false := by simpa using h34
          have z35 : (k == 35) = false := by simpa using h35
          have z36 : (k == 36) = false := by simpa using h36
          have Hp : Hid (decide (pow k = 5) = false) := decide_eq_false (fun hh => by have := (pow5 k).1 hh; omega)
          go_enter Tryz.func242, Tryz.ntmps242
          go_wp2_with fail
          go_ret
          rw [Hp.out]
          exact ⟨rfl, rfl⟩
set_option maxRecDepth 100000 in
set_option maxHeartbeats 8000000 in
theorem levelL {n : Nat} (Hn : LxC T n) (hu : UxC T (n + 1)) (P : SM w s tb T i ns 0 0 nv) (hi : T.length ≤ i + n + 1) (d : Nat) (hd : d ≤ 8) {dv : Int} (hdv : dv = d) (lv : Nat) (h1 : 1 ≤ lv) (h6 : lv ≤ 6) {lvv : Int} (hlv : lvv = lv)
    (HN : lv ≤ 5 → Calls Tryz.prog 238 #[.pointer (some ⟨s, 0, none⟩), .int .i64 (lvv + 1), .int .i64 dv] w (MPM w s tb T nv i ns (.lev (lv + 1) d))) :
    Calls Tryz.prog 238 #[.pointer (some ⟨s, 0, none⟩), .int .i64 lvv, .int .i64 dv] w (MPM w s tb T nv i ns (.lev lv d)) := by
  have Hd : Hid _ := hdv
  have Hi : Hid _ := hi
  have l1 : -1 < dv := by omega
  have l2 : dv < 9 := by omega
  clear hdv hi
  have G0 : Gm s w nv w nv := .refl
  have HLv : Hid _ := hlv
  have v1 : 0 < lvv := by omega
  have v2 : lvv < 7 := by omega
  by_cases h5 : 5 < lv
  · have hb : decide (lvv > 5) = true := decide_eq_true (by omega)
    have hb2 : decide (5 < lvv) = true := decide_eq_true (by omega)
    have S0 : St w s tb T nv (body T (.lev lv d) i ns) (fun j ms => j = i ∧ ms = ns) (fun j ms => .call (.un d) j ms fin) := .inl ⟨_, _, P, ⟨rfl, rfl⟩, Im.of_eq (T := T) (M := (body T (.lev lv d) i ns)) (if_pos h5)⟩
    clear hlv h5 HN
    go_enter Tryz.func238, Tryz.ntmps238
    go_wp2_with fail
    refine (St.call (K' := fun x j ms => i < j ∧ ns.length ≤ ms.length ∧ 0 ≤ x ∧ x < ms.length) S0 (fun j ms P h => hu _ s tb nv j ms d dv (by have := Hi.out; rw [h.1]; omega) P hd Hd.out) (fun er q j ms h0 Pd => absurd (Pd.err0 P) h0) (fun j ms x j1 ms1 h h1 h2 h3 h4 => by rw [h.1, h.2] at *; omega)).mono ?_
    rintro v w1 ⟨x0, v1, rfl, S1, g1⟩
    go_wp2_with fail
    go_ret
    exact .done S1 (fun _ _ h => h) g1
  · have hb : decide (lvv > 5) = false := decide_eq_false (by omega)
    have hb2 : decide (5 < lvv) = false := decide_eq_false (by omega)
    have hl5 : lv ≤ 5 := by omega
    have v3 : lvv < 6 := by omega
    have S0 : St w s tb T nv (body T (.lev lv d) i ns) (fun j ms => j = i ∧ ms = ns) (fun j ms => .call (.lev (lv + 1) d) j ms fun x j ms => .call (.levL lv d x) j ms fin) := .inl ⟨_, _, P, ⟨rfl, rfl⟩, Im.of_eq (T := T) (M := (body T (.lev lv d) i ns)) (if_neg h5)⟩
    have HNN := HN hl5
    clear hlv h5 HN
    go_enter Tryz.func238, Tryz.ntmps238
    go_wp2_with fail
    refine (St.call (K' := fun x j ms => i < j ∧ ns.length ≤ ms.length ∧ 0 ≤ x ∧ x < ms.length) S0 (fun j ms P h => by rw [h.1, h.2]; exact HNN) (fun er q j ms h0 Pd => absurd (Pd.err0 P) h0) (fun j ms x j1 ms1 h h1 h2 h3 h4 => by rw [h.1, h.2] at *; omega)).mono ?_
    rintro v w1 ⟨x0, v1, rfl, S1, g1⟩
    have S2 := St.jump (qq := fun _ _ => .levL lv d x0) S1
    clear S0 S1 P HNN hu
    go_wp2_with fail
    go_loopg [7] (T.length + 1) (fun gk xv wr => ∃ (x : Int) (nvr : Value), xv = .int .i64 x ∧ Gm s w nv wr nvr ∧ St wr s tb T nvr (body T (.lev lv d) i ns) (fun j ms => T.length < j + gk ∧ i < j ∧ ns.length ≤ ms.length ∧ 0 ≤ x ∧ x < ms.length) (fun j ms => body T (.levL lv d x) j ms))
    case atStart => exact ⟨x0, v1, rfl, g1, S2.mono (fun j ms h => by omega)⟩
    case round =>
      clear S2 g1
      obtain ⟨x, nvr, rfl, GJ, SJ⟩ := hrel
      rcases SJ with ⟨j, ms, Pj, hKj, Cj⟩ | ⟨er, q, j, ms, h0, Pj, hE⟩
      · have Hc : Hid _ := Cj
        simp only at Hc
        obtain ⟨hg, hij, hlen, hx0, hxl⟩ := hKj
        have Hg : Hid _ := hg
        have xb : x < 200 := by have := Pj.le; omega
        clear Cj hg
        obtain ⟨r0, r1, r2, r3, r4⟩ := Pj.regs
        obtain ⟨b1, b2⟩ := Pj.blt
        go_wp2_with fail
        refine (kindM Pj).mono ?_
        rintro v w10 ⟨rfl, f10⟩
        have P10 := Pj.same f10
        have G10 := GJ.trans (.same f10)
        clear r0 r1 r2 r3 r4 b1 b2
        go_wp2_with fail
        refine (isOpM (kd T j) lv h1 hl5 HLv.out _).mono ?_
        rintro v w11 ⟨rfl, e11⟩
        subst w11
        by_cases hpw : pow (kd T j) = lv
        · have C0 : Hid _ := Im.of (T := T) Hc.out (m := body T (.levL lv d x) j ms) (if_pos hpw)
          have Hs : Hid _ := P10.nxt (fun e => by rw [e] at hpw; simp [pow] at hpw; omega)
          rw [decide_eq_true hpw]
          clear hpw
          go_wp2_with fail
          refine (atMq P10).mono ?_
          rintro v w12 ⟨rfl, f12⟩
          have P12 := P10.same f12
          have G12 := G10.trans (.same f12)
          go_wp2_with fail
          refine (nodeM 18 (ps T j) _).mono ?_
          rintro v w13 ⟨rfl, f13⟩
          have G13 := G12.trans (.same f13)
          unfold ndV
          have P13 := P12.same f13
          have S0 : St _ s tb T nvr (body T (.lev lv d) i ns) (fun j2 ms2 => j2 = j ∧ ms2 = ms) (fun j2 ms2 => .call (.lev (lv + 1) d) (stp T j2) ms2 fun y j3 ms3 => put ⟨18, x, y, -1, -1, kd T j, ps T j, ⟨#[]⟩⟩ j3 ms3 fun x j ms => .call (.levL lv d x) j ms fin) := .inl ⟨_, _, P13, ⟨rfl, rfl⟩, C0.out⟩
          go_wp2_with fail
          have B14 := MB.new S0 (⟨18, -1, -1, -1, -1, kd T j, ps T j, ⟨#[]⟩⟩)
          have Hn14 : w.heap.size ≤ w13.heap.size := G13.fr.size
          have G14 := G13.alloc (boxN (⟨18, -1, -1, -1, -1, kd T j, ps T j, ⟨#[]⟩⟩))
          refine (nextC (g := fun j2 ms2 => .call (.lev (lv + 1) d) j2 ms2 fun y j3 ms3 => put ⟨18, x, y, -1, -1, kd T j, ps T j, ⟨#[]⟩⟩ j3 ms3 fun x j ms => .call (.levL lv d x) j ms fin) (K' := KK (j + 1) ms.length) B14.S (fun j ms h => by have := Hs.out; unfold KK; rw [h.1, h.2]; omega)).mono ?_
          rintro v w15 ⟨rfl, S15, g15⟩
          have G15 := G14.trans g15
          have B15 := B14.go g15 S15
          obtain ⟨x0, x1, x2, x3, x4, x5, x6, x7, xz, xl, xn, xs⟩ := B15.fx
          go_wp2_with fail
          have B16 := B15.setA (x)
          have G16 := Gm.set (o := 1) (v := .int .i64 (x)) G15 Hn14
          refine (St.call (K' := fun y => KK (j + 2) ms.length) B16.S (fun j ms P h => Hn _ s tb nvr j ms (lv + 1) d _ _ (by have := Hi.out; unfold KK at h; omega) P (by omega) (by omega) hd (by have := HLv.out; omega) Hd.out) (fun er q j ms h0 P => (level_dead P h0 dv (5 - lv) _ (by have := HLv.out; omega) (by omega)).mono fun e w1 h => ⟨⟨_, h.1⟩, h.2⟩) (fun j ms x j1 ms1 h h1 h2 h3 h4 => by unfold KK at *; omega)).mono ?_
          rintro v w17 ⟨x17_, v17, rfl, S17, g17⟩
          have G17 := G16.trans g17
          have B17 := B16.go g17 S17
          clear x0 x1 x2 x3 x4 x5 x6 x7 xz xl xn xs
          obtain ⟨x0, x1, x2, x3, x4, x5, x6, x7, xz, xl, xn, xs⟩ := B17.fx
          go_wp2_with fail
          have B18 := B17.setB (x17_)
          have G18 := Gm.set (o := 2) (v := .int .i64 (x17_)) G17 Hn14
          refine (addCM (nd := ⟨18, x, x17_, -1, -1, kd T j, ps T j, ⟨#[]⟩⟩) (K' := fun z j2 ms2 => j + 2 ≤ j2 ∧ ms.length ≤ ms2.length ∧ 0 ≤ z ∧ z < ms2.length) B18.S (fun j ms h => by unfold KK at *; simp; omega)).mono ?_
          rintro v w19 ⟨x19_, v19, rfl, S19, g19⟩
          have G19 := G18.trans g19
          have B19 := B18.go g19 S19
          clear x0 x1 x2 x3 x4 x5 x6 x7 xz xl xn xs
          obtain ⟨x0, x1, x2, x3, x4, x5, x6, x7, xz, xl, xn, xs⟩ := B19.fx
          go_wp2_with fail
          have SE := St.jump (qq := fun _ _ => .levL lv d x19_) B19.S
          go_roundg (gk - 1)
          case measure => have := Hg.out; have := Pj.lt; omega
          case rel => exact ⟨x19_, _, rfl, G19, SE.mono (fun j2 ms2 h => by have := Hg.out; omega)⟩
        · have C0 : Hid _ := Im.of (T := T) Hc.out (m := body T (.levL lv d x) j ms) (if_neg hpw)
          rw [decide_eq_false hpw]
          clear hpw
          go_wp2_with fail
          go_ret
          exact .done (K := fun j2 ms2 => j2 = j ∧ ms2 = ms) (.inl ⟨_, _, P10, ⟨rfl, rfl⟩, C0.out⟩) (fun j2 ms2 h => by rw [h.1, h.2]; omega) G10
      · have HE : Hid _ := hE
        have hb : (er == 0) = false := by simpa using h0
        clear hE
        obtain ⟨r0, r1, r2, r3, r4⟩ := Pj.regs
        obtain ⟨b1, b2⟩ := Pj.blt
        go_wp2_with fail
        go_ret
        exact .dead ⟨er, q, j, ms, h0, Pj, HE.out⟩ GJ
end
end Go.Proofs.Qxb6500277aGreat
