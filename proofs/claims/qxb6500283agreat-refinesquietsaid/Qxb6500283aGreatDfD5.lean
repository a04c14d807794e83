import Derived.Test.Qxb6500283aGreatDfD4
import Derived.Deep.RegionWith
namespace Go.Proofs.Qxb6500283aGreat
open Go Go.RowKit

def opAt (p : List In) (q : Nat) (o : Int) : Prop := ∃ x, p[q]? = some x ∧ x.op = o
def IsMask (p : List In) (m : Nat) (o : Int) : Prop := m < 18446744073709551616 ∧ ∀ q, m.testBit q = true ↔ opAt p q o
/-- The masks up to place k. -/
def MaskTo (p : List In) (k m : Nat) (o : Int) : Prop := m < 18446744073709551616 ∧ ∀ q, m.testBit q = true ↔ q < k ∧ opAt p q o
theorem MaskTo.zero (p : List In) (o : Int) : MaskTo p 0 0 o := ⟨by omega, fun q => by simp⟩
theorem MaskTo.yes {p : List In} {k m : Nat} {o : Int} (h : MaskTo p k m o) (hk : k < 64) (ho : opAt p k o) : MaskTo p (k + 1) (m ||| bv k) o := by
  refine ⟨or_lt _ _ h.1 (bv_lt k hk), fun q => ?_⟩
  rw [test_or, Bool.or_eq_true, decide_eq_true_eq, h.2 q]
  constructor
  · rintro (⟨h1, h2⟩ | rfl)
    · exact ⟨by omega, h2⟩
    · exact ⟨by omega, ho⟩
  · rintro ⟨h1, h2⟩
    by_cases e : k = q
    · exact .inr e
    · exact .inl ⟨by omega, h2⟩
theorem MaskTo.no {p : List In} {k m : Nat} {o : Int} (h : MaskTo p k m o) (ho : ¬ opAt p k o) : MaskTo p (k + 1) m o := by
  refine ⟨h.1, fun q => ?_⟩
  rw [h.2 q]
  constructor
  · rintro ⟨h1, h2⟩; exact ⟨by omega, h2⟩
  · rintro ⟨h1, h2⟩
    by_cases e : q = k
    · subst e; exact absurd h2 ho
    · exact ⟨by omega, h2⟩
theorem MaskTo.all {p : List In} {m : Nat} {o : Int} (h : MaskTo p p.length m o) : IsMask p m o := by
  refine ⟨h.1, fun q => ?_⟩
  rw [h.2 q]
  constructor
  · exact fun h => h.2
  · rintro ⟨x, hx, ho⟩
    exact ⟨(List.getElem?_eq_some_iff.1 hx).1, x, hx, ho⟩
theorem opAt_iff {p : List In} {q : Nat} (h : q < p.length) (o : Int) : opAt p q o ↔ p[q].op = o := by
  unfold opAt
  rw [List.getElem?_eq_getElem h]
  simp
theorem Mach.setMask {w : World} {x : Nat} {kv : Value} {s : DS} (h : Mach w x kv s) (v : Nat) : Mach (w.setCell ⟨x, 1, none⟩ (.int .u64 v)) x kv { s with chars := v } ∧ Mach (w.setCell ⟨x, 2, none⟩ (.int .u64 v)) x kv { s with ends := v } ∧ Mach (w.setCell ⟨x, 3, none⟩ (.int .u64 v)) x kv { s with hits := v } := by
  refine ⟨h.setM 1 _ rfl rfl fun k hk => ?_, h.setM 2 _ rfl rfl fun k hk => ?_, h.setM 3 _ rfl rfl fun k hk => ?_⟩ <;>
  rcases lt16 hk with rfl | rfl | rfl | rfl | rfl | rfl | rfl | rfl | rfl | rfl | rfl | rfl | rfl | rfl | rfl | rfl <;> simp [upd, mcell]

set_option maxRecDepth 100000 in
set_option maxHeartbeats 4000000 in
theorem masks_any {w : World} {x : Nat} {kv : Value} {s : DS} {kb cap : Nat} {p : List In} (h : Mach w x kv s) (hk : KeptD w x kv kb cap p) :
    Calls Tryz.prog 127 #[.pointer (some ⟨x, 0, none⟩)] w fun e w' => ∃ C E H, e = .returned (.tuple #[]) ∧ IsMask p C 0 ∧ IsMask p E 5 ∧ IsMask p H 6 ∧ Mach w' x kv { s with chars := C, ends := E, hits := H } ∧ Fr (mOwn x) w w' := by
  have hm := hk.ok.max
  have c1 : w.cell? ⟨x, 1, none⟩ = some (.int .u64 s.chars) := h.main.cell (by omega)
  have c2 : w.cell? ⟨x, 2, none⟩ = some (.int .u64 s.ends) := h.main.cell (by omega)
  have c3 : w.cell? ⟨x, 3, none⟩ = some (.int .u64 s.hits) := h.main.cell (by omega)
  have z0 := h.main.frozen
  have key := ((h.setMask 0).1.setMask 0).2.1.setMask 0
  have Hk : Hid _ := key.2.2
  have F0 : Hid (Fr (mOwn x) w (((w.setCell ⟨x, 1, none⟩ (.int .u64 (0 : Nat))).setCell ⟨x, 2, none⟩ (.int .u64 (0 : Nat))).setCell ⟨x, 3, none⟩ (.int .u64 (0 : Nat)))) := (((Fr.refl _ _).mset0 _ _).mset0 _ _).mset0 _ _
  clear key
  go_enter Tryz.func127, Tryz.ntmps127
  go_wp2_with fail
  go_loopg [2] p.length (fun g pv wr => ∃ (pc C E H : Nat), pv = .int .i64 pc ∧ pc + g = p.length ∧ MaskTo p pc C 0 ∧ MaskTo p pc E 5 ∧ MaskTo p pc H 6 ∧ Mach wr x kv { s with chars := C, ends := E, hits := H } ∧ Fr (mOwn x) w wr)
  case atStart => exact ⟨0, 0, 0, 0, rfl, by omega, MaskTo.zero _ _, MaskTo.zero _ _, MaskTo.zero _ _, Hk.out, F0.out⟩
  case round =>
    obtain ⟨pc, C, E, H, rfl, hg, hC, hE, hH, hM, hfr⟩ := hrel
    have hg' : pc + gk = p.length := hg
    have d0 : wr.cell? ⟨x, 0, none⟩ = some (.slice (some ⟨kb, 0, none⟩) p.length cap) := by rw [hM.main.cell (by omega)]; exact congrArg _ hk.v
    have d1 : wr.cell? ⟨x, 1, none⟩ = some (.int .u64 C) := hM.main.cell (by omega)
    have d2 : wr.cell? ⟨x, 2, none⟩ = some (.int .u64 E) := hM.main.cell (by omega)
    have d3 : wr.cell? ⟨x, 3, none⟩ = some (.int .u64 H) := hM.main.cell (by omega)
    have z1 := hM.main.frozen
    clear hg c1 c2 c3 z0 Hk F0
    by_cases hlt : pc < p.length
    · have hp64 : pc < 64 := by omega
      have hk2 := hk.frame hfr hk.far
      have i0 := hk2.at_ pc hlt 0 (by omega)
      simp only [inCell, Nat.add_zero] at i0
      have hio : ∀ o, opAt p pc o ↔ p[pc].op = o := fun o => opAt_iff hlt o
      obtain ⟨I, hI⟩ : ∃ I, I = p[pc].op := ⟨_, rfl⟩
      rw [← hI] at i0 hio
      have Hio : Hid _ := hio
      clear hio hI
      by_cases o0 : I = 0
      · subst o0
        have a1 := or_bit C pc hC.1 hp64
        obtain ⟨N, hN⟩ : ∃ N, N = C ||| bv pc := ⟨_, rfl⟩
        have nY := hC.yes hp64 ((Hio.out 0).2 rfl)
        have nE := hE.no (fun h => by have := (Hio.out 5).1 h; omega)
        have nH := hH.no (fun h => by have := (Hio.out 6).1 h; omega)
        rw [← hN] at a1 nY
        have K := (hM.setMask N).1
        have KH : Hid _ := K
        clear hN K
        go_wp2_with fail
        go_region_with (refine (bit_any pc hp64 _).mono ?_; rintro e w3 ⟨rfl, rfl⟩)
        all_goals
          go_wp2_with fail
          go_roundg (gk - 1)
          case measure => omega
          case rel => exact ⟨pc + 1, N, E, H, by simp, by omega, nY, nE, nH, KH.out.drew, (hfr.mset0 _ _).drew⟩
      by_cases o5 : I = 5
      · subst o5
        clear o0
        have a1 := or_bit E pc hE.1 hp64
        obtain ⟨N, hN⟩ : ∃ N, N = E ||| bv pc := ⟨_, rfl⟩
        have nY := hE.yes hp64 ((Hio.out 5).2 rfl)
        have nC := hC.no (fun h => by have := (Hio.out 0).1 h; omega)
        have nH := hH.no (fun h => by have := (Hio.out 6).1 h; omega)
        rw [← hN] at a1 nY
        have K := (hM.setMask N).2.1
        have KH : Hid _ := K
        clear hN K
        go_wp2_with fail
        go_region_with (refine (bit_any pc hp64 _).mono ?_; rintro e w3 ⟨rfl, rfl⟩)
        all_goals
          go_wp2_with fail
          go_roundg (gk - 1)
          case measure => omega
          case rel => exact ⟨pc + 1, C, N, H, by simp, by omega, nC, nY, nH, KH.out.drew, (hfr.mset0 _ _).drew⟩
      by_cases o6 : I = 6
      · subst o6
        clear o0 o5
        have a1 := or_bit H pc hH.1 hp64
        obtain ⟨N, hN⟩ : ∃ N, N = H ||| bv pc := ⟨_, rfl⟩
        have nY := hH.yes hp64 ((Hio.out 6).2 rfl)
        have nC := hC.no (fun h => by have := (Hio.out 0).1 h; omega)
        have nE := hE.no (fun h => by have := (Hio.out 5).1 h; omega)
        rw [← hN] at a1 nY
        have K := (hM.setMask N).2.2
        have KH : Hid _ := K
        clear hN K
        go_wp2_with fail
        go_region_with (refine (bit_any pc hp64 _).mono ?_; rintro e w3 ⟨rfl, rfl⟩)
        all_goals
          go_wp2_with fail
          go_roundg (gk - 1)
          case measure => omega
          case rel => exact ⟨pc + 1, C, E, N, by simp, by omega, nC, nE, nY, KH.out.drew, (hfr.mset0 _ _).drew⟩
      have t0 : (I == 0) = false := by simpa using o0
      have t5 : (I == 5) = false := by simpa using o5
      have t6 : (I == 6) = false := by simpa using o6
      have nC := hC.no (fun h => o0 ((Hio.out 0).1 h))
      have nE := hE.no (fun h => o5 ((Hio.out 5).1 h))
      have nH := hH.no (fun h => o6 ((Hio.out 6).1 h))
      clear o0 o5 o6
      go_wp2_with fail
      go_roundg (gk - 1)
      case measure => omega
      case rel => exact ⟨pc + 1, C, E, H, by simp, by omega, nC, nE, nH, hM, hfr⟩
    · have hpe : pc = p.length := by omega
      subst hpe
      go_wp2_with fail
      go_end0
      exact ⟨C, E, H, rfl, hC.all, hE.all, hH.all, hM, hfr⟩

/-- The seeds of the next place: the place 0, and behind each char that takes the byte. -/
def MoveTo (p : List In) (S c k : Nat) (q : Nat) : Prop := q = 0 ∨ ∃ pc, pc < k ∧ q = pc + 1 ∧ S.testBit pc = true ∧ ∃ x, p[pc]? = some x ∧ x.op = 0 ∧ hasB x.s0 x.s1 x.s2 x.s3 c = true
set_option maxRecDepth 100000 in
set_option maxHeartbeats 4000000 in
theorem move_any {w : World} {x : Nat} {kv : Value} {s : DS} {kb cap : Nat} {p : List In} (h : Mach w x kv s) (hk : KeptD w x kv kb cap p) (hcm : IsMask p s.chars 0) (S c : Nat) (hS : S < 18446744073709551616) (hc : c < 256) :
    Calls Tryz.prog 150 #[.pointer (some ⟨x, 0, none⟩), .int .u64 S, .int .u8 c] w fun e w' => ∃ M, e = .returned (.int .u64 (M : Nat)) ∧ M < 18446744073709551616 ∧ (∀ q, M.testBit q = true ↔ MoveTo p S c p.length q) ∧ Fr (fun _ => False) w w' := by
  have hm := hk.ok.max
  have c1 : w.cell? ⟨x, 1, none⟩ = some (.int .u64 s.chars) := h.main.cell (by omega)
  have c0 : w.cell? ⟨x, 0, none⟩ = some (.slice (some ⟨kb, 0, none⟩) p.length cap) := by rw [h.main.cell (by omega)]; exact congrArg _ hk.v
  have hxl := h.main.lt
  have a0 := bits_and_u64_nat S s.chars hS hcm.1
  obtain ⟨L, hL⟩ : ∃ L, L = S &&& s.chars := ⟨_, rfl⟩
  rw [← hL] at a0
  have hLt : L < 18446744073709551616 := by rw [hL]; exact Nat.lt_of_le_of_lt Nat.and_le_left hS
  have HL : Hid (∀ q, L.testBit q = true ↔ S.testBit q = true ∧ opAt p q 0) := fun q => by rw [hL, Nat.testBit_and, Bool.and_eq_true, hcm.2 q]
  clear hL
  go_enter Tryz.func150, Tryz.ntmps150
  go_wp2_with fail
  go_loopg [7, 9] p.length (fun g mv pv wr => ∃ (M pc : Nat), mv = .int .u64 M ∧ pv = .int .i64 pc ∧ pc + g = p.length ∧ M < 18446744073709551616 ∧ (∀ q, M.testBit q = true ↔ MoveTo p S c pc q) ∧ Fr (fun _ => False) w wr)
  case atStart =>
    refine ⟨1, 0, rfl, rfl, by omega, by omega, fun q => ?_, Fr.refl _ _⟩
    rw [show (1 : Nat) = 2 ^ 0 by rfl, Nat.testBit_two_pow]
    simp only [decide_eq_true_eq, MoveTo]
    constructor
    · exact fun h => .inl h.symm
    · rintro (h | ⟨pc, h1, _⟩)
      · exact h.symm
      · omega
  case round =>
    obtain ⟨M, pc, rfl, rfl, hg, hMl, hMq, hfr⟩ := hrel
    have hg' : pc + gk = p.length := hg
    have d0 : wr.cell? ⟨x, 0, none⟩ = some (.slice (some ⟨kb, 0, none⟩) p.length cap) := by rw [hfr.cell (p := ⟨x, 0, none⟩) hxl (by simp)]; exact c0
    have HMq : Hid _ := hMq
    clear hg hMq
    by_cases hlt : pc < p.length
    · have hp64 : pc < 64 := by omega
      have Hno : Hid (¬ (S.testBit pc = true ∧ ∃ x, p[pc]? = some x ∧ x.op = 0 ∧ hasB x.s0 x.s1 x.s2 x.s3 c = true) → ∀ q, M.testBit q = true ↔ MoveTo p S c (pc + 1) q) := fun hn q => by
        rw [HMq.out q]
        constructor
        · rintro (h | ⟨pc', h1, h2⟩)
          · exact .inl h
          · exact .inr ⟨pc', by omega, h2⟩
        · rintro (h | ⟨pc', h1, h2, h3⟩)
          · exact .inl h
          · by_cases e : pc' = pc
            · subst e; exact absurd h3 hn
            · exact .inr ⟨pc', by omega, h2, h3⟩
      go_wp2_with fail
      refine (bit_any pc hp64 _).mono ?_
      rintro e w2 ⟨rfl, rfl⟩
      cases ht : L.testBit pc with
      | false =>
        have a1 := and_no hLt hp64 ht
        have hnx := Hno.out (fun h => by
          obtain ⟨x, hx, ho, _⟩ := h.2
          have := (HL.out pc).2 ⟨h.1, x, hx, ho⟩
          rw [ht] at this; cases this)
        clear ht
        go_wp2_with fail
        go_roundg (gk - 1)
        case measure => omega
        case rel => exact ⟨M, pc + 1, rfl, by simp, by omega, hMl, hnx, hfr⟩
      | true =>
        have a1 := and_yes hLt hp64 ht
        have a2 := bv_ne pc
        have a3 := bv_ne' pc
        obtain ⟨hSb, x0, hx0, ho0⟩ := (HL.out pc).1 ht
        have ex0 : x0 = p[pc] := by rw [List.getElem?_eq_getElem hlt] at hx0; cases hx0; rfl
        have hk2 := hk.frame hfr (fun h => h)
        have i3 := hk2.at_ pc hlt 3 (by omega)
        have i4 := hk2.at_ pc hlt 4 (by omega)
        have i5 := hk2.at_ pc hlt 5 (by omega)
        have i6 := hk2.at_ pc hlt 6 (by omega)
        simp only [inCell] at i3 i4 i5 i6
        rw [← ex0] at i3 i4 i5 i6
        have hok := hk.ok.all pc hlt
        have hp1 : pc + 1 < 64 := by rw [← ex0] at hok; unfold okIn at hok; omega
        have Hx : Hid _ := hx0
        have Ho : Hid _ := ho0
        have Hs : Hid _ := hSb
        clear ht hok ex0 hx0 ho0 hSb
        go_wp2_with fail
        refine (has_set _ _ _ _ c hc _).mono ?_
        rintro e w3 ⟨rfl, f3⟩
        cases hb : hasB x0.s0 x0.s1 x0.s2 x0.s3 c with
        | false =>
          have hnx := Hno.out (fun h => by
            obtain ⟨x, hx, ho, hh⟩ := h.2
            rw [Hx.out] at hx
            cases hx
            rw [hb] at hh; cases hh)
          clear hb
          go_wp2_with fail
          go_roundg (gk - 1)
          case measure => omega
          case rel => exact ⟨M, pc + 1, rfl, by simp, by omega, hMl, hnx, hfr.trans f3 (fun _ _ h => h)⟩
        | true =>
          have b1 := or_bit M (pc + 1) hMl hp1
          obtain ⟨M2, hM2⟩ : ∃ M2, M2 = M ||| bv (pc + 1) := ⟨_, rfl⟩
          rw [← hM2] at b1
          have hM2l : M2 < 18446744073709551616 := by rw [hM2]; exact or_lt _ _ hMl (bv_lt _ hp1)
          have hnx : ∀ q, M2.testBit q = true ↔ MoveTo p S c (pc + 1) q := fun q => by
            rw [hM2, test_or, Bool.or_eq_true, decide_eq_true_eq, HMq.out q]
            constructor
            · rintro ((h | ⟨pc', h1, h2⟩) | h)
              · exact .inl h
              · exact .inr ⟨pc', by omega, h2⟩
              · exact .inr ⟨pc, by omega, h.symm, Hs.out, x0, Hx.out, Ho.out, hb⟩
            · rintro (h | ⟨pc', h1, h2, h3⟩)
              · exact .inl (.inl h)
              · by_cases e : pc' = pc
                · exact .inr (by omega)
                · exact .inl (.inr ⟨pc', by omega, h2, h3⟩)
          clear hM2 hb
          go_wp2_with fail
          refine (bit_any (pc + 1) hp1 _).mono ?_
          rintro e w4 ⟨rfl, rfl⟩
          go_wp2_with fail
          go_roundg (gk - 1)
          case measure => omega
          case rel => exact ⟨M2, pc + 1, rfl, by simp, by omega, hM2l, hnx, hfr.trans f3 (fun _ _ h => h)⟩
    · have hpe : pc = p.length := by omega
      subst hpe
      go_wp2_with fail
      go_ret
      exact ⟨M, rfl, hMl, HMq.out, hfr⟩
end Go.Proofs.Qxb6500283aGreat
