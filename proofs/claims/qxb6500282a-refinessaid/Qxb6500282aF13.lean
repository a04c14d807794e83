import Derived.Test.Qxb6500282aF12
namespace Go.Proofs.Qxb6500282a
open Go Go.RowKit

theorem mask_unique {p : List In} {m m' : Nat} {o : Int} (h : IsMask p m o) (h' : IsMask p m' o) : m = m' := by
  apply Nat.eq_of_testBit_eq
  intro q
  have := (h.2 q).trans (h'.2 q).symm
  cases h1 : m.testBit q <;> cases h2 : m'.testBit q <;> simp_all
set_option maxRecDepth 100000 in
set_option maxHeartbeats 4000000 in
theorem shaped_any {w : World} {x : Nat} {kv : Value} {K : List In} {s : DS} (h : DInv w x kv K s) : Calls Try.prog 24 #[.pointer (some ⟨x, 0, none⟩)] w fun e w' => e = .returned (.bool true) ∧ Fr (fun _ => False) w w' := by
  have c11 : w.cell? ⟨x, 11, none⟩ = some (.slice (some ⟨x + 1, 0, none⟩) 1536 1536) := h.mach.main.cell (by omega)
  have c12 : w.cell? ⟨x, 12, none⟩ = some (.slice (some ⟨x + 2, 0, none⟩) 64 64) := h.mach.main.cell (by omega)
  have c10 : w.cell? ⟨x, 10, none⟩ = some (.int .i64 s.used) := h.mach.main.cell (by omega)
  have c13 : w.cell? ⟨x, 13, none⟩ = some (.int .i64 s.built) := h.mach.main.cell (by omega)
  have c14 : w.cell? ⟨x, 14, none⟩ = some (.int .i64 s.flushes) := h.mach.main.cell (by omega)
  have c15 : w.cell? ⟨x, 15, none⟩ = some (.int .i64 s.worked) := h.mach.main.cell (by omega)
  have c0 : w.cell? ⟨x, 0, none⟩ = some kv := h.mach.main.cell (by omega)
  have hu := h.inv.used
  have hb := h.bu
  have hw := h.wk
  have t1 : decide ((s.used : Int) < 0) = false := by simp
  have t2 : decide ((6 : Int) < (s.used : Int)) = false := by simp; omega
  have t3 : decide ((s.built : Int) < (s.used : Int)) = false := by simp; omega
  have t3' : decide (s.built < s.used) = false := by simp; omega
  have t4 : decide ((s.flushes : Int) < 0) = false := by simp
  have t5 : decide ((s.worked : Int) < (s.built : Int)) = false := by simp; omega
  have t5' : decide (s.worked < s.built) = false := by simp; omega
  rcases h.kv with ⟨rfl, e⟩ | ⟨kb, cap, hk⟩
  · have h0 := h.no e
    rw [h0] at c10
    have e0 : ∀ w, (binOp .eql 31 (.slice none 0 0) (.slice none 0 0)).run Try.prog w = .ok (.bool true) w := fun w => run_eql_nil_slice w 31 47 none 0 0 0 0 Try.underlying31
    have t6 : decide ((s.built : Int) < 0) = false := by simp
    clear h0 e hu hb hw t1 t2 t3 t3'
    go_enter Try.func24, Try.ntmps24
    go_wp2_with fail
    refine wp_region_text (by kernel_rfl) (by kernel_rfl) ?_
    go_wp2_with fail
    refine ⟨by kernel_rfl, ?_⟩
    go_wp2_with fail
    go_ret
    exact ⟨rfl, (Fr.refl _ _).drew⟩
  · rw [hk.v] at c0
    have e0 : ∀ w, (binOp .eql 31 (.slice (some ⟨kb, 0, none⟩) K.length cap) (.slice none 0 0)).run Try.prog w = .ok (.bool false) w := fun w => Lib.run_eql_slice_nil w 31 47 (some ⟨kb, 0, none⟩) K.length cap 0 0 Try.underlying31
    have hpo := (progOK_iff K).2 hk.ok
    have hm := hk.ok.max
    go_enter Try.func24, Try.ntmps24
    go_wp2_with fail
    refine wp_region_text (by kernel_rfl) (by kernel_rfl) ?_
    go_wp2_with fail
    refine ⟨by kernel_rfl, ?_⟩
    go_wp2_with fail
    refine (progok_any K kb cap (hk.at_.frame ((Fr.refl (fun _ => False) w).drew) (fun h => h)) (by omega)).mono ?_
    rintro e w2 ⟨rfl, f2⟩
    rw [hpo]
    go_wp2_with fail
    go_ret
    exact ⟨rfl, ((Fr.refl (fun _ => False) w).drew).trans f2 (fun _ _ h => h)⟩

set_option maxRecDepth 100000 in
set_option maxHeartbeats 4000000 in
theorem masked_any {w : World} {x : Nat} {kv : Value} {K : List In} {s : DS} (h : DInv w x kv K s) : Calls Try.prog 25 #[.pointer (some ⟨x, 0, none⟩)] w fun e w' => e = .returned (.bool true) ∧ w' = w := by
  obtain ⟨ka, cap, e⟩ := h.kv.sl
  have c0 : w.cell? ⟨x, 0, none⟩ = some (.slice ka K.length cap) := by rw [h.mach.main.cell (by omega)]; exact congrArg _ e
  have c1 : w.cell? ⟨x, 1, none⟩ = some (.int .u64 s.chars) := h.mach.main.cell (by omega)
  have c2 : w.cell? ⟨x, 2, none⟩ = some (.int .u64 s.ends) := h.mach.main.cell (by omega)
  have c3 : w.cell? ⟨x, 3, none⟩ = some (.int .u64 s.hits) := h.mach.main.cell (by omega)
  have hm : K.length ≤ 64 := by
    rcases h.kv with ⟨_, e⟩ | ⟨_, _, hk⟩
    · simp [e]
    · exact hk.ok.max
  have He : Hid _ := e
  clear e
  go_enter Try.func25, Try.ntmps25
  go_wp2_with fail
  go_loopg [3, 4, 5, 6] K.length (fun g cv ev hv pv wr => ∃ (pc C E H : Nat), cv = .int .u64 C ∧ ev = .int .u64 E ∧ hv = .int .u64 H ∧ pv = .int .i64 pc ∧ pc + g = K.length ∧ MaskTo K pc C 0 ∧ MaskTo K pc E 5 ∧ MaskTo K pc H 6 ∧ wr = w)
  case atStart => exact ⟨0, 0, 0, 0, rfl, rfl, rfl, rfl, by omega, MaskTo.zero _ _, MaskTo.zero _ _, MaskTo.zero _ _, rfl⟩
  case round =>
    obtain ⟨pc, C, E, H, rfl, rfl, rfl, rfl, hg, hC, hE, hH, rfl⟩ := hrel
    have hg' : pc + gk = K.length := hg
    clear hg
    by_cases hlt : pc < K.length
    · have hp64 : pc < 64 := by omega
      obtain ⟨kb, cap', hk⟩ : ∃ kb cap, Kept wr x kv kb cap K := by
        rcases h.kv with ⟨_, e⟩ | h
        · rw [e] at hlt; simp at hlt
        · exact h
      have ea : ka = some ⟨kb, 0, none⟩ := by
        have := He.out
        rw [hk.v] at this
        cases this; rfl
      subst ea
      have i0 := hk.at_ pc hlt 0 (by omega)
      simp only [inCell, Nat.add_zero] at i0
      have hio : ∀ o, opAt K pc o ↔ K[pc].op = o := fun o => opAt_iff hlt o
      obtain ⟨I, hI⟩ : ∃ I, I = K[pc].op := ⟨_, rfl⟩
      rw [← hI] at i0 hio
      have Hio : Hid _ := hio
      clear hio hI
      by_cases o0 : I = 0
      · subst o0
        have a1 := or_bit C pc hC.1 hp64
        have nC := hC.yes hp64 ((Hio.out 0).2 rfl)
        have nE := hE.no (fun h => by have := (Hio.out 5).1 h; omega)
        have nH := hH.no (fun h => by have := (Hio.out 6).1 h; omega)
        obtain ⟨N, hN⟩ : ∃ N, N = C ||| bv pc := ⟨_, rfl⟩
        rw [← hN] at a1 nC
        clear hN
        go_wp2_with fail
        refine (bit_any pc hp64 _).mono ?_
        rintro e w3 ⟨rfl, rfl⟩
        go_wp2_with fail
        go_roundg (gk - 1)
        case measure => omega
        case rel => exact ⟨pc + 1, N, E, H, rfl, rfl, rfl, by simp, by omega, nC, nE, nH, rfl⟩
      by_cases o5 : I = 5
      · subst o5
        clear o0
        have a1 := or_bit E pc hE.1 hp64
        have nE := hE.yes hp64 ((Hio.out 5).2 rfl)
        have nC := hC.no (fun h => by have := (Hio.out 0).1 h; omega)
        have nH := hH.no (fun h => by have := (Hio.out 6).1 h; omega)
        obtain ⟨N, hN⟩ : ∃ N, N = E ||| bv pc := ⟨_, rfl⟩
        rw [← hN] at a1 nE
        clear hN
        go_wp2_with fail
        refine (bit_any pc hp64 _).mono ?_
        rintro e w3 ⟨rfl, rfl⟩
        go_wp2_with fail
        go_roundg (gk - 1)
        case measure => omega
        case rel => exact ⟨pc + 1, C, N, H, rfl, rfl, rfl, by simp, by omega, nC, nE, nH, rfl⟩
      by_cases o6 : I = 6
      · subst o6
        clear o0 o5
        have a1 := or_bit H pc hH.1 hp64
        have nH := hH.yes hp64 ((Hio.out 6).2 rfl)
        have nC := hC.no (fun h => by have := (Hio.out 0).1 h; omega)
        have nE := hE.no (fun h => by have := (Hio.out 5).1 h; omega)
        obtain ⟨N, hN⟩ : ∃ N, N = H ||| bv pc := ⟨_, rfl⟩
        rw [← hN] at a1 nH
        clear hN
        go_wp2_with fail
        refine (bit_any pc hp64 _).mono ?_
        rintro e w3 ⟨rfl, rfl⟩
        go_wp2_with fail
        go_roundg (gk - 1)
        case measure => omega
        case rel => exact ⟨pc + 1, C, E, N, rfl, rfl, rfl, by simp, by omega, nC, nE, nH, rfl⟩
      have t0 : (I == 0) = false := by simpa using o0
      have t5 : (I == 5) = false := by simpa using o5
      have t6 : (I == 6) = false := by simpa using o6
      have nC := hC.no (fun h => o0 ((Hio.out 0).1 h))
      have nE := hE.no (fun h => o5 ((Hio.out 5).1 h))
      have nH := hH.no (fun h => o6 ((Hio.out 6).1 h))
      clear o0 o5 o6
      go_wp2_with fail
      go_roundg (gk - 1)
      case measure => omega
      case rel => exact ⟨pc + 1, C, E, H, rfl, rfl, rfl, by simp, by omega, nC, nE, nH, rfl⟩
    · have hpe : pc = K.length := by omega
      subst hpe
      rw [mask_unique h.inv.mC hC.all] at c1
      rw [mask_unique h.inv.mE hE.all] at c2
      rw [mask_unique h.inv.mH hH.all] at c3
      go_wp2_with fail
      go_ret
      exact ⟨rfl, rfl⟩

set_option maxRecDepth 100000 in
set_option maxHeartbeats 8000000 in
theorem closed_any {w : World} {x : Nat} {kv : Value} {s : DS} {kb cap : Nat} {p : List In} (h : Mach w x kv s) (hk : Kept w x kv kb cap p) (S : Nat) (hS : Good p S) :
    Calls Try.prog 39 #[.pointer (some ⟨x, 0, none⟩), .int .u64 S] w fun e w' => e = .returned (.bool true) ∧ Fr (fun _ => False) w w' := by
  have hm := hk.ok.max
  have hxl := h.main.lt
  have c0 : w.cell? ⟨x, 0, none⟩ = some (.slice (some ⟨kb, 0, none⟩) p.length cap) := by rw [h.main.cell (by omega)]; exact congrArg _ hk.v
  have a0 : bits BinOp.and IntKind.u64 (S : Int) 1 = 1 := by
    have := and_yes hS.lt (show 0 < 64 by omega) hS.zero
    simpa [bv] using this
  go_enter Try.func39, Try.ntmps39
  go_wp2_with fail
  go_loopg [5] 64 (fun g pv wr => ∃ pc : Nat, pv = .int .i64 pc ∧ pc + g = 64 ∧ Fr (fun _ => False) w wr)
  case atStart => exact ⟨0, rfl, by omega, Fr.refl _ _⟩
  case round =>
    obtain ⟨pc, rfl, hg, hfr⟩ := hrel
    have hg' : pc + gk = 64 := hg
    have d0 : wr.cell? ⟨x, 0, none⟩ = some (.slice (some ⟨kb, 0, none⟩) p.length cap) := by rw [hfr.cell (p := ⟨x, 0, none⟩) hxl (by simp)]; exact c0
    clear hg
    by_cases hlt : pc < 64
    · go_wp2_with fail
      refine (bit_any pc hlt _).mono ?_
      rintro e w2 ⟨rfl, rfl⟩
      cases ht : S.testBit pc with
      | false =>
        have a1 := and_no hS.lt hlt ht
        clear ht
        go_wp2_with fail
        go_roundg (gk - 1)
        case measure => omega
        case rel => exact ⟨pc + 1, by simp, by omega, hfr⟩
      | true =>
        have a1 := and_yes hS.lt hlt ht
        have a2 : ((bv pc : Int) == 0) = false := by have := bv_pos pc; simp; omega
        have hpl := hS.inn pc ht
        have hcl := fun r hs => hS.cl pc r ht hs
        have hk2 := hk.frame hfr (fun h => h)
        have i0 := hk2.at_ pc hpl 0 (by omega)
        have i1 := hk2.at_ pc hpl 1 (by omega)
        have i2 := hk2.at_ pc hpl 2 (by omega)
        have i3 := hk2.at_ pc hpl 3 (by omega)
        have i4 := hk2.at_ pc hpl 4 (by omega)
        have i5 := hk2.at_ pc hpl 5 (by omega)
        have i6 := hk2.at_ pc hpl 6 (by omega)
        simp only [inCell, Nat.add_zero] at i0 i1 i2 i3 i4 i5 i6
        have hokq := hk.ok.all pc hpl
        have hep : ∀ r, eps p false false pc r ↔ _ := fun r => eps_of hpl
        obtain ⟨I, hI⟩ : ∃ I, I = p[pc] := ⟨_, rfl⟩
        rw [← hI] at i0 i1 i2 i3 i4 i5 i6 hokq
        have Hcl : Hid (∀ r : Nat, ((I.op = 1 ∧ ((r : Int) = I.x ∨ (r : Int) = I.y)) ∨ (I.op = 2 ∧ (r : Int) = I.x) ∨ (I.op = 3 ∧ r = pc + 1)) → S.testBit r = true) := fun r hr => hcl r ((hep r).2 (by
          rw [← hI]
          rcases hr with h | h | h
          · exact .inl h
          · exact .inr (.inl h)
          · exact .inr (.inr (.inl h))))
        have tl : decide ((p.length : Int) ≤ (pc : Int)) = false := by simp; omega
        have tl' : decide (p.length ≤ pc) = false := by simp; omega
        clear ht hcl hep hI
        have hcase : I.op = 1 ∨ I.op = 2 ∨ I.op = 3 ∨ I.op = 4 ∨ I.op = 5 ∨ I.op = 0 ∨ I.op = 6 := by unfold okIn at hokq; omega
        rcases hcase with o | o | o | o | o | o | o
        · have hx : 0 ≤ I.x ∧ I.x < p.length ∧ 0 ≤ I.y ∧ I.y < p.length := by unfold okIn at hokq; omega
          obtain ⟨a, ha⟩ := Int.eq_ofNat_of_zero_le hx.1
          obtain ⟨c, hc⟩ := Int.eq_ofNat_of_zero_le hx.2.2.1
          have ta := Hcl.out a (.inl ⟨o, .inl ha.symm⟩)
          have tc := Hcl.out c (.inl ⟨o, .inr hc.symm⟩)
          rw [o] at i0
          rw [ha] at i1
          rw [hc] at i2
          have ha64 : a < 64 := by omega
          have hc64 : c < 64 := by omega
          have b1 := and_yes hS.lt ha64 ta
          have b2 : ((bv a : Int) == 0) = false := by have := bv_pos a; simp; omega
          have b3 := and_yes hS.lt hc64 tc
          have b4 : ((bv c : Int) == 0) = false := by have := bv_pos c; simp; omega
          clear o ha hc hx hokq ta tc
          go_wp2_with fail
          refine (bit_any a ha64 _).mono ?_
          rintro e w3 ⟨rfl, rfl⟩
          go_wp2_with fail
          refine (bit_any c hc64 _).mono ?_
          rintro e w3 ⟨rfl, rfl⟩
          go_wp2_with fail
          go_roundg (gk - 1)
          case measure => omega
          case rel => exact ⟨pc + 1, by simp, by omega, hfr.alloc _⟩
        · have hx : 0 ≤ I.x ∧ I.x < p.length := by unfold okIn at hokq; omega
          obtain ⟨a, ha⟩ := Int.eq_ofNat_of_zero_le hx.1
          have ta := Hcl.out a (.inr (.inl ⟨o, ha.symm⟩))
          rw [o] at i0
          rw [ha] at i1
          have ha64 : a < 64 := by omega
          have b1 := and_yes hS.lt ha64 ta
          have b2 : ((bv a : Int) == 0) = false := by have := bv_pos a; simp; omega
          clear o ha hx hokq ta
          go_wp2_with fail
          refine (bit_any a ha64 _).mono ?_
          rintro e w3 ⟨rfl, rfl⟩
          go_wp2_with fail
          go_roundg (gk - 1)
          case measure => omega
          case rel => exact ⟨pc + 1, by simp, by omega, hfr.alloc _⟩
        · have hx : pc + 1 < 64 := by unfold okIn at hokq; omega
          have ta := Hcl.out (pc + 1) (.inr (.inr ⟨o, rfl⟩))
          rw [o] at i0
          have b1 := and_yes hS.lt hx ta
          have b2 : ((bv (pc + 1) : Int) == 0) = false := by have := bv_pos (pc + 1); simp; omega
          clear o hokq ta
          go_wp2_with fail
          refine (bit_any (pc + 1) hx _).mono ?_
          rintro e w3 ⟨rfl, rfl⟩
          go_wp2_with fail
          go_roundg (gk - 1)
          case measure => omega
          case rel => exact ⟨pc + 1, by simp, by omega, hfr.alloc _⟩
        all_goals
          rw [o] at i0
          clear o hokq
          go_wp2_with fail
          go_roundg (gk - 1)
          case measure => omega
          case rel => exact ⟨pc + 1, by simp, by omega, hfr.alloc _⟩
    · go_wp2_with fail
      go_ret
      exact ⟨rfl, hfr⟩
end Go.Proofs.Qxb6500282a
