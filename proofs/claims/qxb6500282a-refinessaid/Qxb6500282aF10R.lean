import Derived.Test.Qxb6500282aE1
namespace Go.Proofs.Qxb6500282a
open Go Go.RowKit

set_option maxRecDepth 100000 in
set_option maxHeartbeats 8000000 in
theorem run_any {w : World} {x : Nat} {kv : Value} {s : DS} {kb cap : Nat} {p : List In} (h : Mach w x kv s) (hk : Kept w x kv kb cap p) (hi : CInv p s) (str : ByteArray) (hsz : str.size ≤ 256) (from_ : Nat) (hfrom : from_ ≤ str.size) (cell : Nat) (hcell : cell < s.used)
    (hkey : ∀ q, (s.keys cell).testBit q = true ↔ RD p str from_ 0 q) (h1 : s.built < 999999999999990000) (h2 : s.flushes < 999999999999990000) (h3 : s.worked < 999999999999990000) :
    Calls Try.prog 43 #[.pointer (some ⟨x, 0, none⟩), .int .i64 cell, .string str, .int .i64 from_] w fun e w' => ∃ (ans : Bool) (s1 s' : DS), e = .returned (.bool ans) ∧ (ans = true ↔ AnsP p str from_) ∧ RunP p s s1 (str.size - from_) ∧ RunE p str from_ s s1 ∧ (s' = s1 ∨ ∃ stk', s' = { s1 with stk := stk', worked := s1.worked + 1 }) ∧ Mach w' x kv s' ∧ Fr (mOwn x) w w' := by
  go_enter Try.func43, Try.ntmps43
  go_wp2_with fail
  go_loopg [1, 9] (str.size - from_) (fun g cv iv wr => ∃ (k c : Nat) (s1 : DS), cv = .int .i64 c ∧ iv = .int .i64 (from_ + k : Nat) ∧ k + g = str.size - from_ ∧ RunP p s s1 k ∧ Hid (RunX p str from_ s s1 k) ∧ c < s1.used ∧ (∀ q, (s1.keys c).testBit q = true ↔ RD p str from_ k q) ∧ (∀ j, j < k → ¬ HitK p str from_ j) ∧ Mach wr x kv s1 ∧ Fr (mOwn x) w wr)
  case atStart => exact ⟨0, cell, s, rfl, by simp, by omega, ⟨hi, by omega, Nat.le_refl _, by omega, Nat.le_refl _, by omega, by omega, Nat.le_refl _, by omega, rfl⟩, (RunX.start p str from_ s : RunX p str from_ s s 0), hcell, hkey, fun j hj => by omega, h, Fr.refl _ _⟩
  case round =>
    obtain ⟨k, c, s1, rfl, rfl, hg, hr, HX, hc, hq, hno, hM, hfr⟩ := hrel
    have hg' : k + gk = str.size - from_ := hg
    have hu := hr.inv.used
    have hc6 : c < 6 := by omega
    have ck := hM.key c hc6
    have d3 : wr.cell? ⟨x, 3, none⟩ = some (.int .u64 s1.hits) := hM.main.cell (by omega)
    have d2 : wr.cell? ⟨x, 2, none⟩ = some (.int .u64 s1.ends) := hM.main.cell (by omega)
    have hsd := hr.sized (by omega) h1 h2 h3
    have a1 := bits_and_u64_nat (s1.keys c) s1.hits (hsd.keys c hc6) hr.inv.mH.1
    have hit := hit_iff hq hr.inv.mH
    have hk1 := hk.frame hfr hk.far
    obtain ⟨HH, hHH⟩ : ∃ HH, HH = s1.keys c &&& s1.hits := ⟨_, rfl⟩
    rw [← hHH] at a1 hit
    have Hno : Hid _ := hno
    have Hhit : Hid _ := hit
    have Hq : Hid _ := hq
    clear hg hno hit hq hHH
    by_cases hlt : from_ + k < str.size
    · have tlt : (from_ : Int) + k < str.size := by omega
      by_cases hh : HH = 0
      · rw [hh] at a1
        have hbt := bt_at' str (from_ + k) hlt
        have Hbt : Hid _ := hbt
        have Hh : Hid (¬ HitK p str from_ k) := fun e => (Hhit.out.2 e) hh
        have t0 : (0 : Int) ≤ (from_ : Int) + k := by omega
        clear hh hbt
        go_wp2_with fail
        refine wp_region_text (by kernel_rfl) (by kernel_rfl) ?_
        go_wp2_with fail
        refine ⟨by kernel_rfl, ?_⟩
        go_wp2_with fail
        rw [← Hbt.out]
        refine (step_any hM.drew (hk1.frame ((Fr.refl (fun _ => False) wr).drew) (fun h => h)) hr.inv.mC hsd c _ hc6 (bt_lt' _ _)).mono ?_
        rintro e w3 ⟨to, s2, rfl, hst, hM3, f3⟩
        have sp := hst.p hk.ok hr.inv hc (bt_lt' _ _)
        go_wp2_with fail
        go_roundg (gk - 1)
        case measure => omega
        case rel =>
          refine ⟨k + 1, to, s2, rfl, by simp; omega, by omega, hr.step sp, HX.out.step hk.ok hr.inv hc Hq.out (by omega) (fun j hj => (Nat.lt_or_ge j k).elim (fun h4 => Hno.out j h4) (fun h4 => by rw [show j = k by omega]; exact Hh.out)) hst, sp.lt, sp.key.rd Hq.out, fun j hj => ?_, hM3, (hfr.drew).trans f3 (fun _ _ h => h)⟩
          rcases Nat.lt_or_ge j k with h4 | h4
          · exact Hno.out j h4
          · rw [show j = k by omega]; exact Hh.out
      · have t1 : ((HH : Int) != 0) = true := by simp; omega
        have t2 : (HH : Int) ≠ 0 := by omega
        have Hh : Hid _ := Hhit.out.1 hh
        clear hh
        go_wp2_with fail
        refine wp_region_text (by kernel_rfl) (by kernel_rfl) ?_
        go_wp2_with fail
        refine ⟨by kernel_rfl, ?_⟩
        go_wp2_with fail
        go_ret
        refine ⟨true, s1, s1, rfl, ⟨fun _ => .inl ⟨k, by omega, Hh.out⟩, fun _ => rfl⟩, ?_, HX.out.hit Hh.out, .inl rfl, hM.drew, hfr.drew⟩
        obtain ⟨r1, r2, r3, r4, r5, r6, r7, r8, r9, r10⟩ := hr
        exact ⟨r1, r2, r3, by omega, r5, r6, by omega, r8, by omega, r10⟩
    · have hke : k = str.size - from_ := by omega
      by_cases hh : HH = 0
      · rw [hh] at a1
        have Hh : Hid (¬ HitK p str from_ k) := fun e => (Hhit.out.2 e) hh
        have HnoK : Hid (∀ j, j ≤ str.size - from_ → ¬ HitK p str from_ j) := fun j hj => by
          rcases Nat.lt_or_ge j k with h4 | h4
          · exact Hno.out j h4
          · rw [show j = k by omega]; exact Hh.out
        have a2 := bits_and_u64_nat (s1.keys c) s1.ends (hsd.keys c hc6) hr.inv.mE.1
        obtain ⟨EE, hEE⟩ : ∃ EE, EE = s1.keys c &&& s1.ends := ⟨_, rfl⟩
        have hne : EE = 0 → ∀ q, RD p str from_ (str.size - from_) q → ¬ opAt p q 5 := fun e q h4 h5 => by
          rw [← hke] at h4
          exact (and_ne.2 ⟨q, (Hq.out q).2 h4, (hr.inv.mE.2 q).2 h5⟩ : s1.keys c &&& s1.ends ≠ 0) (by rw [← hEE, e])
        have Hne : Hid _ := hne
        rw [← hEE] at a2
        have Hr : Hid (RunP p s s1 (str.size - from_)) := by rw [← hke]; exact hr
        clear hh hEE hne
        by_cases he : EE = 0
        · rw [he] at a2
          have He : Hid _ := he
          clear he
          go_wp2_with fail
          refine wp_region_text (by kernel_rfl) (by kernel_rfl) ?_
          go_wp2_with fail
          refine ⟨by kernel_rfl, ?_⟩
          go_wp2_with fail
          refine wp_region_text (by kernel_rfl) (by kernel_rfl) ?_
          go_wp2_with fail
          refine ⟨by kernel_rfl, ?_⟩
          go_wp2_with fail
          go_ret
          refine ⟨false, s1, s1, rfl, ⟨(fun e => by cases e), fun e => ?_⟩, Hr.out, HX.out.done hke, .inl rfl, hM.drew.drew, hfr.drew.drew⟩
          exfalso
          rcases e with ⟨j, hj, e⟩ | e
          · exact HnoK.out j hj e
          · exact HnoK.out _ (Nat.le_refl _) (no_end hfrom (Hne.out He.out) e)
        · have t1 : ((EE : Int) == 0) = false := by simp; omega
          have hM2 := hM.drew.drew
          have f0 : Fr (fun _ => False) wr wr.drew.drew := ((Fr.refl (fun _ => False) wr).drew).drew
          have hk3 := hk1.frame f0 (fun h => h)
          clear he
          go_wp2_with fail
          refine wp_region_text (by kernel_rfl) (by kernel_rfl) ?_
          go_wp2_with fail
          refine ⟨by kernel_rfl, ?_⟩
          go_wp2_with fail
          refine wp_region_text (by kernel_rfl) (by kernel_rfl) ?_
          go_wp2_with fail
          refine ⟨by kernel_rfl, ?_⟩
          go_wp2_with fail
          refine (closure_any hM2 hk3 (s1.keys c) (hsd.keys c hc6) (by have := hsd.wk; omega) _ true).mono ?_
          rintro e w3 ⟨T, stk', rfl, hTl, hTq, hTi, h4, f4⟩
          have e3 : w3.cell? ⟨x, 3, none⟩ = some (.int .u64 s1.hits) := h4.main.cell (by omega)
          have a3 := bits_and_u64_nat T s1.hits hTl hr.inv.mH.1
          have hlast := last_iff (str := str) (from_ := from_) (by rw [← hke]; exact Hq.out) hTq hr.inv.mH
          obtain ⟨GG, hGG⟩ : ∃ GG, GG = T &&& s1.hits := ⟨_, rfl⟩
          rw [← hGG] at a3 hlast
          have Hlast : Hid _ := hlast
          have fr4 := (hfr.drew.drew).trans f4 (fun _ _ h => h)
          clear hGG hlast
          by_cases hg0 : GG = 0
          · rw [hg0] at a3
            have Hg : Hid _ := hg0
            clear hg0
            go_wp2_with fail
            go_ret
            refine ⟨false, s1, _, rfl, ⟨(fun e => by cases e), fun e => ?_⟩, Hr.out, HX.out.done hke, .inr ⟨stk', rfl⟩, h4, fr4⟩
            exfalso
            rcases e with ⟨j, hj, e⟩ | e
            · exact HnoK.out j hj e
            · exact Hlast.out.2 e Hg.out
          · have t3 : ((GG : Int) != 0) = true := by simp; omega
            have t4 : (GG : Int) ≠ 0 := by omega
            have Hg : Hid _ := hg0
            clear hg0
            go_wp2_with fail
            go_ret
            exact ⟨true, s1, _, rfl, ⟨fun _ => .inr (Hlast.out.1 Hg.out), fun _ => rfl⟩, Hr.out, HX.out.done hke, .inr ⟨stk', rfl⟩, h4, fr4⟩
      · have t1 : ((HH : Int) != 0) = true := by simp; omega
        have t2 : (HH : Int) ≠ 0 := by omega
        have Hh : Hid _ := Hhit.out.1 hh
        clear hh
        go_wp2_with fail
        refine wp_region_text (by kernel_rfl) (by kernel_rfl) ?_
        go_wp2_with fail
        refine ⟨by kernel_rfl, ?_⟩
        go_wp2_with fail
        go_ret
        refine ⟨true, s1, s1, rfl, ⟨fun _ => .inl ⟨k, by omega, Hh.out⟩, fun _ => rfl⟩, by rw [← hke]; exact hr, HX.out.done hke, .inl rfl, hM.drew, hfr.drew⟩
end Go.Proofs.Qxb6500282a
