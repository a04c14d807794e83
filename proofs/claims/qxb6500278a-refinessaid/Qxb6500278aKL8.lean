/- The law: the quiet walk. -/
import Derived.Test.Qxb6500278aKL7
namespace Go.Proofs.Qxb6500278a
open Go Go.RowKit

set_option maxRecDepth 100000 in
set_option maxHeartbeats 16000000 in
theorem walk_quiet {w : World} {a : Option Addr} {n cap : Nat} (hs : ScrAt w a n) :
    Calls Try.prog 6 #[.slice a n cap, .bool true] w fun e w' => (∃ k, e = .returned (.tuple #[.int .i64 (-1), .int .i64 k])) ∧ Fr (fun _ => False) w w' := by
  go_enter Try.func6, Try.ntmps6
  go_wp2_with fail
  refine (groundF _).mono ?_
  rintro v w1 ⟨⟨gv, rfl⟩, f1⟩
  go_wp2_with fail
  refine (newHF _).mono ?_
  rintro v w2 ⟨rfl, H2, f2⟩
  go_wp2_with fail
  refine (newMF _).mono ?_
  rintro v w3 ⟨rfl, V3, f3⟩
  have l2 := H2.lt
  have s1 := f1.size
  have s2 := f2.size
  have L3 : HLaw w3 w1.heap.size w2.heap.size hsNew ⟨[], []⟩ (fun c => c = w2.heap.size) 0 := ⟨H2.frame f3 (fun h => h), V3, new_rel, by omega, by rw [hs_turns]; omega⟩
  have F3 := (f1.trans f2 (fun _ _ h => h)).trans f3 (fun _ _ h => h)
  have hlo : w.heap.size ≤ w1.heap.size := s1
  have olo : ∀ c, c = w2.heap.size → w.heap.size ≤ c := fun c hc => by omega
  obtain ⟨h, hh⟩ : ∃ h, h = w1.heap.size := ⟨_, rfl⟩
  obtain ⟨m, hm⟩ : ∃ m, m = w2.heap.size := ⟨_, rfl⟩
  rw [← hh] at L3 hlo ⊢
  rw [← hm] at L3 olo ⊢
  clear hh hm l2 s1 s2 f1 f2 f3 H2 V3
  have W0 : Wk w.heap.size w3 h m 0 (.slice none 0 0) (.slice none 0 0) (.slice none 0 0) hsNew ⟨[], []⟩ (fun c => c = m) [] 0 (fun _ => .slice none 0 0) := ⟨L3, nilBk _ _ _ _, hlo, olo⟩
  clear L3 hlo olo
  go_wp2_with fail
  go_loopg [10, 11, 12, 13] n (fun g wv xv mv kv wr => ∃ k : Nat, kv = .int .i64 k ∧ k + g = n ∧ k ≤ 4398046511104 ∧ (∃ S M O p n f, Wk w.heap.size wr h m k wv xv mv S M O p n f) ∧ Fr (fun _ => False) w wr)
  case atStart => exact ⟨0, rfl, by omega, by omega, ⟨_, _, _, _, _, _, W0⟩, F3⟩
  case round =>
    obtain ⟨k, rfl, hkg, hk42, ⟨S, M, O, p, mn, mf, W⟩, hfr⟩ := hrel
    have hkg' : k + gk = n := hkg
    clear hkg W0 F3
    have Hk42 : Hid _ := hk42
    clear hk42
    have hkb : (k : Int) < 140737488355328 := by have := Hk42.out; omega
    by_cases hlt : k < n
    · by_cases hlt2 : (k : Int) < 4398046511104
      · rcases hs with h0 | ⟨b, off, rfl, hb, hcells⟩
        · exact absurd hlt (by omega)
        obtain ⟨kind, a', b', c', s, t, c0, c1, c2, c3, c4, c5⟩ := hcells k hlt
        rw [← hfr.cell (p := ⟨b, off + k * 6, none⟩) hb (by simp)] at c0
        rw [← hfr.cell (p := ⟨b, off + k * 6 + 1, none⟩) hb (by simp)] at c1
        rw [← hfr.cell (p := ⟨b, off + k * 6 + 2, none⟩) hb (by simp)] at c2
        rw [← hfr.cell (p := ⟨b, off + k * 6 + 3, none⟩) hb (by simp)] at c3
        rw [← hfr.cell (p := ⟨b, off + k * 6 + 4, none⟩) hb (by simp)] at c4
        rw [← hfr.cell (p := ⟨b, off + k * 6 + 5, none⟩) hb (by simp)] at c5
        clear hcells
        by_cases hk14 : kind = 14
        · subst hk14
          go_wp2_with fail
          have hk18 : k + 1 ≤ 1000000000000000000 := by have := Hk42.out; omega
          obtain ⟨LW, BW, hlo, olo⟩ := W
          obtain ⟨hl0, hO0⟩ := LW.lt
          have kA := (Fr.refl (fun _ => False) wr).alloc (.cells #[.int .i64 14, .int .i64 a', .int .i64 b', .int .i64 c', .string s, .string t] 39)
          have bx := box6 wr 14 a' b' c' s t
          have LA := LW.same kA
          have BA := BW.same kA
          have FA := hfr.trans kA (fun _ _ h => h)
          obtain ⟨wb, hwb⟩ : ∃ wb, wr.heap.size = wb := ⟨_, rfl⟩
          have bO : ¬ (wb = h ∨ O wb) := by
            rintro (e | e)
            · omega
            · have := hO0 wb e; omega
          rw [hwb] at bx ⊢
          obtain ⟨w6, hw6⟩ : ∃ w6, wr.alloc (.cells #[.int .i64 14, .int .i64 a', .int .i64 b', .int .i64 c', .string s, .string t] 39) = w6 := ⟨_, rfl⟩
          rw [hw6] at bx LA BA FA ⊢
          clear hw6 kA hwb LW BW hfr c0 c1 c2 c3 c4 c5 hl0 hO0
          obtain ⟨os, hI⟩ := LA.inv
          obtain ⟨dl0, dl1⟩ := hI.dlen
          obtain ⟨lh, lO⟩ := LA.lt
          have s6 := Nat.le_refl w6.heap.size
          refine (dumpF LA.hm hI).mono ?_
          rintro v w7 ⟨v1, rfl, D7, N7, _, f7⟩
          have L7 := LA.same f7
          have T := L7.mm
          obtain ⟨ov, rv, g, V⟩ := T
          go_wp2_with fail
          refine (dumpMF V L7.rel.mi L7.t24).mono ?_
          rintro v w8 ⟨v2, rfl, D8, N8, _, f8⟩
          clear V
          have L8 := L7.same f8
          rw [← L8.rel.dumps] at D8
          have D8' := D7.frame f8 (fun _ _ h => h)
          have B8 := (BA.same f7).same f8
          have F8 := (FA.trans f7 (fun _ _ h => h)).trans f8 (fun _ _ h => h)
          have s7 := f7.size
          have Q1 : ∀ c, isB v1 c ∨ isB v2 c → w6.heap.size ≤ c ∧ c < w8.heap.size := fun c hc => by
            rcases hc with hc | hc
            · exact ⟨N7 c hc, D8'.ki.bk hc⟩
            · exact ⟨by have := N8 c hc; omega, D8.ki.bk hc⟩
          have Q2 : ∀ c, isB u10 c ∨ isB u12 c ∨ (∃ j, j < mn ∧ isB (mf j) c) → c < w6.heap.size := fun c hc => by
            rcases hc with hc | hc | hc
            · exact BA.lt (.inl hc)
            · exact BA.hf.mn.lt (.inl hc)
            · exact BA.hf.mn.lt (.inr hc)
          clear LA BA FA bx bO f7 f8 D7 N7 N8 L7 s7
          go_wp2_with fail
          refine (tidyL D8' dl0).mono ?_
          rintro v w9 ⟨rfl, hw⟩
          subst w9
          go_wp2_with fail
          refine (sameList D8'.ki D8.ki dl1).mono ?_
          rintro v w9 ⟨rfl, f9⟩
          have B9 := B8.same f9
          go_wp2_with fail
          refine (keptF B9.wa B9.wm B9.le B9.hf.mn).mono ?_
          rintro v w12 ⟨rfl, f12⟩
          have B12 := B9.same f12
          have L12 := (L8.same f9).same f12
          have F12 := (F8.trans f9 (fun _ _ h => h)).trans f12 (fun _ _ h => h)
          have D12 := ((D8'.ki.frame f9 (fun _ _ h => h)).frame f12 (fun _ _ h => h))
          have E12 := ((D8.ki.frame f9 (fun _ _ h => h)).frame f12 (fun _ _ h => h))
          have s12 := Nat.le_trans f9.size f12.size
          clear B9 B8 L8 F8 D8 D8' f9 f12
          go_wp2_with fail
          refine (spoilF B12.wa B12.le).mono ?_
          rintro v w13 ⟨rfl, K13, f13⟩
          have M13 := B12.mn1 f13
          have T := keepF M13 K13 B12.le B12.ne
          go_wp2_with fail
          refine T.mono ?_
          rintro v w14 ⟨mv', mn', mf', rfl, R14⟩
          have KP := B12.keep L12 hlo f13 R14
          have F14 := F12.trans KP.fr (fun c hc hh => by
            rcases hh with hh | hh
            · have := (B12.far c (.inl hh)).2.2; omega
            · have := (B12.hf.far c (.inl hh)).2.2; omega)
          have nD : ∀ c, isB v1 c ∨ isB v2 c → ¬ (isB u10 c ∨ isB u12 c) := fun c hc hh => by
            have := Q1 c hc
            have := Q2 c (hh.elim .inl (fun h => .inr (.inl h)))
            omega
          have D14 := D12.frame KP.fr (fun c hc => nD c (.inl hc))
          have E14 := E12.frame KP.fr (fun c hc => nD c (.inr hc))
          have W14 : Wk w.heap.size w14 h m (k + 1) v1 v2 mv' S M O S.gh.dump mn' mf' := by
            refine ⟨KP.L.le (by omega), KP.hf.bk dl1 D14 E14 (fun c hc hh => ?_) (fun c hh j hj hc => ?_) (fun c hc => ?_), hlo, olo⟩
            · have := Q1 c (.inl hh)
              rcases KP.bk c hc with h1 | h1
              · omega
              · have := Q2 c (.inr (.inl h1)); omega
            · have := Q1 c (.inl hh)
              rcases R14.of j hj with e | ⟨i, hi, e⟩
              · rw [e] at hc; have := Q2 c (.inl hc); omega
              · rw [e] at hc; have := Q2 c (.inr (.inr ⟨i, hi, hc⟩)); omega
            · have := Q1 c hc
              exact ⟨by omega, fun hh => by have := lO c hh; omega, by omega⟩
          clear T M13 K13 R14 KP B12 L12 F12 f13 D12 E12 D14 E14 nD Q1 Q2 lh lO s6 s12
          go_wp2_with fail
          go_roundg (gk - 1)
          case measure => omega
          case rel => exact ⟨k + 1, by simp, by omega, by omega, ⟨_, _, _, _, _, _, W14⟩, F14⟩
        · have hkb14 : (kind == 14) = false := by simpa using hk14
          go_wp2_with fail
          have hk18 : k + 1 ≤ 1000000000000000000 := by have := Hk42.out; omega
          obtain ⟨LW, BW, hlo, olo⟩ := W
          obtain ⟨hl0, hO0⟩ := LW.lt
          have kA := (Fr.refl (fun _ => False) wr).alloc (.cells #[.int .i64 kind, .int .i64 a', .int .i64 b', .int .i64 c', .string s, .string t] 39)
          have bx := box6 wr kind a' b' c' s t
          have LA := LW.same kA
          have BA := BW.same kA
          have FA := hfr.trans kA (fun _ _ h => h)
          obtain ⟨wb, hwb⟩ : ∃ wb, wr.heap.size = wb := ⟨_, rfl⟩
          have bO : ¬ (wb = h ∨ O wb) := by
            rintro (e | e)
            · omega
            · have := hO0 wb e; omega
          rw [hwb] at bx ⊢
          obtain ⟨w6, hw6⟩ : ∃ w6, wr.alloc (.cells #[.int .i64 kind, .int .i64 a', .int .i64 b', .int .i64 c', .string s, .string t] 39) = w6 := ⟨_, rfl⟩
          rw [hw6] at bx LA BA FA ⊢
          clear hw6 kA hwb LW BW hfr c0 c1 c2 c3 c4 c5 hl0 hO0
          obtain ⟨d0, d1, d2, d3, d4, d5⟩ := bx.six
          have bl := bx.lt
          have P := playF LA (by omega) kind a' b' c' s t
          unfold opV at P
          refine P.mono ?_
          rintro v w8 ⟨rfl, S', M', O', L8, hO8, f8, _⟩
          have ol8 : ∀ c, O' c → w.heap.size ≤ c := fun c hc => by
            rcases hO8 c hc with h1 | h1
            · exact olo c h1
            · have := FA.size; omega
          have B8 := BA.step f8 hO8
          have F8 := FA.trans f8 (fun c hc hh => by
            rcases hh with hh | hh
            · omega
            · have := olo c hh; omega)
          clear P LA BA FA bx f8 d0 d1 d2 d3 d4 d5 bl hO8 bO
          go_wp2_with fail
          refine (keptF B8.wa B8.wm B8.le B8.hf.mn).mono ?_
          rintro v w9 ⟨rfl, f9⟩
          have W9 : Wk w.heap.size w9 h m (k + 1) u10 u11 u12 S' M' O' p mn mf := ⟨L8.same f9, B8.same f9, hlo, ol8⟩
          have F9 := F8.trans f9 (fun _ _ h => h)
          clear L8 B8 F8 f9
          go_wp2_with fail
          go_roundg (gk - 1)
          case measure => omega
          case rel => exact ⟨k + 1, by simp, by omega, by omega, ⟨_, _, _, _, _, _, W9⟩, F9⟩
      · have hk3 : (4398046511104 : Int) ≤ k := Int.not_lt.1 hlt2
        have hn3 : (4398046511104 : Int) ≤ n := Int.le_trans hk3 (by omega)
        have Hlt : Hid _ := hlt
        have Hkg : Hid _ := hkg'
        have hlt' : (k : Int) < n := by omega
        have q1 : decide ((k : Int) < 4398046511104) = false := decide_eq_false (Int.not_lt.2 hk3)
        have q2 : decide ((n : Int) < 4398046511104) = false := decide_eq_false (Int.not_lt.2 hn3)
        clear hlt2 hlt hkg' hk3 hn3
        go_wp2_with fail
        all_goals exact bodyPost_ret (v := .tuple #[.int .i64 (-1), .int .i64 4398046511104]) (by simp [results, Try.results6, go_sem]) rfl ⟨⟨_, rfl⟩, hfr⟩
    · have hkn : k = n := by omega
      by_cases hn2 : (n : Int) < 4398046511104
      · go_wp2_with fail
        exact bodyPost_ret (v := .tuple #[.int .i64 (-1), .int .i64 n]) (by simp [results, Try.results6, go_sem]) rfl ⟨⟨_, rfl⟩, hfr⟩
      · go_wp2_with fail
        exact bodyPost_ret (v := .tuple #[.int .i64 (-1), .int .i64 4398046511104]) (by simp [results, Try.results6, go_sem]) rfl ⟨⟨_, rfl⟩, hfr⟩
end Go.Proofs.Qxb6500278a
