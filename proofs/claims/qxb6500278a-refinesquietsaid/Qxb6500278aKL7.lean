/- The law: the loud walk. -/
import Derived.Test.Qxb6500278aKL6
namespace Go.Proofs.Qxb6500278a
open Go Go.RowKit

/-- The script lies in memory. -/
def ScrAt (w : World) (a : Option Addr) (n : Nat) : Prop := n = 0 ∨ ∃ b off, a = some ⟨b, off, none⟩ ∧ b < w.heap.size ∧ ∀ i, i < n → ∃ kind A B C S T,
  w.cell? ⟨b, off + i * 6, none⟩ = some (.int .i64 kind) ∧ w.cell? ⟨b, off + i * 6 + 1, none⟩ = some (.int .i64 A) ∧ w.cell? ⟨b, off + i * 6 + 2, none⟩ = some (.int .i64 B) ∧
  w.cell? ⟨b, off + i * 6 + 3, none⟩ = some (.int .i64 C) ∧ w.cell? ⟨b, off + i * 6 + 4, none⟩ = some (.string S) ∧ w.cell? ⟨b, off + i * 6 + 5, none⟩ = some (.string T)
def opC (kind a b c : Int) (s t : ByteArray) (o : Nat) : Value := match o with | 0 => .int .i64 kind | 1 => .int .i64 a | 2 => .int .i64 b | 3 => .int .i64 c | 4 => .string s | _ => .string t
structure Wk (lo : Nat) (w : World) (h m : Nat) (N : Nat) (wv xv mv : Value) (S : HS) (M : MS) (O : Nat → Prop) (p : List Int) (n : Nat) (f : Nat → Value) : Prop where
  L : HLaw w h m S M O N
  B : Bk lo w h O wv xv mv p n f
  hlo : lo ≤ h
  olo : ∀ c, O c → lo ≤ c
theorem box6 (w : World) (kind a b c : Int) (s t : ByteArray) : Blk (w.alloc (.cells #[.int .i64 kind, .int .i64 a, .int .i64 b, .int .i64 c, .string s, .string t] 39)) w.heap.size 6 (opC kind a b c s t) := Blk.new w _ _ _ fun o ho => by
  have ho : o < 6 := by simpa using ho
  obtain rfl | rfl | rfl | rfl | rfl | rfl : o = 0 ∨ o = 1 ∨ o = 2 ∨ o = 3 ∨ o = 4 ∨ o = 5 := by omega
  all_goals rfl
theorem Blk.six {w : World} {x : Nat} {kind a b c : Int} {s t : ByteArray} (h : Blk w x 6 (opC kind a b c s t)) : w.cell? ⟨x, 0, none⟩ = some (.int .i64 kind) ∧ w.cell? ⟨x, 1, none⟩ = some (.int .i64 a) ∧ w.cell? ⟨x, 2, none⟩ = some (.int .i64 b) ∧ w.cell? ⟨x, 3, none⟩ = some (.int .i64 c) ∧ w.cell? ⟨x, 4, none⟩ = some (.string s) ∧ w.cell? ⟨x, 5, none⟩ = some (.string t) :=
  ⟨h.cell (by omega), h.cell (by omega), h.cell (by omega), h.cell (by omega), h.cell (by omega), h.cell (by omega)⟩
theorem hs_turns : hsNew.turns = 0 := rfl
theorem hs_free : (hsNew.base : Int) + 48 - hsNew.free = 48 := by simp [hsNew, hs0]
set_option maxRecDepth 100000 in
set_option maxHeartbeats 16000000 in
theorem walk_loud {w : World} {a : Option Addr} {n cap : Nat} (hs : ScrAt w a n) :
    Calls Try.prog 6 #[.slice a n cap, .bool false] w fun e w' => (∃ k, e = .returned (.tuple #[.int .i64 (-1), .int .i64 k])) ∧ Fr (fun _ => False) w w' := by
  go_enter Try.func6, Try.ntmps6
  go_wp2_with fail
  refine (groundF _).mono ?_
  rintro v w1 ⟨⟨gv, rfl⟩, f1⟩
  go_wp2_with fail
  refine (newHF _).mono ?_
  rintro v w2 ⟨rfl, H2, f2⟩
  go_wp2_with fail
  refine (newMF _).mono ?_
  rintro v w3 ⟨rfl, V3, f3⟩
  have l2 := H2.lt
  have s1 := f1.size
  have s2 := f2.size
  have L3 : HLaw w3 w1.heap.size w2.heap.size hsNew ⟨[], []⟩ (fun c => c = w2.heap.size) 0 := ⟨H2.frame f3 (fun h => h), V3, new_rel, by omega, by rw [hs_turns]; omega⟩
  have F3 := (f1.trans f2 (fun _ _ h => h)).trans f3 (fun _ _ h => h)
  have hlo : w.heap.size ≤ w1.heap.size := s1
  have olo : ∀ c, c = w2.heap.size → w.heap.size ≤ c := fun c hc => by omega
  obtain ⟨h, hh⟩ : ∃ h, h = w1.heap.size := ⟨_, rfl⟩
  obtain ⟨m, hm⟩ : ∃ m, m = w2.heap.size := ⟨_, rfl⟩
  rw [← hh] at L3 hlo ⊢
  rw [← hm] at L3 olo ⊢
  clear hh hm l2 s1 s2 f1 f2 f3 H2 V3
  go_wp2_with fail
  refine (alike L3).mono ?_
  rintro v w4 ⟨rfl, f4⟩
  have L4 := L3.same f4
  have F4 := F3.trans f4 (fun _ _ h => h)
  clear L3 F3 f4
  go_wp2_with fail
  refine (turnsF L4.hm).mono ?_
  rintro v w5 ⟨rfl, hw⟩
  subst w5
  rw [hs_turns]
  go_wp2_with fail
  refine (freeF L4.hm (by simp [hsNew, hs0]) (by simp [hsNew, hs0])).mono ?_
  rintro v w5 ⟨rfl, _, f5⟩
  rw [hs_free]
  have L5 := L4.same f5
  have F5 := F4.trans f5 (fun _ _ h => h)
  clear L4 F4 f5
  have W0 : Wk w.heap.size w5 h m 0 (.slice none 0 0) (.slice none 0 0) (.slice none 0 0) hsNew ⟨[], []⟩ (fun c => c = m) [] 0 (fun _ => .slice none 0 0) := ⟨L5, nilBk _ _ _ _, hlo, olo⟩
  clear L5 hlo olo
  go_wp2_with fail
  go_loopg [10, 11, 12, 13] n (fun g wv xv mv kv wr => ∃ k : Nat, kv = .int .i64 k ∧ k + g = n ∧ k ≤ 4398046511104 ∧ (∃ S M O p n f, Wk w.heap.size wr h m k wv xv mv S M O p n f) ∧ Fr (fun _ => False) w wr)
  case atStart => exact ⟨0, rfl, by omega, by omega, ⟨_, _, _, _, _, _, W0⟩, F5⟩
  case round =>
    obtain ⟨k, rfl, hkg, hk42, ⟨S, M, O, p, mn, mf, W⟩, hfr⟩ := hrel
    have hkg' : k + gk = n := hkg
    clear hkg W0 F5
    have Hk42 : Hid _ := hk42
    clear hk42
    have hkb : (k : Int) < 140737488355328 := by have := Hk42.out; omega
    by_cases hlt : k < n
    · by_cases hlt2 : (k : Int) < 4398046511104
      · rcases hs with h0 | ⟨b, off, rfl, hb, hcells⟩
        · exact absurd hlt (by omega)
        obtain ⟨kind, a', b', c', s, t, c0, c1, c2, c3, c4, c5⟩ := hcells k hlt
        rw [← hfr.cell (p := ⟨b, off + k * 6, none⟩) hb (by simp)] at c0
        rw [← hfr.cell (p := ⟨b, off + k * 6 + 1, none⟩) hb (by simp)] at c1
        rw [← hfr.cell (p := ⟨b, off + k * 6 + 2, none⟩) hb (by simp)] at c2
        rw [← hfr.cell (p := ⟨b, off + k * 6 + 3, none⟩) hb (by simp)] at c3
        rw [← hfr.cell (p := ⟨b, off + k * 6 + 4, none⟩) hb (by simp)] at c4
        rw [← hfr.cell (p := ⟨b, off + k * 6 + 5, none⟩) hb (by simp)] at c5
        clear hcells
        go_wp2_with fail
        have hk18 : k + 1 ≤ 1000000000000000000 := by have := Hk42.out; omega
        obtain ⟨LW, BW, hlo, olo⟩ := W
        obtain ⟨hl0, hO0⟩ := LW.lt
        have kA := (Fr.refl (fun _ => False) wr).alloc (.cells #[.int .i64 kind, .int .i64 a', .int .i64 b', .int .i64 c', .string s, .string t] 39)
        have bx := box6 wr kind a' b' c' s t
        have LA := LW.same kA
        have BA := BW.same kA
        have FA := hfr.trans kA (fun _ _ h => h)
        obtain ⟨wb, hwb⟩ : ∃ wb, wr.heap.size = wb := ⟨_, rfl⟩
        have bO : ¬ (wb = h ∨ O wb) := by
          rintro (e | e)
          · omega
          · have := hO0 wb e; omega
        rw [hwb] at bx ⊢
        obtain ⟨w6, hw6⟩ : ∃ w6, wr.alloc (.cells #[.int .i64 kind, .int .i64 a', .int .i64 b', .int .i64 c', .string s, .string t] 39) = w6 := ⟨_, rfl⟩
        rw [hw6] at bx LA BA FA ⊢
        clear hw6 kA hwb LW BW hfr c0 c1 c2 c3 c4 c5 hl0 hO0
        obtain ⟨os, hI⟩ := LA.inv
        obtain ⟨q1, q2, _⟩ := hI.le96
        refine (turnsF LA.hm).mono ?_
        rintro v w7 ⟨rfl, hw⟩
        subst w7
        go_wp2_with fail
        refine (freeF LA.hm q2 q1).mono ?_
        rintro v w7 ⟨rfl, _, f7⟩
        have L7 := LA.same f7
        have B7 := BA.same f7
        have F7 := FA.trans f7 (fun _ _ h => h)
        have bx7 := bx.frame f7 (fun h => h)
        clear LA BA FA bx f7
        obtain ⟨d0, d1, d2, d3, d4, d5⟩ := bx7.six
        have bl := bx7.lt
        go_wp2_with fail
        have P := playF L7 (by omega) kind a' b' c' s t
        unfold opV at P
        refine P.mono ?_
        rintro v w8 ⟨rfl, S', M', O', L8, hO8, f8, r8⟩
        have ol8 : ∀ c, O' c → w.heap.size ≤ c := fun c hc => by
          rcases hO8 c hc with h1 | h1
          · exact olo c h1
          · have := F7.size; omega
        have B8 := B7.step f8 hO8
        have F8 := F7.trans f8 (fun c hc hh => by
          rcases hh with hh | hh
          · omega
          · have := olo c hh; omega)
        have bx8 := bx7.frame f8 bO
        have htn := L7.tn
        clear P L7 B7 F7 bx7 f8 d0 d1 d2 d3 d4 d5 bl hO8 bO
        go_wp2_with fail
        refine (keptF B8.wa B8.wm B8.le B8.hf.mn).mono ?_
        rintro v w9 ⟨rfl, f9⟩
        have L9 := L8.same f9
        have B9 := B8.same f9
        have F9 := F8.trans f9 (fun _ _ h => h)
        have bx9 := bx8.frame f9 (fun h => h)
        clear L8 B8 F8 bx8 f9
        obtain ⟨os', hI'⟩ := L9.inv
        obtain ⟨q1', q2', _⟩ := hI'.le96
        go_wp2_with fail
        refine (turnsF L9.hm).mono ?_
        rintro v w10 ⟨rfl, hw⟩
        subst w10
        go_wp2_with fail
        refine (freeF L9.hm q2' q1').mono ?_
        rintro v w10 ⟨rfl, _, f10⟩
        have L10 := L9.same f10
        have B10 := B9.same f10
        have F10 := F9.trans f10 (fun _ _ h => h)
        have bx10 := bx9.frame f10 (fun h => h)
        clear L9 B9 F9 bx9 f10
        obtain ⟨d0, _⟩ := bx10.six
        have bl := bx10.lt
        have R := roomW L10 r8 hk18 (by omega)
        unfold freeN at R
        go_wp2_with fail
        refine R.mono ?_
        rintro v w11 ⟨rfl, f11⟩
        have L11 := L10.same f11
        have B11 := B10.same f11
        have F11 := F10.trans f11 (fun _ _ h => h)
        clear R L10 B10 F10 bx10 f11 d0 bl r8
        go_wp2_with fail
        refine (alike L11).mono ?_
        rintro v w12 ⟨rfl, f12⟩
        have L12 := L11.same f12
        have B12 := B11.same f12
        have F12 := F11.trans f12 (fun _ _ h => h)
        clear L11 B11 F11 f12
        go_wp2_with fail
        refine (spoilF B12.wa B12.le).mono ?_
        rintro v w13 ⟨rfl, K13, f13⟩
        have M13 := B12.mn1 f13
        have T := keepF M13 K13 B12.le B12.ne
        go_wp2_with fail
        refine T.mono ?_
        rintro v w14 ⟨mv', mn', mf', rfl, R14⟩
        have KP := B12.keep L12 hlo f13 R14
        have F14 := F12.trans KP.fr (fun c hc hh => by
          rcases hh with hh | hh
          · have := (B12.far c (.inl hh)).2.2; omega
          · have := (B12.hf.far c (.inl hh)).2.2; omega)
        have L14 := KP.L
        have H14 := KP.hf
        clear T M13 K13 R14 KP B12 L12 F12 f13
        go_wp2_with fail
        refine (dumpF L14.hm hI').mono ?_
        rintro v w15 ⟨v1, rfl, D15, N15, _, f15⟩
        have L15 := L14.same f15
        have T := L15.mm
        obtain ⟨ov, rv, g, V⟩ := T
        go_wp2_with fail
        refine (dumpMF V L15.rel.mi L15.t24).mono ?_
        rintro v w16 ⟨v2, rfl, D16, N16, _, f16⟩
        clear V
        have L16 := L15.same f16
        rw [← L16.rel.dumps] at D16
        have B16 : Bk w.heap.size w16 h O' v1 v2 mv' S'.gh.dump mn' mf' := by
          obtain ⟨lh, lO⟩ := L14.lt
          have s15 := f15.size
          have fe := f15.trans f16 (fun _ _ h => h)
          refine (H14.frame fe (fun _ _ h => h.elim) (fun _ h => .inl h)).bk hI'.dlen.2 (D15.frame f16 (fun _ _ h => h)).ki D16.ki (fun c hc hh => ?_) (fun c hh j hj hc => ?_) (fun c hc => ?_)
          · have := H14.mn.lt (.inl hc); have := N15 c hh; omega
          · have := H14.mn.lt (.inr ⟨j, hj, hc⟩); have := N15 c hh; omega
          · have : w14.heap.size ≤ c := by
              rcases hc with hc | hc
              · exact N15 c hc
              · have := N16 c hc; omega
            exact ⟨by omega, fun hh => by have := lO c hh; omega, by omega⟩
        have F16 := (F14.trans f15 (fun _ _ h => h)).trans f16 (fun _ _ h => h)
        clear L14 H14 F14 L15 D15 D16 N15 N16 f15 f16
        go_wp2_with fail
        refine (turnsF L16.hm).mono ?_
        rintro v w17 ⟨rfl, hw⟩
        subst w17
        go_wp2_with fail
        refine (freeF L16.hm q2' q1').mono ?_
        rintro v w17 ⟨rfl, _, f17⟩
        have W17 : Wk w.heap.size w17 h m (k + 1) v1 v2 mv' S' M' O' S'.gh.dump mn' mf' := ⟨L16.same f17, B16.same f17, hlo, ol8⟩
        have F17 := F16.trans f17 (fun _ _ h => h)
        clear L16 B16 F16 f17
        generalize (S'.base : Int) + 48 - S'.free = fN
        generalize (S'.turns : Int) = tN
        go_wp2_with fail
        go_roundg (gk - 1)
        case measure => omega
        case rel => exact ⟨k + 1, by simp, by omega, by omega, ⟨_, _, _, _, _, _, W17⟩, F17⟩
      · have hk3 : (4398046511104 : Int) ≤ k := Int.not_lt.1 hlt2
        have hn3 : (4398046511104 : Int) ≤ n := Int.le_trans hk3 (by omega)
        have Hlt : Hid _ := hlt
        have Hkg : Hid _ := hkg'
        have hlt' : (k : Int) < n := by omega
        have q1 : decide ((k : Int) < 4398046511104) = false := decide_eq_false (Int.not_lt.2 hk3)
        have q2 : decide ((n : Int) < 4398046511104) = false := decide_eq_false (Int.not_lt.2 hn3)
        clear hlt2 hlt hkg' hk3 hn3
        go_wp2_with fail
        all_goals exact bodyPost_ret (v := .tuple #[.int .i64 (-1), .int .i64 4398046511104]) (by simp [results, Try.results6, go_sem]) rfl ⟨⟨_, rfl⟩, hfr⟩
    · have hkn : k = n := by omega
      by_cases hn2 : (n : Int) < 4398046511104
      · go_wp2_with fail
        exact bodyPost_ret (v := .tuple #[.int .i64 (-1), .int .i64 n]) (by simp [results, Try.results6, go_sem]) rfl ⟨⟨_, rfl⟩, hfr⟩
      · go_wp2_with fail
        exact bodyPost_ret (v := .tuple #[.int .i64 (-1), .int .i64 4398046511104]) (by simp [results, Try.results6, go_sem]) rfl ⟨⟨_, rfl⟩, hfr⟩
end Go.Proofs.Qxb6500278a
