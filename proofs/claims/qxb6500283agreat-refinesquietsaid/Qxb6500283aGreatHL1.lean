/- The law's comparisons. -/
import Derived.Test.Qxb6500283aGreatHF10
import Derived.Test.Qxb6500283aGreatEqArr
import Derived.BigQuiet
namespace Go.Proofs.Qxb6500283aGreat
open Go Go.RowKit

theorem eqCaps (c : Nat → Int) (w : World) : (Op.equalIn 10000 64 (cpV c) (cpV c)).run Tryz.prog w = .ok true w :=
  run_equalArr 9998 64 3 8 .i64 Tryz.underlying64 (by kernel_rfl) Tryz.underlying3 _ (fun i hi => ⟨c i, by
    rcases (show i = 0 ∨ i = 1 ∨ i = 2 ∨ i = 3 ∨ i = 4 ∨ i = 5 ∨ i = 6 ∨ i = 7 by omega) with rfl | rfl | rfl | rfl | rfl | rfl | rfl | rfl <;> rfl⟩) w
theorem eqg64 : Tryz.prog.eqGuardType Tryz.prog.depth 64 = false := by kernel_rfl
def fndV (er q : Int) (ok : Bool) (c : Nat → Int) : Value := .agg #[.int .i64 er, .int .i64 q, .bool ok, .int .i64 (c 0), .int .i64 (c 1), .int .i64 (c 2), .int .i64 (c 3), .int .i64 (c 4), .int .i64 (c 5), .int .i64 (c 6), .int .i64 (c 7)]
set_option maxRecDepth 100000 in
set_option maxHeartbeats 4000000 in
theorem sameFnd_any (er q : Int) (ok : Bool) (c : Nat → Int) (w : World) : Calls Tryz.prog 45 #[fndV er q ok c, fndV er q ok c] w fun v w' => v = .returned (.bool true) ∧ Fr (fun _ => False) w w' := by
  have e1 := eqCaps c
  have e2 := eqg64
  unfold cpV at e1
  unfold fndV
  have F := ((Fr.refl (fun _ => False) w).alloc (.cells #[.int .i64 er, .int .i64 q, .bool ok, .int .i64 (c 0), .int .i64 (c 1), .int .i64 (c 2), .int .i64 (c 3), .int .i64 (c 4), .int .i64 (c 5), .int .i64 (c 6), .int .i64 (c 7)] 66)).alloc (.cells #[.int .i64 er, .int .i64 q, .bool ok, .int .i64 (c 0), .int .i64 (c 1), .int .i64 (c 2), .int .i64 (c 3), .int .i64 (c 4), .int .i64 (c 5), .int .i64 (c 6), .int .i64 (c 7)] 66)
  go_enter Tryz.func45, Tryz.ntmps45
  go_wp2_with fail
  go_ret
  exact ⟨rfl, F⟩
set_option maxHeartbeats 1000000 in
theorem markF_any (p : Option Addr) (w : World) : Calls Tryz.prog 15 #[.agg #[.pointer p]] w fun v w' => v = .returned (.tuple #[]) ∧ Fr (fun _ => False) w w' := by
  go_enter Tryz.func15, Tryz.ntmps15
  go_wp2_with fail
  go_end0
  exact ⟨rfl, (Fr.refl _ _).alloc _⟩
set_option maxHeartbeats 1000000 in
theorem callsF_any (p : Option Addr) (w : World) : Calls Tryz.prog 58 #[.agg #[.pointer p]] w fun v w' => v = .returned (.tuple #[.int .i64 (-1), .int .i64 (-1)]) ∧ Fr (fun _ => False) w w' := by
  go_enter Tryz.func58, Tryz.ntmps58
  go_wp2_with fail
  exact bodyPost_ret (v := .tuple #[.int .i64 (-1), .int .i64 (-1)]) (by simp [results, Tryz.results58, go_sem]) rfl ⟨rfl, (Fr.refl _ _).alloc _⟩
set_option maxHeartbeats 1000000 in
theorem dfaFirst_any (p : Option Addr) (k er : Int) (w : World) : Calls Tryz.prog 46 #[.agg #[.pointer p], .int .i64 k, .int .i64 er] w fun v w' => v = .returned (.bool true) ∧ Fr (fun _ => False) w w' := by
  have f0 := (Fr.refl (fun _ => False) w).alloc (.cells #[.pointer p] 31)
  go_enter Tryz.func46, Tryz.ntmps46
  go_wp2_with fail
  refine (callsF_any p _).mono ?_
  rintro v w1 ⟨rfl, f1⟩
  go_wp2_with fail
  go_ret
  exact ⟨rfl, f0.trans f1 (fun _ _ h => h)⟩
/-- A list of matches in memory (any room). -/
def CAt (w : World) (v : Value) (cs : List (Nat → Int)) : Prop := (cs = [] ∧ ∃ a k, v = .slice a 0 k) ∨ ∃ b k m f, v = .slice (some ⟨b, 0, none⟩) cs.length k ∧ Blk w b m f ∧ cs.length * 8 ≤ m ∧ HoldsC f cs
/-- A list of strings in memory. -/
def HoldsS (f : Nat → Value) (xs : List ByteArray) : Prop := ∀ i (h : i < xs.length), f i = .string xs[i]
def XAt (w : World) (v : Value) (xs : List ByteArray) : Prop := (xs = [] ∧ ∃ a k, v = .slice a 0 k) ∨ ∃ b k m f, v = .slice (some ⟨b, 0, none⟩) xs.length k ∧ Blk w b m f ∧ xs.length ≤ m ∧ HoldsS f xs
def isBk (v : Value) (b : Nat) : Prop := ∃ n k, v = .slice (some ⟨b, 0, none⟩) n k
theorem CAt.frame {S : Nat → Prop} {w w' : World} {v : Value} {cs : List (Nat → Int)} (h : CAt w v cs) (k : Fr S w w') (hb : ∀ b, isBk v b → ¬ S b) : CAt w' v cs := by
  rcases h with h | ⟨b, q, m, f, rfl, hB, hm, hf⟩
  · exact .inl h
  · exact .inr ⟨b, q, m, f, rfl, hB.frame k (hb b ⟨_, _, rfl⟩), hm, hf⟩
theorem XAt.frame {S : Nat → Prop} {w w' : World} {v : Value} {xs : List ByteArray} (h : XAt w v xs) (k : Fr S w w') (hb : ∀ b, isBk v b → ¬ S b) : XAt w' v xs := by
  rcases h with h | ⟨b, q, m, f, rfl, hB, hm, hf⟩
  · exact .inl h
  · exact .inr ⟨b, q, m, f, rfl, hB.frame k (hb b ⟨_, _, rfl⟩), hm, hf⟩
set_option maxRecDepth 100000 in
set_option maxHeartbeats 4000000 in
theorem sameAll_any {w : World} {v1 v2 : Value} {xs : List (Nat → Int)} (h1 : CAt w v1 xs) (h2 : CAt w v2 xs) (hl : xs.length ≤ 1000) :
    Calls Tryz.prog 49 #[v1, v2] w fun v w' => v = .returned (.bool true) ∧ Fr (fun _ => False) w w' := by
  have hlb : (xs.length : Int) ≤ 1000 := by omega
  by_cases h0 : xs = []
  · have z1 : ∃ a k, v1 = .slice a 0 k := by
      rcases h1 with ⟨_, h⟩ | ⟨b, k, m, f, rfl, _⟩
      · exact h
      · subst h0; exact ⟨_, _, rfl⟩
    have z2 : ∃ a k, v2 = .slice a 0 k := by
      rcases h2 with ⟨_, h⟩ | ⟨b, k, m, f, rfl, _⟩
      · exact h
      · subst h0; exact ⟨_, _, rfl⟩
    obtain ⟨a1, k1, rfl⟩ := z1
    obtain ⟨a2, k2, rfl⟩ := z2
    go_enter Tryz.func49, Tryz.ntmps49
    go_wp2_with fail
    refine wp_loop_rounds 1 ?_
    rw [rounds_succ]
    go_wp2_with fail
    go_ret
    exact ⟨rfl, Fr.refl _ _⟩
  · rcases h1 with ⟨hh, _⟩ | ⟨b1, k1, m1, f1, rfl, hB1, hm1, hf1⟩
    · exact absurd hh h0
    rcases h2 with ⟨hh, _⟩ | ⟨b2, k2, m2, f2, rfl, hB2, hm2, hf2⟩
    · exact absurd hh h0
    clear h0
    go_enter Tryz.func49, Tryz.ntmps49
    go_wp2_with fail
    go_loopg [5] xs.length (fun g iv wr => ∃ i : Nat, iv = .int .i64 i ∧ i + g = xs.length ∧ Fr (fun _ => False) w wr)
    case atStart => exact ⟨0, rfl, by omega, Fr.refl _ _⟩
    case round =>
      obtain ⟨i, rfl, hg, hfr⟩ := hrel
      have hg' : i + gk = xs.length := hg
      clear hg
      have ib : (i : Int) ≤ 1000 := by omega
      by_cases hlt : i < xs.length
      · have hI : decide ((i : Int) < (xs.length : Nat)) = true := decide_eq_true (by omega)
        have hC1 := hB1.frame hfr (fun h => h)
        have hC2 := hB2.frame hfr (fun h => h)
        have a0 := hC1.cell (o := i * 8 + 0) (by omega)
        rw [hf1 i hlt 0 (by omega)] at a0
        have d0 := hC2.cell (o := i * 8 + 0) (by omega)
        rw [hf2 i hlt 0 (by omega)] at d0
        have a1 := hC1.cell (o := i * 8 + 1) (by omega)
        rw [hf1 i hlt 1 (by omega)] at a1
        have d1 := hC2.cell (o := i * 8 + 1) (by omega)
        rw [hf2 i hlt 1 (by omega)] at d1
        have a2 := hC1.cell (o := i * 8 + 2) (by omega)
        rw [hf1 i hlt 2 (by omega)] at a2
        have d2 := hC2.cell (o := i * 8 + 2) (by omega)
        rw [hf2 i hlt 2 (by omega)] at d2
        have a3 := hC1.cell (o := i * 8 + 3) (by omega)
        rw [hf1 i hlt 3 (by omega)] at a3
        have d3 := hC2.cell (o := i * 8 + 3) (by omega)
        rw [hf2 i hlt 3 (by omega)] at d3
        have a4 := hC1.cell (o := i * 8 + 4) (by omega)
        rw [hf1 i hlt 4 (by omega)] at a4
        have d4 := hC2.cell (o := i * 8 + 4) (by omega)
        rw [hf2 i hlt 4 (by omega)] at d4
        have a5 := hC1.cell (o := i * 8 + 5) (by omega)
        rw [hf1 i hlt 5 (by omega)] at a5
        have d5 := hC2.cell (o := i * 8 + 5) (by omega)
        rw [hf2 i hlt 5 (by omega)] at d5
        have a6 := hC1.cell (o := i * 8 + 6) (by omega)
        rw [hf1 i hlt 6 (by omega)] at a6
        have d6 := hC2.cell (o := i * 8 + 6) (by omega)
        rw [hf2 i hlt 6 (by omega)] at d6
        have a7 := hC1.cell (o := i * 8 + 7) (by omega)
        rw [hf1 i hlt 7 (by omega)] at a7
        have d7 := hC2.cell (o := i * 8 + 7) (by omega)
        rw [hf2 i hlt 7 (by omega)] at d7
        simp only [Nat.add_zero] at a0 d0
        have e1 := eqCaps xs[i]
        have e2 := eqg64
        unfold cpV at e1
        have l1 := hC1.lt
        have l2 := hC2.lt
        go_wp2_with fail
        go_quiet (fail)
        go_wp2_with fail
        go_roundg (gk - 1)
        case measure => omega
        case rel => exact ⟨i + 1, by simp, by omega, hfr.drewN _⟩
      · have hI : decide ((i : Int) < (xs.length : Nat)) = false := decide_eq_false (by omega)
        go_wp2_with fail
        go_ret
        exact ⟨rfl, hfr⟩
set_option maxRecDepth 100000 in
set_option maxHeartbeats 4000000 in
theorem sameCut_any {w : World} {v1 v2 : Value} {xs : List ByteArray} (h1 : XAt w v1 xs) (h2 : XAt w v2 xs) (hl : xs.length ≤ 1000) :
    Calls Tryz.prog 52 #[v1, v2] w fun v w' => v = .returned (.bool true) ∧ Fr (fun _ => False) w w' := by
  have hlb : (xs.length : Int) ≤ 1000 := by omega
  by_cases h0 : xs = []
  · have z1 : ∃ a k, v1 = .slice a 0 k := by
      rcases h1 with ⟨_, h⟩ | ⟨b, k, m, f, rfl, _⟩
      · exact h
      · subst h0; exact ⟨_, _, rfl⟩
    have z2 : ∃ a k, v2 = .slice a 0 k := by
      rcases h2 with ⟨_, h⟩ | ⟨b, k, m, f, rfl, _⟩
      · exact h
      · subst h0; exact ⟨_, _, rfl⟩
    obtain ⟨a1, k1, rfl⟩ := z1
    obtain ⟨a2, k2, rfl⟩ := z2
    go_enter Tryz.func52, Tryz.ntmps52
    go_wp2_with fail
    refine wp_loop_rounds 1 ?_
    rw [rounds_succ]
    go_wp2_with fail
    go_ret
    exact ⟨rfl, Fr.refl _ _⟩
  · rcases h1 with ⟨hh, _⟩ | ⟨b1, k1, m1, f1, rfl, hB1, hm1, hf1⟩
    · exact absurd hh h0
    rcases h2 with ⟨hh, _⟩ | ⟨b2, k2, m2, f2, rfl, hB2, hm2, hf2⟩
    · exact absurd hh h0
    clear h0
    go_enter Tryz.func52, Tryz.ntmps52
    go_wp2_with fail
    go_loopg [5] xs.length (fun g iv wr => ∃ i : Nat, iv = .int .i64 i ∧ i + g = xs.length ∧ Fr (fun _ => False) w wr)
    case atStart => exact ⟨0, rfl, by omega, Fr.refl _ _⟩
    case round =>
      obtain ⟨i, rfl, hg, hfr⟩ := hrel
      have hg' : i + gk = xs.length := hg
      clear hg
      have ib : (i : Int) ≤ 1000 := by omega
      by_cases hlt : i < xs.length
      · have hI : decide ((i : Int) < (xs.length : Nat)) = true := decide_eq_true (by omega)
        have hC1 := hB1.frame hfr (fun h => h)
        have hC2 := hB2.frame hfr (fun h => h)
        have a0 := hC1.cell (o := i) (by omega)
        rw [hf1 i hlt] at a0
        have d0 := hC2.cell (o := i) (by omega)
        rw [hf2 i hlt] at d0
        have l1 := hC1.lt
        have l2 := hC2.lt
        go_wp2_with fail
        refine wp_region_text (by kernel_rfl) (by kernel_rfl) ?_
        go_wp2_with fail
        refine ⟨by kernel_rfl, ?_⟩
        go_wp2_with fail
        go_roundg (gk - 1)
        case measure => omega
        case rel => exact ⟨i + 1, by simp, by omega, hfr.drew⟩
      · have hI : decide ((i : Int) < (xs.length : Nat)) = false := decide_eq_false (by omega)
        go_wp2_with fail
        go_ret
        exact ⟨rfl, hfr⟩
end Go.Proofs.Qxb6500283aGreat
