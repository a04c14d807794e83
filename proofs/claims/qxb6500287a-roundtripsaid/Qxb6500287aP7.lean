/- The round trip's walk. -/
import Derived.Test.Qxb6500287aP6
import Derived.Test.Qxb6500287aL6
namespace Go.Proofs.Qxb6500287a
open Go Go.RowKit

set_option maxRecDepth 100000 in
set_option maxHeartbeats 8000000 in
theorem tripUpTo_any {w : World} {a : Option Addr} {n cap : Nat} (hs : ScrAt w a n) :
    Calls Try.prog 8 #[.slice a n cap] w fun e w' => e = .returned (.int .i64 (-1)) ∧ Fr (fun _ => False) w w' := by
  go_enter Try.func8, Try.ntmps8
  go_wp2_with fail
  refine (newR_any _).mono ?_
  rintro e w2 ⟨rfl, hrep, f2⟩
  go_wp2_with fail
  refine (newM_any _).mono ?_
  rintro e w3 ⟨rfl, hmod, f3⟩
  have fw3 : Fr (fun _ => False) w w3 := f2.trans f3 (fun _ _ h => h)
  have hr3 := hrep.frame f3 (fun h => h)
  have hxm : w.heap.size ≠ w2.heap.size := by have := hrep.lt; omega
  have hxl : w.heap.size ≤ w2.heap.size := f2.size
  go_wp2_with fail
  go_loopg [6, 5] n (fun g kv rv wr => ∃ (k c : Nat) (reg : ByteArray), kv = .int .i64 k ∧ rv = .string reg ∧ k + g = n ∧ k ≤ 4398046511104 ∧ c ≤ k ∧ reg.size ≤ 129 ∧ RAny wr w.heap.size ⟨#[]⟩ ∧ Blk wr w2.heap.size 1 (fun _ => .int .i64 (c : Nat)) ∧ Fr (fun _ => False) w wr)
  case atStart => exact ⟨0, 0, ⟨#[]⟩, rfl, rfl, by omega, by omega, by omega, by show (0 : Nat) ≤ 129; omega, hr3, hmod, fw3⟩
  case round =>
    obtain ⟨k, c, reg, rfl, rfl, hkg, hk42, hck, hreg, hR, hm, hfr⟩ := hrel
    have hkg' : k + gk = n := hkg
    clear hkg
    have Hk42 : Hid _ := hk42
    clear hk42
    have Hck : Hid _ := hck
    clear hck
    have hkb : (k : Int) < 140737488355328 := by have := Hk42.out; omega
    by_cases hlt : k < n
    · by_cases hlt2 : (k : Int) < 4398046511104
      · rcases hs with h0 | ⟨b, off, rfl, hb, hcells⟩
        · exact absurd hlt (by omega)
        obtain ⟨kind, A, B, C, S, T, c0, c1, c2, c3, c4, c5⟩ := hcells k hlt
        rw [← hfr.cell (p := ⟨b, off + k * 6, none⟩) hb (by simp)] at c0
        rw [← hfr.cell (p := ⟨b, off + k * 6 + 1, none⟩) hb (by simp)] at c1
        rw [← hfr.cell (p := ⟨b, off + k * 6 + 2, none⟩) hb (by simp)] at c2
        rw [← hfr.cell (p := ⟨b, off + k * 6 + 3, none⟩) hb (by simp)] at c3
        rw [← hfr.cell (p := ⟨b, off + k * 6 + 4, none⟩) hb (by simp)] at c4
        rw [← hfr.cell (p := ⟨b, off + k * 6 + 5, none⟩) hb (by simp)] at c5
        clear hcells
        by_cases h1 : kind = 1
        · subst h1
          have f1 := (Fr.refl (fun _ => False) wr).alloc (.cells #[.int .i64 1, .int .i64 A, .int .i64 B, .int .i64 C, .string S, .string T] 42)
          go_wp2_with fail
          refine (lengthen_any reg S hreg _).mono ?_
          rintro e w6 ⟨⟨t, rfl, ht⟩, rfl⟩
          go_wp2_with fail
          go_roundg (gk - 1)
          case measure => omega
          case rel => exact ⟨k + 1, c, t, by simp, rfl, by omega, by omega, by have := Hck.out; omega, ht, hR.frame f1 (fun h => h), hm.frame f1 (fun h => h), hfr.trans f1 (fun _ _ h => h)⟩
        by_cases h3 : kind = 3
        · subst h3
          have f1 := (Fr.refl (fun _ => False) wr).alloc (.cells #[.int .i64 3, .int .i64 A, .int .i64 B, .int .i64 C, .string S, .string T] 42)
          have hR1 := hR.frame f1 (fun h => h)
          have hm1 := hm.frame f1 (fun h => h)
          go_wp2_with fail
          refine (lengthen_any reg S hreg _).mono ?_
          rintro e w6 ⟨⟨t, rfl, ht⟩, rfl⟩
          go_wp2_with fail
          refine (back_any hR1 hm1 hxm (by have := Hck.out; have := Hk42.out; omega) t).mono ?_
          rintro e w7 ⟨rfl, hR7, hm7, f7⟩
          go_wp2_with fail
          go_roundg (gk - 1)
          case measure => omega
          case rel => exact ⟨k + 1, c + 1, reg, by simp, rfl, by omega, by omega, by have := Hck.out; omega, hreg, hR7, hm7, (hfr.trans f1 (fun _ _ h => h)).trans f7 (fun b hb h => by omega)⟩
        by_cases h9 : kind = 9
        · subst h9
          have f1 := (Fr.refl (fun _ => False) wr).alloc (.cells #[.int .i64 9, .int .i64 A, .int .i64 B, .int .i64 C, .string S, .string T] 42)
          go_wp2_with fail
          go_roundg (gk - 1)
          case measure => omega
          case rel => exact ⟨k + 1, c, ⟨#[]⟩, by simp, rfl, by omega, by omega, by have := Hck.out; omega, by show (0 : Nat) ≤ 129; omega, hR.frame f1 (fun h => h), hm.frame f1 (fun h => h), hfr.trans f1 (fun _ _ h => h)⟩
        · have f1 := (Fr.refl (fun _ => False) wr).alloc (.cells #[.int .i64 kind, .int .i64 A, .int .i64 B, .int .i64 C, .string S, .string T] 42)
          have t1 : (kind == 1) = false := by simpa using h1
          have t3 : (kind == 3) = false := by simpa using h3
          have t9 : (kind == 9) = false := by simpa using h9
          clear h1 h3 h9
          go_wp2_with fail
          go_roundg (gk - 1)
          case measure => omega
          case rel => exact ⟨k + 1, c, reg, by simp, rfl, by omega, by omega, by have := Hck.out; omega, hreg, hR.frame f1 (fun h => h), hm.frame f1 (fun h => h), hfr.trans f1 (fun _ _ h => h)⟩
      · have hk3 : (4398046511104 : Int) ≤ k := Int.not_lt.1 hlt2
        have Hlt : Hid _ := hlt
        have Hkg : Hid _ := hkg'
        have hlt' : (k : Int) < n := by omega
        have q1 : decide ((k : Int) < 4398046511104) = false := decide_eq_false (Int.not_lt.2 hk3)
        clear hlt2 hlt hkg' hk3
        go_wp2_with fail
        all_goals go_ret
        all_goals exact ⟨rfl, hfr⟩
    · have hkn : k = n := by omega
      have q1 : decide ((k : Int) < n) = false := decide_eq_false (by omega)
      go_wp2_with fail
      all_goals go_ret
      all_goals exact ⟨rfl, hfr⟩
set_option maxHeartbeats 400000 in
theorem trip_any {w : World} {a : Option Addr} {n cap : Nat} (hs : ScrAt w a n) :
    Calls Try.prog 5 #[.slice a n cap] w fun e w' => e = .returned (.bool true) ∧ Fr (fun _ => False) w w' := by
  go_enter Try.func5, Try.ntmps5
  go_wp2_with fail
  refine (tripUpTo_any hs).mono ?_
  rintro e w1 ⟨rfl, f1⟩
  go_wp2
  go_ret
  exact ⟨rfl, f1⟩
end Go.Proofs.Qxb6500287a
