import Derived.Test.Qxb6500279aW23
namespace Go.Proofs.Qxb6500279a
open Go Go.RowKit

def rNew : R := ⟨[], 0, 0, 0, 0, 0, 0⟩
theorem rNew_ok : CheckOK rNew := ⟨by simp [rNew], fun j h => by simp [rNew] at h, fun j h => by simp [rNew] at h, fun j h => by simp [rNew] at h, fun j h => by simp [rNew] at h⟩
set_option maxRecDepth 100000 in
set_option maxHeartbeats 4000000 in
theorem new_any (w : World) : Calls Try.prog 8 #[] w fun e w' => e = .returned (.pointer (some ⟨w.heap.size + 1, 0, none⟩)) ∧ LRep w' (w.heap.size + 1) w.heap.size rNew ∧ Fr (fun _ => False) w w' := by
  go_enter Try.func8, Try.ntmps8
  go_wp2_with (refine wpList_makeB (by rfl) 29 _ _ (by rfl) 36 4 40 (.agg #[.int .i64 0, .int .i64 0, .int .i64 0, .string ⟨#[]⟩]) 4 (by rfl) (by rfl) Try.underlying29 (by kernel_rfl) (by kernel_rfl) (by kernel_rfl) (by omega) (by omega) ?_; intro w2 f2 s2 hb2)
  go_ret
  refine ⟨by rw [← s2]; rfl, ⟨List.replicate 4 zeroTok, ?_⟩, f2.alloc _⟩
  rw [← s2]
  refine ⟨?_, ?_, by omega, by simp, by simp, by simp [rNew], by simp [rNew]⟩
  · refine Blk.new w2 _ _ _ fun o ho => ?_
    rcases lt8 (show o < 8 by simpa using ho) with rfl | rfl | rfl | rfl | rfl | rfl | rfl | rfl <;> rfl
  · refine (hb2.congr fun o ho => ?_).alloc _
    rw [zero_cells]
    have : (List.replicate 4 zeroTok).getD (o / 4) zeroTok = zeroTok := by
      simp only [List.getD_eq_getElem?_getD, List.getElem?_replicate]
      split <;> rfl
    unfold bufF
    rw [this]
set_option maxHeartbeats 400000 in
theorem mnew_any (w : World) : Calls Try.prog 12 #[] w fun e w' => (∃ q, e = .returned (.pointer q)) ∧ Fr (fun _ => False) w w' := by
  go_enter Try.func12, Try.ntmps12
  go_wp2_with fail
  go_ret
  exact ⟨⟨_, rfl⟩, (Fr.refl _ _).alloc _⟩
set_option maxHeartbeats 400000 in
theorem ground_any (w : World) : Calls Try.prog 11 #[] w fun e w' => e = .returned (.agg #[]) ∧ Fr (fun _ => False) w w' := by
  go_enter Try.func11, Try.ntmps11
  go_wp2
  exact bodyPost_ret (v := .agg #[]) (by simp [results, Try.results11, go_sem]) rfl ⟨rfl, (Fr.refl _ _).alloc _⟩

/-- The script lies in memory. -/
def ScrAt (w : World) (a : Option Addr) (n : Nat) : Prop := n = 0 ∨ ∃ b off, a = some ⟨b, off, none⟩ ∧ b < w.heap.size ∧ ∀ i, i < n → ∃ kind A B C S T,
  w.cell? ⟨b, off + i * 6, none⟩ = some (.int .i64 kind) ∧ w.cell? ⟨b, off + i * 6 + 1, none⟩ = some (.int .i64 A) ∧ w.cell? ⟨b, off + i * 6 + 2, none⟩ = some (.int .i64 B) ∧
  w.cell? ⟨b, off + i * 6 + 3, none⟩ = some (.int .i64 C) ∧ w.cell? ⟨b, off + i * 6 + 4, none⟩ = some (.string S) ∧ w.cell? ⟨b, off + i * 6 + 5, none⟩ = some (.string T)
def desk0 : DD := ⟨⟨#[]⟩, .slice none 0 0, .slice none 0 0, 0, 0, .slice none 0 0⟩
theorem noBlk (b : Nat) : ¬ isBlk (.slice none 0 0) b := by rintro ⟨n, c, e⟩; cases e
def deskO (x : Nat) (q : Option Addr) : Obj := .cells #[.pointer (some ⟨x, 0, none⟩), .pointer q, .string ⟨#[]⟩, .slice none 0 0, .int .i64 0, .int .i64 0, .slice none 0 0, .int .i64 0, .int .i64 0, .slice none 0 0] 48
theorem law0 {w1 w3 : World} {q : Option Addr} (hl : LRep w3 (w1.heap.size + 1) w1.heap.size rNew) : LawInv (w3.alloc (deskO (w1.heap.size + 1) q)) w1.heap.size (w3.heap.size + 1) (w1.heap.size + 1) w3.heap.size (.pointer q) desk0 w1.heap.size rNew [] [] := by
  have hlt := hl.lt
  refine ⟨hl.frame ((Fr.refl (fun _ => False) w3).alloc _) (by simp) (by simp), rNew_ok, ?_, .inl ⟨rfl, rfl⟩, .inl ⟨rfl, rfl⟩, by simp, .inl ⟨rfl, rfl⟩, by simp, (fun p hp => by cases hp), fun b hb => absurd hb (noBlk b), fun b hb => absurd hb (noBlk b), fun b hb => absurd hb (noBlk b), (fun p hp => by cases hp), by show (0 : Nat) ≤ 4097; omega, ⟨by omega, by omega, by omega, by omega⟩, ⟨by omega, by omega, by omega, by omega, by simp⟩, ⟨q, rfl⟩⟩
  refine Blk.new w3 _ _ _ fun o ho => ?_
  rcases (show o = 0 ∨ o = 1 ∨ o = 2 ∨ o = 3 ∨ o = 4 ∨ o = 5 ∨ o = 6 ∨ o = 7 ∨ o = 8 ∨ o = 9 by simp at ho; omega) with rfl | rfl | rfl | rfl | rfl | rfl | rfl | rfl | rfl | rfl <;> rfl

set_option maxRecDepth 100000 in
set_option maxHeartbeats 4000000 in
theorem walk_loud {w : World} {a : Option Addr} {n cap : Nat} (hs : ScrAt w a n) :
    Calls Try.prog 7 #[.slice a n cap, .bool false] w fun e w' => (∃ k, e = .returned (.tuple #[.int .i64 (-1), .int .i64 k])) ∧ Fr (fun _ => False) w w' := by
  go_enter Try.func7, Try.ntmps7
  go_wp2_with fail
  refine (ground_any _).mono ?_
  rintro e w1 ⟨rfl, f1⟩
  go_wp2_with fail
  refine (new_any _).mono ?_
  rintro e w2 ⟨rfl, hrep, f2⟩
  go_wp2_with fail
  refine (mnew_any _).mono ?_
  rintro e w3 ⟨⟨q, rfl⟩, f3⟩
  have fw3 : Fr (fun _ => False) w w3 := (f1.trans f2 (fun _ _ h => h)).trans f3 (fun _ _ h => h)
  have hs1 := f1.size
  have hL0 := law0 (q := q) (hrep.frame f3 (by simp) (by simp))
  have fw5 : Fr (fun _ => False) w (w3.alloc (deskO (w1.heap.size + 1) q)) := fw3.alloc _
  go_wp2_with fail
  refine (alike_any hL0).mono ?_
  rintro e w5 ⟨rfl, f5⟩
  have hL5 := hL0.frame f5
  have fw6 : Fr (fun _ => False) w w5 := fw5.trans f5 (fun _ _ h => h)
  go_wp2_with fail
  go_loopg [9] n (fun g kv wr => ∃ k : Nat, kv = .int .i64 k ∧ k + g = n ∧ k ≤ 4398046511104 ∧ (∃ D bb r ts ml, LawInv wr w1.heap.size (w3.heap.size + 1) (w1.heap.size + 1) w3.heap.size (.pointer q) D bb r ts ml) ∧ Fr (fun _ => False) w wr)
  case atStart => exact ⟨0, rfl, by omega, by omega, ⟨_, _, _, _, _, hL5⟩, fw6⟩
  case round =>
    obtain ⟨k, rfl, hkg, hk42, ⟨D, bb, r, ts, ml, hL⟩, hfr⟩ := hrel
    have hkg' : k + gk = n := hkg
    clear hkg
    have Hk42 : Hid _ := hk42
    clear hk42
    have hkb : (k : Int) < 140737488355328 := by have := Hk42.out; omega
    by_cases hlt : k < n
    · by_cases hlt2 : (k : Int) < 4398046511104
      · rcases hs with h0 | ⟨b, off, rfl, hb, hcells⟩
        · exact absurd hlt (by omega)
        obtain ⟨kind, A, B, C, S, T, c0, c1, c2, c3, c4, c5⟩ := hcells k hlt
        rw [← hfr.cell (p := ⟨b, off + k * 6, none⟩) hb (by simp)] at c0
        rw [← hfr.cell (p := ⟨b, off + k * 6 + 1, none⟩) hb (by simp)] at c1
        rw [← hfr.cell (p := ⟨b, off + k * 6 + 2, none⟩) hb (by simp)] at c2
        rw [← hfr.cell (p := ⟨b, off + k * 6 + 3, none⟩) hb (by simp)] at c3
        rw [← hfr.cell (p := ⟨b, off + k * 6 + 4, none⟩) hb (by simp)] at c4
        rw [← hfr.cell (p := ⟨b, off + k * 6 + 5, none⟩) hb (by simp)] at c5
        clear hcells
        go_wp2_with fail
        refine (play_any hL kind A B C S T).mono ?_
        rintro e w6 ⟨rfl, ⟨D', bb', r', ts', ml', hL'⟩, f6⟩
        go_wp2_with fail
        refine (alike_any hL').mono ?_
        rintro e w7 ⟨rfl, f7⟩
        go_wp2_with fail
        go_roundg (gk - 1)
        case measure => omega
        case rel => exact ⟨k + 1, by simp, by omega, by omega, ⟨D', bb', r', ts', ml', hL'.frame f7⟩, (hfr.trans f6 (fun i hi h => by omega)).trans f7 (fun _ _ h => h)⟩
      · have hk3 : (4398046511104 : Int) ≤ k := Int.not_lt.1 hlt2
        have hn3 : (4398046511104 : Int) ≤ n := Int.le_trans hk3 (by omega)
        have Hlt : Hid _ := hlt
        have Hkg : Hid _ := hkg'
        have hlt' : (k : Int) < n := by omega
        have q1 : decide ((k : Int) < 4398046511104) = false := decide_eq_false (Int.not_lt.2 hk3)
        have q2 : decide ((n : Int) < 4398046511104) = false := decide_eq_false (Int.not_lt.2 hn3)
        clear hlt2 hlt hkg' hk3 hn3
        go_wp2_with fail
        all_goals exact bodyPost_ret (v := .tuple #[.int .i64 (-1), .int .i64 4398046511104]) (by simp [results, Try.results7, go_sem]) rfl ⟨⟨_, rfl⟩, hfr⟩
    · have hkn : k = n := by omega
      by_cases hn2 : (n : Int) < 4398046511104
      · go_wp2_with fail
        exact bodyPost_ret (v := .tuple #[.int .i64 (-1), .int .i64 n]) (by simp [results, Try.results7, go_sem]) rfl ⟨⟨_, rfl⟩, hfr⟩
      · go_wp2_with fail
        exact bodyPost_ret (v := .tuple #[.int .i64 (-1), .int .i64 4398046511104]) (by simp [results, Try.results7, go_sem]) rfl ⟨⟨_, rfl⟩, hfr⟩

set_option maxRecDepth 100000 in
set_option maxHeartbeats 4000000 in
theorem walk_quiet {w : World} {a : Option Addr} {n cap : Nat} (hs : ScrAt w a n) :
    Calls Try.prog 7 #[.slice a n cap, .bool true] w fun e w' => (∃ k, e = .returned (.tuple #[.int .i64 (-1), .int .i64 k])) ∧ Fr (fun _ => False) w w' := by
  go_enter Try.func7, Try.ntmps7
  go_wp2_with fail
  refine (ground_any _).mono ?_
  rintro e w1 ⟨rfl, f1⟩
  go_wp2_with fail
  refine (new_any _).mono ?_
  rintro e w2 ⟨rfl, hrep, f2⟩
  go_wp2_with fail
  refine (mnew_any _).mono ?_
  rintro e w3 ⟨⟨q, rfl⟩, f3⟩
  have fw3 : Fr (fun _ => False) w w3 := (f1.trans f2 (fun _ _ h => h)).trans f3 (fun _ _ h => h)
  have hs1 := f1.size
  have hL0 := law0 (q := q) (hrep.frame f3 (by simp) (by simp))
  have fw5 : Fr (fun _ => False) w (w3.alloc (deskO (w1.heap.size + 1) q)) := fw3.alloc _
  go_wp2_with fail
  go_loopg [9] n (fun g kv wr => ∃ k : Nat, kv = .int .i64 k ∧ k + g = n ∧ k ≤ 4398046511104 ∧ (∃ D bb r ts ml, LawInv wr w1.heap.size (w3.heap.size + 1) (w1.heap.size + 1) w3.heap.size (.pointer q) D bb r ts ml) ∧ Fr (fun _ => False) w wr)
  case atStart => exact ⟨0, rfl, by omega, by omega, ⟨_, _, _, _, _, hL0⟩, fw5⟩
  case round =>
    obtain ⟨k, rfl, hkg, hk42, ⟨D, bb, r, ts, ml, hL⟩, hfr⟩ := hrel
    have hkg' : k + gk = n := hkg
    clear hkg
    have Hk42 : Hid _ := hk42
    clear hk42
    have hkb : (k : Int) < 140737488355328 := by have := Hk42.out; omega
    by_cases hlt : k < n
    · by_cases hlt2 : (k : Int) < 4398046511104
      · rcases hs with h0 | ⟨b, off, rfl, hb, hcells⟩
        · exact absurd hlt (by omega)
        obtain ⟨kind, A, B, C, S, T, c0, c1, c2, c3, c4, c5⟩ := hcells k hlt
        rw [← hfr.cell (p := ⟨b, off + k * 6, none⟩) hb (by simp)] at c0
        rw [← hfr.cell (p := ⟨b, off + k * 6 + 1, none⟩) hb (by simp)] at c1
        rw [← hfr.cell (p := ⟨b, off + k * 6 + 2, none⟩) hb (by simp)] at c2
        rw [← hfr.cell (p := ⟨b, off + k * 6 + 3, none⟩) hb (by simp)] at c3
        rw [← hfr.cell (p := ⟨b, off + k * 6 + 4, none⟩) hb (by simp)] at c4
        rw [← hfr.cell (p := ⟨b, off + k * 6 + 5, none⟩) hb (by simp)] at c5
        clear hcells
        go_wp2_with fail
        refine (play_any hL kind A B C S T).mono ?_
        rintro e w6 ⟨rfl, ⟨D', bb', r', ts', ml', hL'⟩, f6⟩
        go_wp2_with fail
        go_roundg (gk - 1)
        case measure => omega
        case rel => exact ⟨k + 1, by simp, by omega, by omega, ⟨D', bb', r', ts', ml', hL'⟩, hfr.trans f6 (fun i hi h => by omega)⟩
      · have hk3 : (4398046511104 : Int) ≤ k := Int.not_lt.1 hlt2
        have hn3 : (4398046511104 : Int) ≤ n := Int.le_trans hk3 (by omega)
        have Hlt : Hid _ := hlt
        have Hkg : Hid _ := hkg'
        have hlt' : (k : Int) < n := by omega
        have q1 : decide ((k : Int) < 4398046511104) = false := decide_eq_false (Int.not_lt.2 hk3)
        have q2 : decide ((n : Int) < 4398046511104) = false := decide_eq_false (Int.not_lt.2 hn3)
        clear hlt2 hlt hkg' hk3 hn3
        go_wp2_with fail
        all_goals exact bodyPost_ret (v := .tuple #[.int .i64 (-1), .int .i64 4398046511104]) (by simp [results, Try.results7, go_sem]) rfl ⟨⟨_, rfl⟩, hfr⟩
    · have hkn : k = n := by omega
      by_cases hn2 : (n : Int) < 4398046511104
      · go_wp2_with fail
        exact bodyPost_ret (v := .tuple #[.int .i64 (-1), .int .i64 n]) (by simp [results, Try.results7, go_sem]) rfl ⟨⟨_, rfl⟩, hfr⟩
      · go_wp2_with fail
        exact bodyPost_ret (v := .tuple #[.int .i64 (-1), .int .i64 4398046511104]) (by simp [results, Try.results7, go_sem]) rfl ⟨⟨_, rfl⟩, hfr⟩

set_option maxHeartbeats 400000 in
theorem upTo_any {w : World} {a : Option Addr} {n cap : Nat} (hs : ScrAt w a n) :
    Calls Try.prog 6 #[.slice a n cap] w fun e w' => e = .returned (.int .i64 (-1)) ∧ Fr (fun _ => False) w w' := by
  go_enter Try.func6, Try.ntmps6
  go_wp2_with fail
  refine (walk_loud hs).mono ?_
  rintro e w1 ⟨⟨k, rfl⟩, f1⟩
  go_wp2
  go_ret
  exact ⟨rfl, f1⟩
set_option maxHeartbeats 400000 in
theorem refines_any {w : World} {a : Option Addr} {n cap : Nat} (hs : ScrAt w a n) :
    Calls Try.prog 3 #[.slice a n cap] w fun e w' => e = .returned (.bool true) ∧ Fr (fun _ => False) w w' := by
  go_enter Try.func3, Try.ntmps3
  go_wp2_with fail
  refine (upTo_any hs).mono ?_
  rintro e w1 ⟨rfl, f1⟩
  go_wp2
  go_ret
  exact ⟨rfl, f1⟩
set_option maxHeartbeats 400000 in
theorem quiet_any {w : World} {a : Option Addr} {n cap : Nat} (hs : ScrAt w a n) :
    Calls Try.prog 4 #[.slice a n cap] w fun e w' => e = .returned (.bool true) ∧ Fr (fun _ => False) w w' := by
  go_enter Try.func4, Try.ntmps4
  go_wp2_with fail
  refine (walk_quiet hs).mono ?_
  rintro e w1 ⟨⟨k, rfl⟩, f1⟩
  go_wp2
  go_ret
  exact ⟨rfl, f1⟩
end Go.Proofs.Qxb6500279a
