import Derived.Test.Qxb6500284aWPlay
import Derived.Test.Qxb6500284aWNew
namespace Go.Proofs.Qxb6500284a
open Go Go.RowKit

/-- The script lies in memory. -/
def ScrAt (w : World) (a : Option Addr) (n : Nat) : Prop := n = 0 ∨ ∃ b off, a = some ⟨b, off, none⟩ ∧ b < w.heap.size ∧ ∀ i, i < n → ∃ kind A B C S T,
  w.cell? ⟨b, off + i * 6, none⟩ = some (.int .i64 kind) ∧ w.cell? ⟨b, off + i * 6 + 1, none⟩ = some (.int .i64 A) ∧ w.cell? ⟨b, off + i * 6 + 2, none⟩ = some (.int .i64 B) ∧
  w.cell? ⟨b, off + i * 6 + 3, none⟩ = some (.int .i64 C) ∧ w.cell? ⟨b, off + i * 6 + 4, none⟩ = some (.string S) ∧ w.cell? ⟨b, off + i * 6 + 5, none⟩ = some (.string T)

theorem cinv0 : CInv ps0 := by
  have h : ∀ W, LInv ps0.f W 64 := fun W => ⟨by simp [ps0], by simp [ps0], fun _ _ => by simp [ps0], fun k hk => by simp [ps0] at hk; omega⟩
  exact ⟨h 0, h 1, rfl, by simp [ps0]⟩
def desk0 (bb : Nat) : DD := ⟨.slice none 0 0, ⟨#[]⟩, 0, fun _ => .slice none 0 0, 0, bb⟩

theorem law0 {w3 w' : World} {x m d bb : Nat} (hrep : PRep w3 x ps0) (hm : MB w3 m 0) (f : Fr (fun _ => False) w3 w') (hd : Blk w' d 9 (dcell (desk0 bb))) {fb : Nat → Value} (hb : Blk w' bb 455 fb) (l1 : x + 7 ≤ m) (l2 : m < d) (l3 : d < bb) :
    LawInv w' (bb + 1) x m d ps0 (desk0 bb) [] 0 := by
  have e : ∀ (b n c : Nat), (Value.slice none 0 0) ≠ .slice (some ⟨b, 0, none⟩) n c := fun b n c h => by cases h
  exact ⟨hrep.frame f (by simp), cinv0, by simp [ps0, desk0], ⟨0, hm.frame f (by simp), Nat.le_refl _⟩, hd, .inl ⟨rfl, rfl⟩, by simp, fun b n c h => absurd h (e b n c), fun k _ => ⟨0, by omega, none, 0, rfl, .inl rfl⟩,
    fun k _ b n c h => absurd h (e b n c), ⟨fb, hb⟩, by show (0 : Nat) ≤ 257; omega, ⟨0, rfl, Nat.le_refl _⟩, ⟨l1, l2, l3, Nat.lt_succ_self _⟩, hb.lt⟩

theorem Blk.desk (w : World) (bb : Nat) : Blk (w.alloc (.cells #[.slice none 0 0, .string ⟨#[]⟩, .int .i64 0, .slice none 0 0, .slice none 0 0, .slice none 0 0, .slice none 0 0, .int .i64 0, .slice none 0 0] 38)) w.heap.size 9 (upd (dcell (desk0 bb)) 8 (.slice none 0 0)) :=
  Blk.new w _ _ _ fun o ho => by
    rcases (show o = 0 ∨ o = 1 ∨ o = 2 ∨ o = 3 ∨ o = 4 ∨ o = 5 ∨ o = 6 ∨ o = 7 ∨ o = 8 by simp at ho; omega) with rfl | rfl | rfl | rfl | rfl | rfl | rfl | rfl | rfl <;> rfl
theorem dcell_8 (bb : Nat) : ∀ o, o < 9 → upd (upd (dcell (desk0 bb)) 8 (.slice none 0 0)) 8 (.slice (some ⟨bb, 0, none⟩) 65 65) o = dcell (desk0 bb) o := by
  intro o ho
  rcases (show o = 0 ∨ o = 1 ∨ o = 2 ∨ o = 3 ∨ o = 4 ∨ o = 5 ∨ o = 6 ∨ o = 7 ∨ o = 8 by omega) with rfl | rfl | rfl | rfl | rfl | rfl | rfl | rfl | rfl <;> simp [dcell, upd, desk0]


set_option maxRecDepth 100000 in
set_option maxHeartbeats 4000000 in
theorem walk_loud (hP : Plain) {w : World} {a : Option Addr} {n cap : Nat} (hs : ScrAt w a n) :
    Calls Try.prog 6 #[.slice a n cap, .bool false] w fun e w' => (∃ k, e = .returned (.tuple #[.int .i64 (-1), .int .i64 k])) ∧ Fr (fun _ => False) w w' := by
  go_enter Try.func6, Try.ntmps6
  go_wp2_with fail
  refine (ground_any _).mono ?_
  rintro e w1 ⟨rfl, f1⟩
  go_wp2_with fail
  refine (new_any _).mono ?_
  rintro e w2 ⟨rfl, hrep, f2⟩
  go_wp2_with fail
  refine (mnew_any _).mono ?_
  rintro e w3 ⟨rfl, f3, z3, fm, hmb, hm0⟩
  have hx7 := hrep.no.lt
  have fw3 : Fr (fun _ => False) w w3 := (f1.trans f2 (fun _ _ h => h)).trans f3 (fun _ _ h => h)
  have hsz3 := fw3.size
  have hs1 := f1.size
  have hdk0 := Blk.desk w3 (w2.heap.size + 1 + 1)
  rw [z3] at hdk0
  have fal := (Fr.refl (fun _ => False) w3).alloc (.cells #[.slice none 0 0, .string ⟨#[]⟩, .int .i64 0, .slice none 0 0, .slice none 0 0, .slice none 0 0, .slice none 0 0, .int .i64 0, .slice none 0 0] 38)
  go_wp2_with (refine wpList_makeB (by rfl) 35 _ _ (by rfl) 63 7 56 (inV ⟨0, 0, 0, 0, 0, 0, 0⟩) 65 (by rfl) (by rfl) Try.underlying35 (by kernel_rfl) (by kernel_rfl) (by kernel_rfl) (by omega) (by omega) ?_; intro w4 f4 z4 b4; simp [z3] at z4 b4; have hdk := hdk0.frame f4 (by simp); have d8 := hdk.cell (show 8 < 9 by omega); have dz := hdk.frozen)
  have f34 : Fr (fun _ => False) w3 w4 := fal.trans f4 (fun _ _ h => h)
  have hdk5 := (hdk.set 8 (.slice (some ⟨w2.heap.size + 1 + 1, 0, none⟩) 65 65)).congr (dcell_8 _)
  have f35 : Fr (fun _ => False) w3 (w4.setCell ⟨w2.heap.size + 1, 8, none⟩ (.slice (some ⟨w2.heap.size + 1 + 1, 0, none⟩) 65 65)) := f34.setNew (by omega)
  have hL0 := law0 (x := w1.heap.size) (m := w2.heap.size) (hrep.frame f3 (by simp)) ⟨fm, hmb, hm0⟩ f35 hdk5 (b4.setOther _ _ (by simp)) (by omega) (by omega) (by omega)
  have fw5 : Fr (fun _ => False) w (w4.setCell ⟨w2.heap.size + 1, 8, none⟩ (.slice (some ⟨w2.heap.size + 1 + 1, 0, none⟩) 65 65)) := fw3.trans f35 (fun _ _ h => h)
  refine (alike_any hL0.rep hL0.ci hL0.db hL0.ci.st hL0.st).mono ?_
  rintro e w5 ⟨rfl, rfl⟩
  go_wp2_with fail
  go_loopg [10] n (fun g kv wr => ∃ k : Nat, kv = .int .i64 k ∧ k + g = n ∧ k ≤ 4398046511104 ∧ (∃ s D p, LawInv wr (w2.heap.size + 1 + 1 + 1) w1.heap.size w2.heap.size (w2.heap.size + 1) s D p k) ∧ Fr (fun _ => False) w wr)
  case atStart => exact ⟨0, rfl, by omega, by omega, ⟨_, _, _, hL0⟩, fw5⟩
  case round =>
    obtain ⟨k, rfl, hkg, hk42, ⟨s, D, p, hL⟩, hfr⟩ := hrel
    have hkg' : k + gk = n := hkg
    clear hkg
    have Hk42 : Hid _ := hk42
    clear hk42
    have hkb : (k : Int) < 140737488355328 := by have := Hk42.out; omega
    by_cases hlt : k < n
    · by_cases hlt2 : (k : Int) < 4398046511104
      · rcases hs with h0 | ⟨b, off, rfl, hb, hcells⟩
        · exact absurd hlt (by omega)
        obtain ⟨kind, A, B, C, S, T, c0, c1, c2, c3, c4, c5⟩ := hcells k hlt
        rw [← hfr.cell (p := ⟨b, off + k * 6, none⟩) hb (by simp)] at c0
        rw [← hfr.cell (p := ⟨b, off + k * 6 + 1, none⟩) hb (by simp)] at c1
        rw [← hfr.cell (p := ⟨b, off + k * 6 + 2, none⟩) hb (by simp)] at c2
        rw [← hfr.cell (p := ⟨b, off + k * 6 + 3, none⟩) hb (by simp)] at c3
        rw [← hfr.cell (p := ⟨b, off + k * 6 + 4, none⟩) hb (by simp)] at c4
        rw [← hfr.cell (p := ⟨b, off + k * 6 + 5, none⟩) hb (by simp)] at c5
        clear hcells
        go_wp2_with fail
        refine (play_any hP hL (by have := Hk42.out; omega) kind A B C S T).mono ?_
        rintro e w6 ⟨rfl, ⟨s', D', p', hL'⟩, f6⟩
        go_wp2_with fail
        refine (alike_any hL'.rep hL'.ci hL'.db hL'.ci.st hL'.st).mono ?_
        rintro e w5 ⟨rfl, rfl⟩
        go_wp2_with fail
        go_roundg (gk - 1)
        case measure => omega
        case rel => exact ⟨k + 1, by simp, by omega, by omega, ⟨s', D', p', hL'⟩, hfr.trans f6 (fun i hi h => by omega)⟩
      · have hk3 : (4398046511104 : Int) ≤ k := Int.not_lt.1 hlt2
        have hn3 : (4398046511104 : Int) ≤ n := Int.le_trans hk3 (by omega)
        have Hlt : Hid _ := hlt
        have Hkg : Hid _ := hkg'
        have hlt' : (k : Int) < n := by omega
        have q1 : decide ((k : Int) < 4398046511104) = false := decide_eq_false (Int.not_lt.2 hk3)
        have q2 : decide ((n : Int) < 4398046511104) = false := decide_eq_false (Int.not_lt.2 hn3)
        clear hlt2 hlt hkg' hk3 hn3
        go_wp2_with fail
        all_goals exact bodyPost_ret (v := .tuple #[.int .i64 (-1), .int .i64 4398046511104]) (by simp [results, Try.results6, go_sem]) rfl ⟨⟨_, rfl⟩, hfr⟩
    · have hkn : k = n := by omega
      by_cases hn2 : (n : Int) < 4398046511104
      · go_wp2_with fail
        exact bodyPost_ret (v := .tuple #[.int .i64 (-1), .int .i64 n]) (by simp [results, Try.results6, go_sem]) rfl ⟨⟨_, rfl⟩, hfr⟩
      · go_wp2_with fail
        exact bodyPost_ret (v := .tuple #[.int .i64 (-1), .int .i64 4398046511104]) (by simp [results, Try.results6, go_sem]) rfl ⟨⟨_, rfl⟩, hfr⟩

set_option maxRecDepth 100000 in
set_option maxHeartbeats 4000000 in
theorem walk_quiet (hP : Plain) {w : World} {a : Option Addr} {n cap : Nat} (hs : ScrAt w a n) :
    Calls Try.prog 6 #[.slice a n cap, .bool true] w fun e w' => (∃ k, e = .returned (.tuple #[.int .i64 (-1), .int .i64 k])) ∧ Fr (fun _ => False) w w' := by
  go_enter Try.func6, Try.ntmps6
  go_wp2_with fail
  refine (ground_any _).mono ?_
  rintro e w1 ⟨rfl, f1⟩
  go_wp2_with fail
  refine (new_any _).mono ?_
  rintro e w2 ⟨rfl, hrep, f2⟩
  go_wp2_with fail
  refine (mnew_any _).mono ?_
  rintro e w3 ⟨rfl, f3, z3, fm, hmb, hm0⟩
  have hx7 := hrep.no.lt
  have fw3 : Fr (fun _ => False) w w3 := (f1.trans f2 (fun _ _ h => h)).trans f3 (fun _ _ h => h)
  have hsz3 := fw3.size
  have hs1 := f1.size
  have hdk0 := Blk.desk w3 (w2.heap.size + 1 + 1)
  rw [z3] at hdk0
  have fal := (Fr.refl (fun _ => False) w3).alloc (.cells #[.slice none 0 0, .string ⟨#[]⟩, .int .i64 0, .slice none 0 0, .slice none 0 0, .slice none 0 0, .slice none 0 0, .int .i64 0, .slice none 0 0] 38)
  go_wp2_with (refine wpList_makeB (by rfl) 35 _ _ (by rfl) 63 7 56 (inV ⟨0, 0, 0, 0, 0, 0, 0⟩) 65 (by rfl) (by rfl) Try.underlying35 (by kernel_rfl) (by kernel_rfl) (by kernel_rfl) (by omega) (by omega) ?_; intro w4 f4 z4 b4; simp [z3] at z4 b4; have hdk := hdk0.frame f4 (by simp); have d8 := hdk.cell (show 8 < 9 by omega); have dz := hdk.frozen)
  have f34 : Fr (fun _ => False) w3 w4 := fal.trans f4 (fun _ _ h => h)
  have hdk5 := (hdk.set 8 (.slice (some ⟨w2.heap.size + 1 + 1, 0, none⟩) 65 65)).congr (dcell_8 _)
  have f35 : Fr (fun _ => False) w3 (w4.setCell ⟨w2.heap.size + 1, 8, none⟩ (.slice (some ⟨w2.heap.size + 1 + 1, 0, none⟩) 65 65)) := f34.setNew (by omega)
  have hL0 := law0 (x := w1.heap.size) (m := w2.heap.size) (hrep.frame f3 (by simp)) ⟨fm, hmb, hm0⟩ f35 hdk5 (b4.setOther _ _ (by simp)) (by omega) (by omega) (by omega)
  have fw5 : Fr (fun _ => False) w (w4.setCell ⟨w2.heap.size + 1, 8, none⟩ (.slice (some ⟨w2.heap.size + 1 + 1, 0, none⟩) 65 65)) := fw3.trans f35 (fun _ _ h => h)
  go_loopg [10] n (fun g kv wr => ∃ k : Nat, kv = .int .i64 k ∧ k + g = n ∧ k ≤ 4398046511104 ∧ (∃ s D p, LawInv wr (w2.heap.size + 1 + 1 + 1) w1.heap.size w2.heap.size (w2.heap.size + 1) s D p k) ∧ Fr (fun _ => False) w wr)
  case atStart => exact ⟨0, rfl, by omega, by omega, ⟨_, _, _, hL0⟩, fw5⟩
  case round =>
    obtain ⟨k, rfl, hkg, hk42, ⟨s, D, p, hL⟩, hfr⟩ := hrel
    have hkg' : k + gk = n := hkg
    clear hkg
    have Hk42 : Hid _ := hk42
    clear hk42
    have hkb : (k : Int) < 140737488355328 := by have := Hk42.out; omega
    by_cases hlt : k < n
    · by_cases hlt2 : (k : Int) < 4398046511104
      · rcases hs with h0 | ⟨b, off, rfl, hb, hcells⟩
        · exact absurd hlt (by omega)
        obtain ⟨kind, A, B, C, S, T, c0, c1, c2, c3, c4, c5⟩ := hcells k hlt
        rw [← hfr.cell (p := ⟨b, off + k * 6, none⟩) hb (by simp)] at c0
        rw [← hfr.cell (p := ⟨b, off + k * 6 + 1, none⟩) hb (by simp)] at c1
        rw [← hfr.cell (p := ⟨b, off + k * 6 + 2, none⟩) hb (by simp)] at c2
        rw [← hfr.cell (p := ⟨b, off + k * 6 + 3, none⟩) hb (by simp)] at c3
        rw [← hfr.cell (p := ⟨b, off + k * 6 + 4, none⟩) hb (by simp)] at c4
        rw [← hfr.cell (p := ⟨b, off + k * 6 + 5, none⟩) hb (by simp)] at c5
        clear hcells
        go_wp2_with fail
        refine (play_any hP hL (by have := Hk42.out; omega) kind A B C S T).mono ?_
        rintro e w6 ⟨rfl, ⟨s', D', p', hL'⟩, f6⟩
        go_wp2_with fail
        go_roundg (gk - 1)
        case measure => omega
        case rel => exact ⟨k + 1, by simp, by omega, by omega, ⟨s', D', p', hL'⟩, hfr.trans f6 (fun i hi h => by omega)⟩
      · have hk3 : (4398046511104 : Int) ≤ k := Int.not_lt.1 hlt2
        have hn3 : (4398046511104 : Int) ≤ n := Int.le_trans hk3 (by omega)
        have Hlt : Hid _ := hlt
        have Hkg : Hid _ := hkg'
        have hlt' : (k : Int) < n := by omega
        have q1 : decide ((k : Int) < 4398046511104) = false := decide_eq_false (Int.not_lt.2 hk3)
        have q2 : decide ((n : Int) < 4398046511104) = false := decide_eq_false (Int.not_lt.2 hn3)
        clear hlt2 hlt hkg' hk3 hn3
        go_wp2_with fail
        all_goals exact bodyPost_ret (v := .tuple #[.int .i64 (-1), .int .i64 4398046511104]) (by simp [results, Try.results6, go_sem]) rfl ⟨⟨_, rfl⟩, hfr⟩
    · have hkn : k = n := by omega
      by_cases hn2 : (n : Int) < 4398046511104
      · go_wp2_with fail
        exact bodyPost_ret (v := .tuple #[.int .i64 (-1), .int .i64 n]) (by simp [results, Try.results6, go_sem]) rfl ⟨⟨_, rfl⟩, hfr⟩
      · go_wp2_with fail
        exact bodyPost_ret (v := .tuple #[.int .i64 (-1), .int .i64 4398046511104]) (by simp [results, Try.results6, go_sem]) rfl ⟨⟨_, rfl⟩, hfr⟩
end Go.Proofs.Qxb6500284a
