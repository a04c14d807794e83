/- The law: the walk. -/
import Derived.Test.Qxb6500286aK5
import Derived.Test.Qxb6500286aB13
namespace Go.Proofs.Qxb6500286a
open Go Go.RowKit

/-- The script lies in memory. -/
def ScrAt (w : World) (a : Option Addr) (n : Nat) : Prop := n = 0 ∨ ∃ b off, a = some ⟨b, off, none⟩ ∧ b < w.heap.size ∧ ∀ i, i < n → ∃ kind A B C S T,
  w.cell? ⟨b, off + i * 6, none⟩ = some (.int .i64 kind) ∧ w.cell? ⟨b, off + i * 6 + 1, none⟩ = some (.int .i64 A) ∧ w.cell? ⟨b, off + i * 6 + 2, none⟩ = some (.int .i64 B) ∧
  w.cell? ⟨b, off + i * 6 + 3, none⟩ = some (.int .i64 C) ∧ w.cell? ⟨b, off + i * 6 + 4, none⟩ = some (.string S) ∧ w.cell? ⟨b, off + i * 6 + 5, none⟩ = some (.string T)
theorem RAny.alloc27 {w : World} {x : Nat} (h : RAny w x ⟨#[]⟩) (o : Obj) : RAny (w.alloc o) x ⟨#[]⟩ := h.frame ((Fr.refl (fun _ => False) w).alloc o) (fun h => h)
theorem RAny.lt {w : World} {x : Nat} {p : ByteArray} (h : RAny w x p) : x < w.heap.size := by
  obtain ⟨f, iv, ns, g, t, r, e, q, hb, hL, h2⟩ := h
  exact hb.lt
set_option maxHeartbeats 400000 in
theorem ground_any (w : World) : Calls Try.prog 9 #[] w fun e w' => ∃ x, e = .returned (.agg #[.pointer (some ⟨x, 0, none⟩)]) ∧ w.heap.size ≤ x ∧ RAny w' x ⟨#[]⟩ ∧ Fr (fun _ => False) w w' := by
  have hb : Blk (w.alloc (.cells #[.pointer none] 27)) w.heap.size 1 (fun _ => .pointer none) := Blk.new w _ _ _ fun o ho => by
    obtain rfl : o = 0 := by simpa using ho
    rfl
  have k0 := (Fr.refl (fun _ => False) w).alloc (.cells #[.pointer none] 27)
  go_enter Try.func9, Try.ntmps9
  go_wp2_with fail
  refine (newR_any _).mono ?_
  rintro e w1 ⟨rfl, hR, f1⟩
  have hb1 := hb.frame f1 (fun h => h)
  have c0 := hb1.cell (o := 0) (by omega)
  have z0 := hb1.frozen
  have l0 := hb1.lt
  have hs := (hb1.set 0 (.pointer (some ⟨w.heap.size + 1, 0, none⟩))).cell (o := 0) (by omega)
  rw [upd_same] at hs
  simp only [World.size_alloc] at hR ⊢
  have FR := (Fr.refl (fun b => b = w.heap.size) w1).setC w.heap.size 0 (.pointer (some ⟨w.heap.size + 1, 0, none⟩)) (fun _ => rfl)
  have FF := (k0.trans f1 (fun _ _ h => h)).trans FR (fun b hb h => by omega)
  have hR2 := hR.frame FR (by omega)
  go_wp2_with fail
  exact bodyPost_ret (v := .agg #[.pointer (some ⟨w.heap.size + 1, 0, none⟩)]) (by simp [results, Try.results9, go_sem, hs]) rfl ⟨_, rfl, by omega, hR2, FF⟩
def desk0 : Dk := ⟨⟨#[]⟩, ⟨#[]⟩, .slice none 0 0, .slice none 0 0, fun _ => .slice none 0 0, 0⟩
def deskO : Obj := .cells #[.string ⟨#[]⟩, .string ⟨#[]⟩, .slice none 0 0, .slice none 0 0, .slice none 0 0, .slice none 0 0, .slice none 0 0, .slice none 0 0, .int .i64 0] 35
theorem law0 {w3 : World} {lo s x m sp bb : Nat} (hx : SAny w3 s x) (hm : MC w3 m sp 0) (hb : Blk w3 bb 1 (fun _ => .pointer (some ⟨x, 0, none⟩))) (h0 : lo ≤ x) (h1 : x < bb) (h2 : bb < s) (h3 : s + 5 < sp) (h4 : sp < m) (h5 : m < w3.heap.size) : LawInv (w3.alloc deskO) lo s x m sp w3.heap.size bb desk0 [] 0 := by
  have k := (Fr.refl (fun _ => False) w3).alloc deskO
  refine ⟨hx.frame k (fun h => h) (fun _ _ h => h), hm.frame k (fun h => h) (fun h => h), ?_, by show (0 : Nat) ≤ 129; omega, by show (0 : Nat) ≤ 257; omega, .inl ⟨rfl, rfl⟩, .inl ⟨rfl, rfl⟩, by simp, fun i hi => ⟨0, by omega, .inl ⟨rfl, rfl⟩⟩, by omega, fun b hb => by unfold SAt at hb; omega, by omega, hb.frame k (fun h => h), by unfold SAt; omega, by omega, by omega, by omega, by omega, fun b hb => absurd hb (noBlk b), fun b hb => absurd hb (noBlk b), fun i hi b hb => absurd hb (noBlk b), Nat.le_refl _⟩
  refine Blk.new w3 _ _ _ fun o ho => ?_
  rcases (show o = 0 ∨ o = 1 ∨ o = 2 ∨ o = 3 ∨ o = 4 ∨ o = 5 ∨ o = 6 ∨ o = 7 ∨ o = 8 by simp at ho; omega) with rfl | rfl | rfl | rfl | rfl | rfl | rfl | rfl | rfl <;> rfl
set_option maxRecDepth 100000 in
set_option maxHeartbeats 4000000 in
theorem walk_loud {w : World} {a : Option Addr} {n cap : Nat} (hs : ScrAt w a n) :
    Calls Try.prog 16 #[.slice a n cap, .bool false] w fun e w' => (∃ k, e = .returned (.tuple #[.int .i64 (-1), .int .i64 k])) ∧ Fr (fun _ => False) w w' := by
  go_enter Try.func16, Try.ntmps16
  go_wp2_with fail
  refine (ground_any _).mono ?_
  rintro e w1 ⟨x, rfl, hxlo, hrep, f1⟩
  have hxl := hrep.lt
  have hbx : Blk (w1.alloc (.cells #[.pointer (some ⟨x, 0, none⟩)] 27)) w1.heap.size 1 (fun _ => .pointer (some ⟨x, 0, none⟩)) := Blk.new w1 _ _ _ fun o ho => by
    obtain rfl : o = 0 := by simpa using ho
    rfl
  have fx := f1.alloc (.cells #[.pointer (some ⟨x, 0, none⟩)] 27)
  have hrep1 := hrep.alloc27 (.cells #[.pointer (some ⟨x, 0, none⟩)] 27)
  go_wp2_with fail
  refine (new_any hrep1).mono ?_
  rintro e w2 ⟨rfl, hA2, f2⟩
  have hb2 := hbx.frame f2 (fun h => h)
  have hw2 := hA2.lt
  simp only [World.size_alloc] at hA2 hw2
  go_wp2_with fail
  refine (newC_any _).mono ?_
  rintro e w3 ⟨m, rfl, hmlo, hmod, f3⟩
  have fw3 : Fr (fun _ => False) w w3 := (fx.trans f2 (fun _ _ h => h)).trans f3 (fun _ _ h => h)
  have hs1 := f1.size
  have hml := hmod.1.lt
  have hL0 := law0 (lo := w.heap.size) (s := w1.heap.size + 1) (x := x) (m := m) (sp := w2.heap.size) (bb := w1.heap.size) (hA2.frame f3 (fun h => h) (fun _ _ h => h)) hmod (hb2.frame f3 (fun h => h)) (by omega) (by omega) (by omega) (by omega) hmlo hml
  have fw5 : Fr (fun _ => False) w (w3.alloc deskO) := fw3.alloc _
  unfold deskO at hL0 fw5
  go_wp2_with fail
  refine (check_any hL0.real).mono ?_
  rintro e w5 ⟨rfl, f5⟩
  have hL5 := hL0.frame f5
  have fw6 : Fr (fun _ => False) w w5 := fw5.trans f5 (fun _ _ h => h)
  go_wp2_with fail
  go_loopg [10] n (fun g kv wr => ∃ k : Nat, kv = .int .i64 k ∧ k + g = n ∧ k ≤ 4398046511104 ∧ (∃ D ns c, c ≤ k ∧ LawInv wr w.heap.size (w1.heap.size + 1) x m w2.heap.size w3.heap.size w1.heap.size D ns c) ∧ Fr (fun _ => False) w wr)
  case atStart => exact ⟨0, rfl, by omega, by omega, ⟨_, _, 0, Nat.le_refl _, hL5⟩, fw6⟩
  case round =>
    obtain ⟨k, rfl, hkg, hk42, ⟨D, ns, c, hck, hL⟩, hfr⟩ := hrel
    have hkg' : k + gk = n := hkg
    clear hkg
    have Hk42 : Hid _ := hk42
    clear hk42
    have hkb : (k : Int) < 140737488355328 := by have := Hk42.out; omega
    by_cases hlt : k < n
    · by_cases hlt2 : (k : Int) < 4398046511104
      · rcases hs with h0 | ⟨b, off, rfl, hb, hcells⟩
        · exact absurd hlt (by omega)
        obtain ⟨kind, A, B, C, S, T, c0, c1, c2, c3, c4, c5⟩ := hcells k hlt
        rw [← hfr.cell (p := ⟨b, off + k * 6, none⟩) hb (by simp)] at c0
        rw [← hfr.cell (p := ⟨b, off + k * 6 + 1, none⟩) hb (by simp)] at c1
        rw [← hfr.cell (p := ⟨b, off + k * 6 + 2, none⟩) hb (by simp)] at c2
        rw [← hfr.cell (p := ⟨b, off + k * 6 + 3, none⟩) hb (by simp)] at c3
        rw [← hfr.cell (p := ⟨b, off + k * 6 + 4, none⟩) hb (by simp)] at c4
        rw [← hfr.cell (p := ⟨b, off + k * 6 + 5, none⟩) hb (by simp)] at c5
        clear hcells
        have Hck : Hid _ := hck
        clear hck
        have hbx := hL.box
        have bx0 := hbx.cell (o := 0) (by omega)
        have bxl := hbx.lt
        go_wp2_with fail
        refine wp_region_text (by kernel_rfl) (by kernel_rfl) ?_
        go_wp2_with fail
        refine (play_any (hL.frame (Fr.refl (fun _ => False) _).drew) (by have := Hck.out; have := Hk42.out; omega) kind A B C S T).mono ?_
        rintro e w6 ⟨rfl, ⟨D', ns', c', hc', hL'⟩, f6⟩
        go_wp2_with fail
        refine ⟨by kernel_rfl, ?_⟩
        go_wp2_with fail
        refine (check_any hL'.real).mono ?_
        rintro e w7 ⟨rfl, f7⟩
        go_wp2_with fail
        go_roundg (gk - 1)
        case measure => omega
        case rel => exact ⟨k + 1, by simp, by omega, by omega, ⟨D', ns', c', by have := Hck.out; omega, hL'.frame f7⟩, (hfr.drew.trans f6 (fun i hi h => by omega)).trans f7 (fun _ _ h => h)⟩
      · have hk3 : (4398046511104 : Int) ≤ k := Int.not_lt.1 hlt2
        have hn3 : (4398046511104 : Int) ≤ n := Int.le_trans hk3 (by omega)
        have Hlt : Hid _ := hlt
        have Hkg : Hid _ := hkg'
        have hlt' : (k : Int) < n := by omega
        have q1 : decide ((k : Int) < 4398046511104) = false := decide_eq_false (Int.not_lt.2 hk3)
        have q2 : decide ((n : Int) < 4398046511104) = false := decide_eq_false (Int.not_lt.2 hn3)
        clear hlt2 hlt hkg' hk3 hn3
        go_wp2_with fail
        all_goals exact bodyPost_ret (v := .tuple #[.int .i64 (-1), .int .i64 4398046511104]) (by simp [results, Try.results16, go_sem]) rfl ⟨⟨_, rfl⟩, hfr⟩
    · have hkn : k = n := by omega
      by_cases hn2 : (n : Int) < 4398046511104
      · go_wp2_with fail
        exact bodyPost_ret (v := .tuple #[.int .i64 (-1), .int .i64 n]) (by simp [results, Try.results16, go_sem]) rfl ⟨⟨_, rfl⟩, hfr⟩
      · go_wp2_with fail
        exact bodyPost_ret (v := .tuple #[.int .i64 (-1), .int .i64 4398046511104]) (by simp [results, Try.results16, go_sem]) rfl ⟨⟨_, rfl⟩, hfr⟩
set_option maxRecDepth 100000 in
set_option maxHeartbeats 4000000 in
theorem walk_quiet {w : World} {a : Option Addr} {n cap : Nat} (hs : ScrAt w a n) :
    Calls Try.prog 16 #[.slice a n cap, .bool true] w fun e w' => (∃ k, e = .returned (.tuple #[.int .i64 (-1), .int .i64 k])) ∧ Fr (fun _ => False) w w' := by
  go_enter Try.func16, Try.ntmps16
  go_wp2_with fail
  refine (ground_any _).mono ?_
  rintro e w1 ⟨x, rfl, hxlo, hrep, f1⟩
  have hxl := hrep.lt
  have hbx : Blk (w1.alloc (.cells #[.pointer (some ⟨x, 0, none⟩)] 27)) w1.heap.size 1 (fun _ => .pointer (some ⟨x, 0, none⟩)) := Blk.new w1 _ _ _ fun o ho => by
    obtain rfl : o = 0 := by simpa using ho
    rfl
  have fx := f1.alloc (.cells #[.pointer (some ⟨x, 0, none⟩)] 27)
  have hrep1 := hrep.alloc27 (.cells #[.pointer (some ⟨x, 0, none⟩)] 27)
  go_wp2_with fail
  refine (new_any hrep1).mono ?_
  rintro e w2 ⟨rfl, hA2, f2⟩
  have hb2 := hbx.frame f2 (fun h => h)
  have hw2 := hA2.lt
  simp only [World.size_alloc] at hA2 hw2
  go_wp2_with fail
  refine (newC_any _).mono ?_
  rintro e w3 ⟨m, rfl, hmlo, hmod, f3⟩
  have fw3 : Fr (fun _ => False) w w3 := (fx.trans f2 (fun _ _ h => h)).trans f3 (fun _ _ h => h)
  have hs1 := f1.size
  have hml := hmod.1.lt
  have hL0 := law0 (lo := w.heap.size) (s := w1.heap.size + 1) (x := x) (m := m) (sp := w2.heap.size) (bb := w1.heap.size) (hA2.frame f3 (fun h => h) (fun _ _ h => h)) hmod (hb2.frame f3 (fun h => h)) (by omega) (by omega) (by omega) (by omega) hmlo hml
  have fw5 : Fr (fun _ => False) w (w3.alloc deskO) := fw3.alloc _
  unfold deskO at hL0 fw5
  go_wp2_with fail
  go_loopg [10] n (fun g kv wr => ∃ k : Nat, kv = .int .i64 k ∧ k + g = n ∧ k ≤ 4398046511104 ∧ (∃ D ns c, c ≤ k ∧ LawInv wr w.heap.size (w1.heap.size + 1) x m w2.heap.size w3.heap.size w1.heap.size D ns c) ∧ Fr (fun _ => False) w wr)
  case atStart => exact ⟨0, rfl, by omega, by omega, ⟨_, _, 0, Nat.le_refl _, hL0⟩, fw5⟩
  case round =>
    obtain ⟨k, rfl, hkg, hk42, ⟨D, ns, c, hck, hL⟩, hfr⟩ := hrel
    have hkg' : k + gk = n := hkg
    clear hkg
    have Hk42 : Hid _ := hk42
    clear hk42
    have hkb : (k : Int) < 140737488355328 := by have := Hk42.out; omega
    by_cases hlt : k < n
    · by_cases hlt2 : (k : Int) < 4398046511104
      · rcases hs with h0 | ⟨b, off, rfl, hb, hcells⟩
        · exact absurd hlt (by omega)
        obtain ⟨kind, A, B, C, S, T, c0, c1, c2, c3, c4, c5⟩ := hcells k hlt
        rw [← hfr.cell (p := ⟨b, off + k * 6, none⟩) hb (by simp)] at c0
        rw [← hfr.cell (p := ⟨b, off + k * 6 + 1, none⟩) hb (by simp)] at c1
        rw [← hfr.cell (p := ⟨b, off + k * 6 + 2, none⟩) hb (by simp)] at c2
        rw [← hfr.cell (p := ⟨b, off + k * 6 + 3, none⟩) hb (by simp)] at c3
        rw [← hfr.cell (p := ⟨b, off + k * 6 + 4, none⟩) hb (by simp)] at c4
        rw [← hfr.cell (p := ⟨b, off + k * 6 + 5, none⟩) hb (by simp)] at c5
        clear hcells
        have Hck : Hid _ := hck
        clear hck
        have hbx := hL.box
        have bx0 := hbx.cell (o := 0) (by omega)
        have bxl := hbx.lt
        go_wp2_with fail
        refine wp_region_text (by kernel_rfl) (by kernel_rfl) ?_
        go_wp2_with fail
        refine (play_any (hL.frame (Fr.refl (fun _ => False) _).drew) (by have := Hck.out; have := Hk42.out; omega) kind A B C S T).mono ?_
        rintro e w6 ⟨rfl, ⟨D', ns', c', hc', hL'⟩, f6⟩
        go_wp2_with fail
        refine ⟨by kernel_rfl, ?_⟩
        go_wp2_with fail
        go_roundg (gk - 1)
        case measure => omega
        case rel => exact ⟨k + 1, by simp, by omega, by omega, ⟨D', ns', c', by have := Hck.out; omega, hL'⟩, hfr.drew.trans f6 (fun i hi h => by omega)⟩
      · have hk3 : (4398046511104 : Int) ≤ k := Int.not_lt.1 hlt2
        have hn3 : (4398046511104 : Int) ≤ n := Int.le_trans hk3 (by omega)
        have Hlt : Hid _ := hlt
        have Hkg : Hid _ := hkg'
        have hlt' : (k : Int) < n := by omega
        have q1 : decide ((k : Int) < 4398046511104) = false := decide_eq_false (Int.not_lt.2 hk3)
        have q2 : decide ((n : Int) < 4398046511104) = false := decide_eq_false (Int.not_lt.2 hn3)
        clear hlt2 hlt hkg' hk3 hn3
        go_wp2_with fail
        all_goals exact bodyPost_ret (v := .tuple #[.int .i64 (-1), .int .i64 4398046511104]) (by simp [results, Try.results16, go_sem]) rfl ⟨⟨_, rfl⟩, hfr⟩
    · have hkn : k = n := by omega
      by_cases hn2 : (n : Int) < 4398046511104
      · go_wp2_with fail
        exact bodyPost_ret (v := .tuple #[.int .i64 (-1), .int .i64 n]) (by simp [results, Try.results16, go_sem]) rfl ⟨⟨_, rfl⟩, hfr⟩
      · go_wp2_with fail
        exact bodyPost_ret (v := .tuple #[.int .i64 (-1), .int .i64 4398046511104]) (by simp [results, Try.results16, go_sem]) rfl ⟨⟨_, rfl⟩, hfr⟩
set_option maxHeartbeats 400000 in
theorem upTo_any {w : World} {a : Option Addr} {n cap : Nat} (hs : ScrAt w a n) :
    Calls Try.prog 7 #[.slice a n cap] w fun e w' => e = .returned (.int .i64 (-1)) ∧ Fr (fun _ => False) w w' := by
  go_enter Try.func7, Try.ntmps7
  go_wp2_with fail
  refine (walk_loud hs).mono ?_
  rintro e w1 ⟨⟨k, rfl⟩, f1⟩
  go_wp2
  go_ret
  exact ⟨rfl, f1⟩
set_option maxHeartbeats 400000 in
theorem upToQ_any {w : World} {a : Option Addr} {n cap : Nat} (hs : ScrAt w a n) :
    Calls Try.prog 8 #[.slice a n cap] w fun e w' => e = .returned (.int .i64 (-1)) ∧ Fr (fun _ => False) w w' := by
  go_enter Try.func8, Try.ntmps8
  go_wp2_with fail
  refine (walk_quiet hs).mono ?_
  rintro e w1 ⟨⟨k, rfl⟩, f1⟩
  go_wp2
  go_ret
  exact ⟨rfl, f1⟩
set_option maxHeartbeats 400000 in
theorem refines_any {w : World} {a : Option Addr} {n cap : Nat} (hs : ScrAt w a n) :
    Calls Try.prog 4 #[.slice a n cap] w fun e w' => e = .returned (.bool true) ∧ Fr (fun _ => False) w w' := by
  go_enter Try.func4, Try.ntmps4
  go_wp2_with fail
  refine (upTo_any hs).mono ?_
  rintro e w1 ⟨rfl, f1⟩
  go_wp2
  go_ret
  exact ⟨rfl, f1⟩
set_option maxHeartbeats 400000 in
theorem quiet_any {w : World} {a : Option Addr} {n cap : Nat} (hs : ScrAt w a n) :
    Calls Try.prog 5 #[.slice a n cap] w fun e w' => e = .returned (.bool true) ∧ Fr (fun _ => False) w w' := by
  go_enter Try.func5, Try.ntmps5
  go_wp2_with fail
  refine (upToQ_any hs).mono ?_
  rintro e w1 ⟨rfl, f1⟩
  go_wp2
  go_ret
  exact ⟨rfl, f1⟩
end Go.Proofs.Qxb6500286a
