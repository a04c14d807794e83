/- ways: leaves. -/
import Derived.Test.Qxb6500283aGreatX5
namespace Go.Proofs.Qxb6500283aGreat
open Go Go.RowKit

section
variable {ns : List Nd} {bk cp : Nat} {y g : Int} {s : ByteArray} {k A B C : Nat} {mn mx na nb cap : Int} {lz : Bool} {st : BSet} {f h : Wf} {w : World} {i : Nat} {c : Cp}
set_option maxRecDepth 100000 in
set_option maxHeartbeats 16000000 in
theorem ways_emp (hbl : bk < w.heap.size) (hi : i ≤ s.size) (hk24 : (k : Int) < ns.length) (n0 : w.cell? ⟨bk, k * 11, none⟩ = some (.int .i64 0)) (n1 : w.cell? ⟨bk, k * 11 + 1, none⟩ = some (.int .i64 na)) (n2 : w.cell? ⟨bk, k * 11 + 2, none⟩ = some (.int .i64 nb)) (n3 : w.cell? ⟨bk, k * 11 + 3, none⟩ = some (.int .i64 mn)) (n4 : w.cell? ⟨bk, k * 11 + 4, none⟩ = some (.int .i64 mx)) (n5 : w.cell? ⟨bk, k * 11 + 5, none⟩ = some (.int .i64 cap)) (n6 : w.cell? ⟨bk, k * 11 + 6, none⟩ = some (.bool lz)) (n7 : w.cell? ⟨bk, k * 11 + 7, none⟩ = some (.int .u64 (wd st 0 : Nat))) (n8 : w.cell? ⟨bk, k * 11 + 8, none⟩ = some (.int .u64 (wd st 1 : Nat))) (n9 : w.cell? ⟨bk, k * 11 + 9, none⟩ = some (.int .u64 (wd st 2 : Nat))) (n10 : w.cell? ⟨bk, k * 11 + 10, none⟩ = some (.int .u64 (wd st 3 : Nat)))  :
    Calls Tryz.prog 106 #[.agg #[.slice (some ⟨bk, 0, none⟩) ns.length cp, .int .i64 y, .int .i64 g, .int .i64 0, .int .i64 0], .string s, .int .i64 (k : Nat), .int .i64 (i : Nat), capV c] w (WPost w ([(i, c)])) := by
  have f3 := (((Fr.refl (fun _ => False) w).alloc (.cells #[.slice (some ⟨bk, 0, none⟩) ns.length cp, .int .i64 y, .int .i64 g, .int .i64 0, .int .i64 0] 148)).alloc (.cells #[.int .i64 (c 0), .int .i64 (c 1), .int .i64 (c 2), .int .i64 (c 3), .int .i64 (c 4), .int .i64 (c 5), .int .i64 (c 6), .int .i64 (c 7)] 64)).alloc (.cells #[.int .i64 0, .int .i64 na, .int .i64 nb, .int .i64 mn, .int .i64 mx, .int .i64 cap, .bool lz, .int .u64 (wd st 0 : Nat), .int .u64 (wd st 1 : Nat), .int .u64 (wd st 2 : Nat), .int .u64 (wd st 3 : Nat)] 97)
  have hNd := Blk.nd ((w.alloc (.cells #[.slice (some ⟨bk, 0, none⟩) ns.length cp, .int .i64 y, .int .i64 g, .int .i64 0, .int .i64 0] 148)).alloc (.cells #[.int .i64 (c 0), .int .i64 (c 1), .int .i64 (c 2), .int .i64 (c 3), .int .i64 (c 4), .int .i64 (c 5), .int .i64 (c 6), .int .i64 (c 7)] 64)) ⟨0, na, nb, mn, mx, cap, lz, st⟩
  have hTv := ((Blk.tv w (.slice (some ⟨bk, 0, none⟩) ns.length cp) (.int .i64 y) (.int .i64 g) (.int .i64 0) (.int .i64 0)).alloc (.cells #[.int .i64 (c 0), .int .i64 (c 1), .int .i64 (c 2), .int .i64 (c 3), .int .i64 (c 4), .int .i64 (c 5), .int .i64 (c 6), .int .i64 (c 7)] 64)).alloc (.cells #[.int .i64 0, .int .i64 na, .int .i64 nb, .int .i64 mn, .int .i64 mx, .int .i64 cap, .bool lz, .int .u64 (wd st 0 : Nat), .int .u64 (wd st 1 : Nat), .int .u64 (wd st 2 : Nat), .int .u64 (wd st 3 : Nat)] 97)
  have hCp := (Blk.cap (w.alloc (.cells #[.slice (some ⟨bk, 0, none⟩) ns.length cp, .int .i64 y, .int .i64 g, .int .i64 0, .int .i64 0] 148)) c).alloc (.cells #[.int .i64 0, .int .i64 na, .int .i64 nb, .int .i64 mn, .int .i64 mx, .int .i64 cap, .bool lz, .int .u64 (wd st 0 : Nat), .int .u64 (wd st 1 : Nat), .int .u64 (wd st 2 : Nat), .int .u64 (wd st 3 : Nat)] 97)
  simp only [World.size_alloc] at hNd hTv hCp
  have hiI : (i : Int) ≤ s.size := by omega
  unfold capV
  have hSt := Blk.wy (((w.alloc (.cells #[.slice (some ⟨bk, 0, none⟩) ns.length cp, .int .i64 y, .int .i64 g, .int .i64 0, .int .i64 0] 148)).alloc (.cells #[.int .i64 (c 0), .int .i64 (c 1), .int .i64 (c 2), .int .i64 (c 3), .int .i64 (c 4), .int .i64 (c 5), .int .i64 (c 6), .int .i64 (c 7)] 64)).alloc (.cells #[.int .i64 0, .int .i64 na, .int .i64 nb, .int .i64 mn, .int .i64 mx, .int .i64 cap, .bool lz, .int .u64 (wd st 0 : Nat), .int .u64 (wd st 1 : Nat), .int .u64 (wd st 2 : Nat), .int .u64 (wd st 3 : Nat)] 97)) i c
  simp only [World.size_alloc] at hSt
  clear hNd hTv hCp
  go_enter Tryz.func106, Tryz.ntmps106
  go_wp2_with fail
  go_ret
  exact ⟨_, rfl, WPAt.one0 hSt, fun q ⟨n', c', e⟩ => by cases e; omega, f3.alloc _⟩
set_option maxRecDepth 100000 in
set_option maxHeartbeats 16000000 in
theorem ways_bol (hbl : bk < w.heap.size) (hi : i ≤ s.size) (hk24 : (k : Int) < ns.length) (n0 : w.cell? ⟨bk, k * 11, none⟩ = some (.int .i64 2)) (n1 : w.cell? ⟨bk, k * 11 + 1, none⟩ = some (.int .i64 na)) (n2 : w.cell? ⟨bk, k * 11 + 2, none⟩ = some (.int .i64 nb)) (n3 : w.cell? ⟨bk, k * 11 + 3, none⟩ = some (.int .i64 mn)) (n4 : w.cell? ⟨bk, k * 11 + 4, none⟩ = some (.int .i64 mx)) (n5 : w.cell? ⟨bk, k * 11 + 5, none⟩ = some (.int .i64 cap)) (n6 : w.cell? ⟨bk, k * 11 + 6, none⟩ = some (.bool lz)) (n7 : w.cell? ⟨bk, k * 11 + 7, none⟩ = some (.int .u64 (wd st 0 : Nat))) (n8 : w.cell? ⟨bk, k * 11 + 8, none⟩ = some (.int .u64 (wd st 1 : Nat))) (n9 : w.cell? ⟨bk, k * 11 + 9, none⟩ = some (.int .u64 (wd st 2 : Nat))) (n10 : w.cell? ⟨bk, k * 11 + 10, none⟩ = some (.int .u64 (wd st 3 : Nat)))  :
    Calls Tryz.prog 106 #[.agg #[.slice (some ⟨bk, 0, none⟩) ns.length cp, .int .i64 y, .int .i64 g, .int .i64 0, .int .i64 0], .string s, .int .i64 (k : Nat), .int .i64 (i : Nat), capV c] w (WPost w (if i = 0 then [(i, c)] else [])) := by
  have f3 := (((Fr.refl (fun _ => False) w).alloc (.cells #[.slice (some ⟨bk, 0, none⟩) ns.length cp, .int .i64 y, .int .i64 g, .int .i64 0, .int .i64 0] 148)).alloc (.cells #[.int .i64 (c 0), .int .i64 (c 1), .int .i64 (c 2), .int .i64 (c 3), .int .i64 (c 4), .int .i64 (c 5), .int .i64 (c 6), .int .i64 (c 7)] 64)).alloc (.cells #[.int .i64 2, .int .i64 na, .int .i64 nb, .int .i64 mn, .int .i64 mx, .int .i64 cap, .bool lz, .int .u64 (wd st 0 : Nat), .int .u64 (wd st 1 : Nat), .int .u64 (wd st 2 : Nat), .int .u64 (wd st 3 : Nat)] 97)
  have hNd := Blk.nd ((w.alloc (.cells #[.slice (some ⟨bk, 0, none⟩) ns.length cp, .int .i64 y, .int .i64 g, .int .i64 0, .int .i64 0] 148)).alloc (.cells #[.int .i64 (c 0), .int .i64 (c 1), .int .i64 (c 2), .int .i64 (c 3), .int .i64 (c 4), .int .i64 (c 5), .int .i64 (c 6), .int .i64 (c 7)] 64)) ⟨2, na, nb, mn, mx, cap, lz, st⟩
  have hTv := ((Blk.tv w (.slice (some ⟨bk, 0, none⟩) ns.length cp) (.int .i64 y) (.int .i64 g) (.int .i64 0) (.int .i64 0)).alloc (.cells #[.int .i64 (c 0), .int .i64 (c 1), .int .i64 (c 2), .int .i64 (c 3), .int .i64 (c 4), .int .i64 (c 5), .int .i64 (c 6), .int .i64 (c 7)] 64)).alloc (.cells #[.int .i64 2, .int .i64 na, .int .i64 nb, .int .i64 mn, .int .i64 mx, .int .i64 cap, .bool lz, .int .u64 (wd st 0 : Nat), .int .u64 (wd st 1 : Nat), .int .u64 (wd st 2 : Nat), .int .u64 (wd st 3 : Nat)] 97)
  have hCp := (Blk.cap (w.alloc (.cells #[.slice (some ⟨bk, 0, none⟩) ns.length cp, .int .i64 y, .int .i64 g, .int .i64 0, .int .i64 0] 148)) c).alloc (.cells #[.int .i64 2, .int .i64 na, .int .i64 nb, .int .i64 mn, .int .i64 mx, .int .i64 cap, .bool lz, .int .u64 (wd st 0 : Nat), .int .u64 (wd st 1 : Nat), .int .u64 (wd st 2 : Nat), .int .u64 (wd st 3 : Nat)] 97)
  simp only [World.size_alloc] at hNd hTv hCp
  have hiI : (i : Int) ≤ s.size := by omega
  unfold capV
  by_cases hc : i = 0
  · rw [if_pos hc]
    have hSt := Blk.wy (((w.alloc (.cells #[.slice (some ⟨bk, 0, none⟩) ns.length cp, .int .i64 y, .int .i64 g, .int .i64 0, .int .i64 0] 148)).alloc (.cells #[.int .i64 (c 0), .int .i64 (c 1), .int .i64 (c 2), .int .i64 (c 3), .int .i64 (c 4), .int .i64 (c 5), .int .i64 (c 6), .int .i64 (c 7)] 64)).alloc (.cells #[.int .i64 2, .int .i64 na, .int .i64 nb, .int .i64 mn, .int .i64 mx, .int .i64 cap, .bool lz, .int .u64 (wd st 0 : Nat), .int .u64 (wd st 1 : Nat), .int .u64 (wd st 2 : Nat), .int .u64 (wd st 3 : Nat)] 97)) i c
    simp only [World.size_alloc] at hSt
    clear hNd hTv hCp
    have tt : ((i : Int) == 0) = true := by simp; omega
    have Hc : Hid _ := hc
    clear hc
    go_enter Tryz.func106, Tryz.ntmps106
    go_wp2_with fail
    go_ret
    exact ⟨_, rfl, WPAt.one0 hSt, fun q ⟨n', c', e⟩ => by cases e; omega, f3.alloc _⟩
  · rw [if_neg hc]
    clear hNd hTv hCp
    have tt : ((i : Int) == 0) = false := by simp; omega
    have Hc : Hid _ := hc
    clear hc
    go_enter Tryz.func106, Tryz.ntmps106
    go_wp2_with fail
    go_ret
    exact ⟨_, rfl, .inl ⟨rfl, rfl⟩, fun q ⟨n', c', e⟩ => (by cases e), f3⟩
set_option maxRecDepth 100000 in
set_option maxHeartbeats 16000000 in
theorem ways_eol (hbl : bk < w.heap.size) (hi : i ≤ s.size) (hk24 : (k : Int) < ns.length) (n0 : w.cell? ⟨bk, k * 11, none⟩ = some (.int .i64 3)) (n1 : w.cell? ⟨bk, k * 11 + 1, none⟩ = some (.int .i64 na)) (n2 : w.cell? ⟨bk, k * 11 + 2, none⟩ = some (.int .i64 nb)) (n3 : w.cell? ⟨bk, k * 11 + 3, none⟩ = some (.int .i64 mn)) (n4 : w.cell? ⟨bk, k * 11 + 4, none⟩ = some (.int .i64 mx)) (n5 : w.cell? ⟨bk, k * 11 + 5, none⟩ = some (.int .i64 cap)) (n6 : w.cell? ⟨bk, k * 11 + 6, none⟩ = some (.bool lz)) (n7 : w.cell? ⟨bk, k * 11 + 7, none⟩ = some (.int .u64 (wd st 0 : Nat))) (n8 : w.cell? ⟨bk, k * 11 + 8, none⟩ = some (.int .u64 (wd st 1 : Nat))) (n9 : w.cell? ⟨bk, k * 11 + 9, none⟩ = some (.int .u64 (wd st 2 : Nat))) (n10 : w.cell? ⟨bk, k * 11 + 10, none⟩ = some (.int .u64 (wd st 3 : Nat)))  :
    Calls Tryz.prog 106 #[.agg #[.slice (some ⟨bk, 0, none⟩) ns.length cp, .int .i64 y, .int .i64 g, .int .i64 0, .int .i64 0], .string s, .int .i64 (k : Nat), .int .i64 (i : Nat), capV c] w (WPost w (if i = s.size then [(i, c)] else [])) := by
  have f3 := (((Fr.refl (fun _ => False) w).alloc (.cells #[.slice (some ⟨bk, 0, none⟩) ns.length cp, .int .i64 y, .int .i64 g, .int .i64 0, .int .i64 0] 148)).alloc (.cells #[.int .i64 (c 0), .int .i64 (c 1), .int .i64 (c 2), .int .i64 (c 3), .int .i64 (c 4), .int .i64 (c 5), .int .i64 (c 6), .int .i64 (c 7)] 64)).alloc (.cells #[.int .i64 3, .int .i64 na, .int .i64 nb, .int .i64 mn, .int .i64 mx, .int .i64 cap, .bool lz, .int .u64 (wd st 0 : Nat), .int .u64 (wd st 1 : Nat), .int .u64 (wd st 2 : Nat), .int .u64 (wd st 3 : Nat)] 97)
  have hNd := Blk.nd ((w.alloc (.cells #[.slice (some ⟨bk, 0, none⟩) ns.length cp, .int .i64 y, .int .i64 g, .int .i64 0, .int .i64 0] 148)).alloc (.cells #[.int .i64 (c 0), .int .i64 (c 1), .int .i64 (c 2), .int .i64 (c 3), .int .i64 (c 4), .int .i64 (c 5), .int .i64 (c 6), .int .i64 (c 7)] 64)) ⟨3, na, nb, mn, mx, cap, lz, st⟩
  have hTv := ((Blk.tv w (.slice (some ⟨bk, 0, none⟩) ns.length cp) (.int .i64 y) (.int .i64 g) (.int .i64 0) (.int .i64 0)).alloc (.cells #[.int .i64 (c 0), .int .i64 (c 1), .int .i64 (c 2), .int .i64 (c 3), .int .i64 (c 4), .int .i64 (c 5), .int .i64 (c 6), .int .i64 (c 7)] 64)).alloc (.cells #[.int .i64 3, .int .i64 na, .int .i64 nb, .int .i64 mn, .int .i64 mx, .int .i64 cap, .bool lz, .int .u64 (wd st 0 : Nat), .int .u64 (wd st 1 : Nat), .int .u64 (wd st 2 : Nat), .int .u64 (wd st 3 : Nat)] 97)
  have hCp := (Blk.cap (w.alloc (.cells #[.slice (some ⟨bk, 0, none⟩) ns.length cp, .int .i64 y, .int .i64 g, .int .i64 0, .int .i64 0] 148)) c).alloc (.cells #[.int .i64 3, .int .i64 na, .int .i64 nb, .int .i64 mn, .int .i64 mx, .int .i64 cap, .bool lz, .int .u64 (wd st 0 : Nat), .int .u64 (wd st 1 : Nat), .int .u64 (wd st 2 : Nat), .int .u64 (wd st 3 : Nat)] 97)
  simp only [World.size_alloc] at hNd hTv hCp
  have hiI : (i : Int) ≤ s.size := by omega
  unfold capV
  by_cases hc : i = s.size
  · rw [if_pos hc]
    have hSt := Blk.wy (((w.alloc (.cells #[.slice (some ⟨bk, 0, none⟩) ns.length cp, .int .i64 y, .int .i64 g, .int .i64 0, .int .i64 0] 148)).alloc (.cells #[.int .i64 (c 0), .int .i64 (c 1), .int .i64 (c 2), .int .i64 (c 3), .int .i64 (c 4), .int .i64 (c 5), .int .i64 (c 6), .int .i64 (c 7)] 64)).alloc (.cells #[.int .i64 3, .int .i64 na, .int .i64 nb, .int .i64 mn, .int .i64 mx, .int .i64 cap, .bool lz, .int .u64 (wd st 0 : Nat), .int .u64 (wd st 1 : Nat), .int .u64 (wd st 2 : Nat), .int .u64 (wd st 3 : Nat)] 97)) i c
    simp only [World.size_alloc] at hSt
    clear hNd hTv hCp
    have tt : ((i : Int) == (s.size : Int)) = true := by simp; omega
    have Hc : Hid _ := hc
    clear hc
    go_enter Tryz.func106, Tryz.ntmps106
    go_wp2_with fail
    go_ret
    exact ⟨_, rfl, WPAt.one0 hSt, fun q ⟨n', c', e⟩ => by cases e; omega, f3.alloc _⟩
  · rw [if_neg hc]
    clear hNd hTv hCp
    have tt : ((i : Int) == (s.size : Int)) = false := by simp; omega
    have Hc : Hid _ := hc
    clear hc
    go_enter Tryz.func106, Tryz.ntmps106
    go_wp2_with fail
    go_ret
    exact ⟨_, rfl, .inl ⟨rfl, rfl⟩, fun q ⟨n', c', e⟩ => (by cases e), f3⟩
set_option maxRecDepth 100000 in
set_option maxHeartbeats 16000000 in
theorem ways_set (hbl : bk < w.heap.size) (hs : s.size ≤ 256) (hi : i ≤ s.size) (hk24 : (k : Int) < ns.length) (n0 : w.cell? ⟨bk, k * 11, none⟩ = some (.int .i64 1)) (n1 : w.cell? ⟨bk, k * 11 + 1, none⟩ = some (.int .i64 na)) (n2 : w.cell? ⟨bk, k * 11 + 2, none⟩ = some (.int .i64 nb)) (n3 : w.cell? ⟨bk, k * 11 + 3, none⟩ = some (.int .i64 mn)) (n4 : w.cell? ⟨bk, k * 11 + 4, none⟩ = some (.int .i64 mx)) (n5 : w.cell? ⟨bk, k * 11 + 5, none⟩ = some (.int .i64 cap)) (n6 : w.cell? ⟨bk, k * 11 + 6, none⟩ = some (.bool lz)) (n7 : w.cell? ⟨bk, k * 11 + 7, none⟩ = some (.int .u64 (wd st 0 : Nat))) (n8 : w.cell? ⟨bk, k * 11 + 8, none⟩ = some (.int .u64 (wd st 1 : Nat))) (n9 : w.cell? ⟨bk, k * 11 + 9, none⟩ = some (.int .u64 (wd st 2 : Nat))) (n10 : w.cell? ⟨bk, k * 11 + 10, none⟩ = some (.int .u64 (wd st 3 : Nat)))  :
    Calls Tryz.prog 106 #[.agg #[.slice (some ⟨bk, 0, none⟩) ns.length cp, .int .i64 y, .int .i64 g, .int .i64 0, .int .i64 0], .string s, .int .i64 (k : Nat), .int .i64 (i : Nat), capV c] w (WPost w (if i < s.size ∧ st (bt s i) = true then [(i + 1, c)] else [])) := by
  have f3 := (((Fr.refl (fun _ => False) w).alloc (.cells #[.slice (some ⟨bk, 0, none⟩) ns.length cp, .int .i64 y, .int .i64 g, .int .i64 0, .int .i64 0] 148)).alloc (.cells #[.int .i64 (c 0), .int .i64 (c 1), .int .i64 (c 2), .int .i64 (c 3), .int .i64 (c 4), .int .i64 (c 5), .int .i64 (c 6), .int .i64 (c 7)] 64)).alloc (.cells #[.int .i64 1, .int .i64 na, .int .i64 nb, .int .i64 mn, .int .i64 mx, .int .i64 cap, .bool lz, .int .u64 (wd st 0 : Nat), .int .u64 (wd st 1 : Nat), .int .u64 (wd st 2 : Nat), .int .u64 (wd st 3 : Nat)] 97)
  have hNd := Blk.nd ((w.alloc (.cells #[.slice (some ⟨bk, 0, none⟩) ns.length cp, .int .i64 y, .int .i64 g, .int .i64 0, .int .i64 0] 148)).alloc (.cells #[.int .i64 (c 0), .int .i64 (c 1), .int .i64 (c 2), .int .i64 (c 3), .int .i64 (c 4), .int .i64 (c 5), .int .i64 (c 6), .int .i64 (c 7)] 64)) ⟨1, na, nb, mn, mx, cap, lz, st⟩
  have hTv := ((Blk.tv w (.slice (some ⟨bk, 0, none⟩) ns.length cp) (.int .i64 y) (.int .i64 g) (.int .i64 0) (.int .i64 0)).alloc (.cells #[.int .i64 (c 0), .int .i64 (c 1), .int .i64 (c 2), .int .i64 (c 3), .int .i64 (c 4), .int .i64 (c 5), .int .i64 (c 6), .int .i64 (c 7)] 64)).alloc (.cells #[.int .i64 1, .int .i64 na, .int .i64 nb, .int .i64 mn, .int .i64 mx, .int .i64 cap, .bool lz, .int .u64 (wd st 0 : Nat), .int .u64 (wd st 1 : Nat), .int .u64 (wd st 2 : Nat), .int .u64 (wd st 3 : Nat)] 97)
  have hCp := (Blk.cap (w.alloc (.cells #[.slice (some ⟨bk, 0, none⟩) ns.length cp, .int .i64 y, .int .i64 g, .int .i64 0, .int .i64 0] 148)) c).alloc (.cells #[.int .i64 1, .int .i64 na, .int .i64 nb, .int .i64 mn, .int .i64 mx, .int .i64 cap, .bool lz, .int .u64 (wd st 0 : Nat), .int .u64 (wd st 1 : Nat), .int .u64 (wd st 2 : Nat), .int .u64 (wd st 3 : Nat)] 97)
  simp only [World.size_alloc] at hNd hTv hCp
  have hiI : (i : Int) ≤ s.size := by omega
  have hsI : (s.size : Int) ≤ 256 := by omega
  unfold capV
  obtain ⟨l, Hl⟩ : ∃ l : List Wy, Hid (l = if i < s.size ∧ st (bt s i) = true then [(i + 1, c)] else []) := ⟨_, rfl⟩
  rw [← Hl.out]
  by_cases hlt : i < s.size
  · have hlI : decide ((i : Int) < s.size) = true := decide_eq_true (by omega)
    have hlt' : (i : Int) < s.size := by omega
    have hb : bt s i = s[i].toNat := by unfold bt; rw [dif_pos hlt]
    have hH := has_any st (bt s i) (bt_lt s i) (((w.alloc (.cells #[.slice (some ⟨bk, 0, none⟩) ns.length cp, .int .i64 y, .int .i64 g, .int .i64 0, .int .i64 0] 148)).alloc (.cells #[.int .i64 (c 0), .int .i64 (c 1), .int .i64 (c 2), .int .i64 (c 3), .int .i64 (c 4), .int .i64 (c 5), .int .i64 (c 6), .int .i64 (c 7)] 64)).alloc (.cells #[.int .i64 1, .int .i64 na, .int .i64 nb, .int .i64 mn, .int .i64 mx, .int .i64 cap, .bool lz, .int .u64 (wd st 0 : Nat), .int .u64 (wd st 1 : Nat), .int .u64 (wd st 2 : Nat), .int .u64 (wd st 3 : Nat)] 97)).drew
    unfold setV at hH
    rw [hb] at hH
    have HH : Hid _ := hH
    have Hb : Hid _ := hb
    clear hH hb
    have n7' := hNd.cell (o := 7) (by omega)
    have n8' := hNd.cell (o := 8) (by omega)
    have n9' := hNd.cell (o := 9) (by omega)
    have n10' := hNd.cell (o := 10) (by omega)
    simp only [ndCell] at n7' n8' n9' n10'
    go_enter Tryz.func106, Tryz.ntmps106
    go_wp2_with fail
    refine wp_region_text (by kernel_rfl) (by kernel_rfl) ?_
    go_wp2_with fail
    refine Calls.mono HH.out ?_
    rintro v w5 ⟨rfl, f5⟩
    have f5d := ((Fr.refl (fun _ => False) (((w.alloc (.cells #[.slice (some ⟨bk, 0, none⟩) ns.length cp, .int .i64 y, .int .i64 g, .int .i64 0, .int .i64 0] 148)).alloc (.cells #[.int .i64 (c 0), .int .i64 (c 1), .int .i64 (c 2), .int .i64 (c 3), .int .i64 (c 4), .int .i64 (c 5), .int .i64 (c 6), .int .i64 (c 7)] 64)).alloc (.cells #[.int .i64 1, .int .i64 na, .int .i64 nb, .int .i64 mn, .int .i64 mx, .int .i64 cap, .bool lz, .int .u64 (wd st 0 : Nat), .int .u64 (wd st 1 : Nat), .int .u64 (wd st 2 : Nat), .int .u64 (wd st 3 : Nat)] 97))).drew).trans f5 (fun _ _ h => h)
    have hCp5 := hCp.frame f5d (fun h => h)
    have lC := hCp5.lt
    have F5 := f3.trans f5d (fun _ _ h => h)
    have hsz := f5d.size
    simp only [World.size_alloc] at hsz
    have p0 := hCp5.cell (o := 0) (by omega)
    have p1 := hCp5.cell (o := 1) (by omega)
    have p2 := hCp5.cell (o := 2) (by omega)
    have p3 := hCp5.cell (o := 3) (by omega)
    have p4 := hCp5.cell (o := 4) (by omega)
    have p5 := hCp5.cell (o := 5) (by omega)
    have p6 := hCp5.cell (o := 6) (by omega)
    have p7 := hCp5.cell (o := 7) (by omega)
    simp only [capCell] at p0 p1 p2 p3 p4 p5 p6 p7
    have hSt := Blk.wy w5 (i + 1) c
    cases hq : st (s[i].toNat) with
    | true =>
      have Hq : Hid (i < s.size ∧ st (bt s i) = true) := ⟨hlt, by rw [Hb.out]; exact hq⟩
      clear hq
      go_wp2_with fail
      refine ⟨by kernel_rfl, ?_⟩
      go_wp2_with fail
      go_ret
      obtain rfl : l = [(i + 1, c)] := by rw [Hl.out, if_pos Hq.out]
      exact ⟨_, rfl, WPAt.one0 hSt, fun q ⟨n', c', e⟩ => by cases e; omega, F5.alloc _⟩
    | false =>
      have Hq : Hid (¬ (i < s.size ∧ st (bt s i) = true)) := fun h => by have := h.2; rw [Hb.out, hq] at this; cases this
      clear hq
      go_wp2_with fail
      refine ⟨by kernel_rfl, ?_⟩
      go_wp2_with fail
      go_ret
      obtain rfl : l = [] := by rw [Hl.out, if_neg Hq.out]
      exact ⟨_, rfl, .inl ⟨rfl, rfl⟩, fun q ⟨n', c', e⟩ => (by cases e), F5⟩
  · obtain rfl : l = [] := by rw [Hl.out, if_neg (fun h => hlt h.1)]
    clear Hl
    have hlI : decide ((i : Int) < s.size) = false := decide_eq_false (by omega)
    have hlN : decide (i < s.size) = false := decide_eq_false hlt
    have Hlt : Hid _ := hlt
    clear hNd hTv hCp hlt
    go_enter Tryz.func106, Tryz.ntmps106
    go_wp2_with fail
    go_ret
    exact ⟨_, rfl, .inl ⟨rfl, rfl⟩, fun q ⟨n', c', e⟩ => (by cases e), f3⟩
end
end Go.Proofs.Qxb6500283aGreat
