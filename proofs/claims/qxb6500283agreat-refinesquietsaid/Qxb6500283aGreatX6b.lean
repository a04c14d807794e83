/- ways: alt, rep. -/
import Derived.Test.Qxb6500283aGreatX5
namespace Go.Proofs.Qxb6500283aGreat
open Go Go.RowKit

section
variable {ns : List Nd} {bk cp : Nat} {y g : Int} {s : ByteArray} {k A B C : Nat} {mn mx na nb cap : Int} {lz : Bool} {st : BSet} {f h : Wf} {w : World} {i : Nat} {c : Cp}
set_option maxRecDepth 100000 in
set_option maxHeartbeats 16000000 in
theorem ways_alt (hN : NPAt w bk ns) (hbl : bk < w.heap.size) (hs : s.size ≤ 256) (hi : i ≤ s.size) (hk24 : (k : Int) < ns.length) (n0 : w.cell? ⟨bk, k * 11, none⟩ = some (.int .i64 5)) (n1 : w.cell? ⟨bk, k * 11 + 1, none⟩ = some (.int .i64 (A : Nat))) (n2 : w.cell? ⟨bk, k * 11 + 2, none⟩ = some (.int .i64 (B : Nat))) (n3 : w.cell? ⟨bk, k * 11 + 3, none⟩ = some (.int .i64 mn)) (n4 : w.cell? ⟨bk, k * 11 + 4, none⟩ = some (.int .i64 mx)) (n5 : w.cell? ⟨bk, k * 11 + 5, none⟩ = some (.int .i64 cap)) (n6 : w.cell? ⟨bk, k * 11 + 6, none⟩ = some (.bool lz)) (n7 : w.cell? ⟨bk, k * 11 + 7, none⟩ = some (.int .u64 (wd st 0 : Nat))) (n8 : w.cell? ⟨bk, k * 11 + 8, none⟩ = some (.int .u64 (wd st 1 : Nat))) (n9 : w.cell? ⟨bk, k * 11 + 9, none⟩ = some (.int .u64 (wd st 2 : Nat))) (n10 : w.cell? ⟨bk, k * 11 + 10, none⟩ = some (.int .u64 (wd st 3 : Nat))) (gf : Good s.size f) (gh : Good s.size h) (hF : WC ns bk cp y g s A f) (hH : WC ns bk cp y g s B h) :
    Calls Tryz.prog 106 #[.agg #[.slice (some ⟨bk, 0, none⟩) ns.length cp, .int .i64 y, .int .i64 g, .int .i64 0, .int .i64 0], .string s, .int .i64 (k : Nat), .int .i64 (i : Nat), capV c] w (WPost w (joinL (f i c) (h i c))) := by
  have f3 := (((Fr.refl (fun _ => False) w).alloc (.cells #[.slice (some ⟨bk, 0, none⟩) ns.length cp, .int .i64 y, .int .i64 g, .int .i64 0, .int .i64 0] 148)).alloc (.cells #[.int .i64 (c 0), .int .i64 (c 1), .int .i64 (c 2), .int .i64 (c 3), .int .i64 (c 4), .int .i64 (c 5), .int .i64 (c 6), .int .i64 (c 7)] 64)).alloc (.cells #[.int .i64 5, .int .i64 (A : Nat), .int .i64 (B : Nat), .int .i64 mn, .int .i64 mx, .int .i64 cap, .bool lz, .int .u64 (wd st 0 : Nat), .int .u64 (wd st 1 : Nat), .int .u64 (wd st 2 : Nat), .int .u64 (wd st 3 : Nat)] 97)
  have hNd := Blk.nd ((w.alloc (.cells #[.slice (some ⟨bk, 0, none⟩) ns.length cp, .int .i64 y, .int .i64 g, .int .i64 0, .int .i64 0] 148)).alloc (.cells #[.int .i64 (c 0), .int .i64 (c 1), .int .i64 (c 2), .int .i64 (c 3), .int .i64 (c 4), .int .i64 (c 5), .int .i64 (c 6), .int .i64 (c 7)] 64)) ⟨5, (A : Nat), (B : Nat), mn, mx, cap, lz, st⟩
  have hTv := ((Blk.tv w (.slice (some ⟨bk, 0, none⟩) ns.length cp) (.int .i64 y) (.int .i64 g) (.int .i64 0) (.int .i64 0)).alloc (.cells #[.int .i64 (c 0), .int .i64 (c 1), .int .i64 (c 2), .int .i64 (c 3), .int .i64 (c 4), .int .i64 (c 5), .int .i64 (c 6), .int .i64 (c 7)] 64)).alloc (.cells #[.int .i64 5, .int .i64 (A : Nat), .int .i64 (B : Nat), .int .i64 mn, .int .i64 mx, .int .i64 cap, .bool lz, .int .u64 (wd st 0 : Nat), .int .u64 (wd st 1 : Nat), .int .u64 (wd st 2 : Nat), .int .u64 (wd st 3 : Nat)] 97)
  have hCp := (Blk.cap (w.alloc (.cells #[.slice (some ⟨bk, 0, none⟩) ns.length cp, .int .i64 y, .int .i64 g, .int .i64 0, .int .i64 0] 148)) c).alloc (.cells #[.int .i64 5, .int .i64 (A : Nat), .int .i64 (B : Nat), .int .i64 mn, .int .i64 mx, .int .i64 cap, .bool lz, .int .u64 (wd st 0 : Nat), .int .u64 (wd st 1 : Nat), .int .u64 (wd st 2 : Nat), .int .u64 (wd st 3 : Nat)] 97)
  simp only [World.size_alloc] at hNd hTv hCp
  have hiI : (i : Int) ≤ s.size := by omega
  have hsI : (s.size : Int) ≤ 256 := by omega
  unfold capV
  have hF4 := hF _ i c (hN.frame f3 (fun h => h)) (by simp only [World.size_alloc]; omega) hi
  unfold capV at hF4
  have HF4 : Hid _ := hF4
  clear hF4
  go_enter Tryz.func106, Tryz.ntmps106
  go_wp2_with fail
  refine Calls.mono HF4.out ?_
  rintro v w5 ⟨av, rfl, hA5, hAo, f5⟩
  have hNd5 := hNd.frame f5 (fun h => h)
  have hTv5 := hTv.frame f5 (fun h => h)
  have hCp5 := hCp.frame f5 (fun h => h)
  have F5 := f3.trans f5 (fun _ _ h => h)
  have hsz5 := f5.size
  simp only [World.size_alloc] at hAo hsz5
  have m2 := hNd5.cell (o := 2) (by omega)
  simp only [ndCell] at m2
  have q0 := hTv5.cell (o := 0) (by omega)
  have q1 := hTv5.cell (o := 1) (by omega)
  have q2 := hTv5.cell (o := 2) (by omega)
  have q3 := hTv5.cell (o := 3) (by omega)
  have q4 := hTv5.cell (o := 4) (by omega)
  simp only [trF5] at q0 q1 q2 q3 q4
  have p0 := hCp5.cell (o := 0) (by omega)
  have p1 := hCp5.cell (o := 1) (by omega)
  have p2 := hCp5.cell (o := 2) (by omega)
  have p3 := hCp5.cell (o := 3) (by omega)
  have p4 := hCp5.cell (o := 4) (by omega)
  have p5 := hCp5.cell (o := 5) (by omega)
  have p6 := hCp5.cell (o := 6) (by omega)
  have p7 := hCp5.cell (o := 7) (by omega)
  simp only [capCell] at p0 p1 p2 p3 p4 p5 p6 p7
  have lNd := hNd5.lt
  have lTv := hTv5.lt
  have lCp := hCp5.lt
  have hB4 := hH _ i c (hN.frame F5 (fun h => h)) (by have := F5.size; omega) hi
  unfold capV at hB4
  have HB4 : Hid _ := hB4
  clear hB4 hNd hTv hCp f3 n0 n1 n2 n3 n4 n5 n6 n7 n8 n9 n10 HF4
  go_wp2_with fail
  refine Calls.mono HB4.out ?_
  rintro v w6 ⟨bv, rfl, hB6, hBo, f6⟩
  have hA6 := hA5.frame f6 (fun _ _ _ _ h => h)
  have F6 := F5.trans f6 (fun _ _ h => h)
  have hsz6 := f6.size
  have lA := gf.lo i c hi
  have lB := gh.lo i c hi
  have hJ := wjoin_any (n := s.size) hA6 hB6 hs (fun x hx => (lA x hx).2) (fun x hx => (lB x hx).2) (gf.nd i c hi) (by have := ways_len (gh.nd i c hi) (fun x hx => (lB x hx).2); omega) (fun q h1 h2 => by have := hA5.lt h1; have := hBo q h2; omega) (fun q h1 => hA6.lt h1) (fun q h2 => hB6.lt h2)
  have HJ : Hid _ := hJ
  clear hJ
  go_wp2_with fail
  refine Calls.mono HJ.out ?_
  rintro v w7 ⟨jv, rfl, hJ7, hJo, f7⟩
  go_wp2_with fail
  go_ret
  exact ⟨_, rfl, hJ7, fun q hq => (hJo q hq).elim (fun h => by omega) (fun h => by have := hAo q h; omega), F6.trans f7 (fun q hq h => by have := hAo q h; omega)⟩
set_option maxRecDepth 100000 in
set_option maxHeartbeats 16000000 in
theorem ways_rep (hN : NPAt w bk ns) (hbl : bk < w.heap.size) (hi : i ≤ s.size) (hk24 : (k : Int) < ns.length) (n0 : w.cell? ⟨bk, k * 11, none⟩ = some (.int .i64 6)) (n1 : w.cell? ⟨bk, k * 11 + 1, none⟩ = some (.int .i64 (A : Nat))) (n2 : w.cell? ⟨bk, k * 11 + 2, none⟩ = some (.int .i64 nb)) (n3 : w.cell? ⟨bk, k * 11 + 3, none⟩ = some (.int .i64 mn)) (n4 : w.cell? ⟨bk, k * 11 + 4, none⟩ = some (.int .i64 mx)) (n5 : w.cell? ⟨bk, k * 11 + 5, none⟩ = some (.int .i64 cap)) (n6 : w.cell? ⟨bk, k * 11 + 6, none⟩ = some (.bool lz)) (n7 : w.cell? ⟨bk, k * 11 + 7, none⟩ = some (.int .u64 (wd st 0 : Nat))) (n8 : w.cell? ⟨bk, k * 11 + 8, none⟩ = some (.int .u64 (wd st 1 : Nat))) (n9 : w.cell? ⟨bk, k * 11 + 9, none⟩ = some (.int .u64 (wd st 2 : Nat))) (n10 : w.cell? ⟨bk, k * 11 + 10, none⟩ = some (.int .u64 (wd st 3 : Nat))) (hT : TC ns bk cp y g s k 0 (fun _ => True) f) :
    Calls Tryz.prog 106 #[.agg #[.slice (some ⟨bk, 0, none⟩) ns.length cp, .int .i64 y, .int .i64 g, .int .i64 0, .int .i64 0], .string s, .int .i64 (k : Nat), .int .i64 (i : Nat), capV c] w (WPost w (f i c)) := by
  have f3 := (((Fr.refl (fun _ => False) w).alloc (.cells #[.slice (some ⟨bk, 0, none⟩) ns.length cp, .int .i64 y, .int .i64 g, .int .i64 0, .int .i64 0] 148)).alloc (.cells #[.int .i64 (c 0), .int .i64 (c 1), .int .i64 (c 2), .int .i64 (c 3), .int .i64 (c 4), .int .i64 (c 5), .int .i64 (c 6), .int .i64 (c 7)] 64)).alloc (.cells #[.int .i64 6, .int .i64 (A : Nat), .int .i64 nb, .int .i64 mn, .int .i64 mx, .int .i64 cap, .bool lz, .int .u64 (wd st 0 : Nat), .int .u64 (wd st 1 : Nat), .int .u64 (wd st 2 : Nat), .int .u64 (wd st 3 : Nat)] 97)
  have hNd := Blk.nd ((w.alloc (.cells #[.slice (some ⟨bk, 0, none⟩) ns.length cp, .int .i64 y, .int .i64 g, .int .i64 0, .int .i64 0] 148)).alloc (.cells #[.int .i64 (c 0), .int .i64 (c 1), .int .i64 (c 2), .int .i64 (c 3), .int .i64 (c 4), .int .i64 (c 5), .int .i64 (c 6), .int .i64 (c 7)] 64)) ⟨6, (A : Nat), nb, mn, mx, cap, lz, st⟩
  have hTv := ((Blk.tv w (.slice (some ⟨bk, 0, none⟩) ns.length cp) (.int .i64 y) (.int .i64 g) (.int .i64 0) (.int .i64 0)).alloc (.cells #[.int .i64 (c 0), .int .i64 (c 1), .int .i64 (c 2), .int .i64 (c 3), .int .i64 (c 4), .int .i64 (c 5), .int .i64 (c 6), .int .i64 (c 7)] 64)).alloc (.cells #[.int .i64 6, .int .i64 (A : Nat), .int .i64 nb, .int .i64 mn, .int .i64 mx, .int .i64 cap, .bool lz, .int .u64 (wd st 0 : Nat), .int .u64 (wd st 1 : Nat), .int .u64 (wd st 2 : Nat), .int .u64 (wd st 3 : Nat)] 97)
  have hCp := (Blk.cap (w.alloc (.cells #[.slice (some ⟨bk, 0, none⟩) ns.length cp, .int .i64 y, .int .i64 g, .int .i64 0, .int .i64 0] 148)) c).alloc (.cells #[.int .i64 6, .int .i64 (A : Nat), .int .i64 nb, .int .i64 mn, .int .i64 mx, .int .i64 cap, .bool lz, .int .u64 (wd st 0 : Nat), .int .u64 (wd st 1 : Nat), .int .u64 (wd st 2 : Nat), .int .u64 (wd st 3 : Nat)] 97)
  simp only [World.size_alloc] at hNd hTv hCp
  have hiI : (i : Int) ≤ s.size := by omega
  unfold capV
  have hF4 := hT _ i c (hN.frame f3 (fun h => h)) (by simp only [World.size_alloc]; omega) hi trivial
  unfold capV at hF4
  have HF4 : Hid _ := hF4
  clear hF4 hNd hTv hCp
  go_enter Tryz.func106, Tryz.ntmps106
  go_wp2_with fail
  refine Calls.mono HF4.out ?_
  rintro v w5 ⟨av, rfl, hA5, hAo, f5⟩
  simp only [World.size_alloc] at hAo
  go_wp2_with fail
  go_ret
  exact ⟨_, rfl, hA5, fun q hq => by have := hAo q hq; omega, f3.trans f5 (fun _ _ h => h)⟩
end
end Go.Proofs.Qxb6500283aGreat
