/- turns. -/
import Derived.Test.Qxb6500283aGreatX3
import Derived.Test.Qxb6500283aGreatT3
namespace Go.Proofs.Qxb6500283aGreat
open Go Go.RowKit

def WPost (w : World) (l : List Wy) (e : Ending) (w' : World) : Prop := ∃ v, e = .returned v ∧ WysAt w' v l ∧ (∀ q, slB v q → w.heap.size ≤ q) ∧ Fr (fun _ => False) w w'
/-- What ways answers at node k. -/
def WC (ns : List Nd) (bk cp : Nat) (y g : Int) (s : ByteArray) (k : Nat) (f : Wf) : Prop := ∀ (w : World) (i : Nat) (c : Cp), NPAt w bk ns → bk < w.heap.size → i ≤ s.size → Calls Tryz.prog 106 #[.agg #[.slice (some ⟨bk, 0, none⟩) ns.length cp, .int .i64 y, .int .i64 g, .int .i64 0, .int .i64 0], .string s, .int .i64 (k : Nat), .int .i64 (i : Nat), capV c] w (WPost w (f i c))
/-- What turns answers at node k behind count turns, at the places of P. -/
def TC (ns : List Nd) (bk cp : Nat) (y g : Int) (s : ByteArray) (k count : Nat) (P : Nat → Prop) (f : Wf) : Prop := ∀ (w : World) (i : Nat) (c : Cp), NPAt w bk ns → bk < w.heap.size → i ≤ s.size → P i → Calls Tryz.prog 137 #[.agg #[.slice (some ⟨bk, 0, none⟩) ns.length cp, .int .i64 y, .int .i64 g, .int .i64 0, .int .i64 0], .string s, .int .i64 (k : Nat), .int .i64 (count : Nat), .int .i64 (i : Nat), capV c] w (WPost w (f i c))
theorem WysAt.lt {w : World} {v : Value} {l : List Wy} (h : WysAt w v l) {q : Nat} (hq : slB v q) : q < w.heap.size := by
  obtain ⟨n, c, e⟩ := hq
  rcases h with ⟨rfl, _⟩ | ⟨b, cap, f, rfl, _, hb, _⟩
  · cases e
  · cases e; exact hb.lt
theorem joinAll_next {l : List Wy} {g : Wy → List Wy} {k : Nat} (h : k < l.length) : joinAll (l.take (k + 1)) g = joinL (joinAll (l.take k) g) (g l[k]) := by
  unfold joinAll
  rw [take_next h, List.foldl_append]
  rfl
theorem WPAt.one0 {w : World} {b : Nat} {x : Wy} (hb : Blk w b 9 (wyCell x)) : WysAt w (.slice (some ⟨b, 0, none⟩) 1 1) [x] :=
  .inr ⟨b, 1, wyCell x, rfl, by simp, hb, fun i hi j hj => by
    obtain rfl : i = 0 := by simpa using hi
    simp⟩
theorem Blk.wy (w : World) (i : Nat) (c : Cp) : Blk (w.alloc (.cells #[.int .i64 (i : Nat), .int .i64 (c 0), .int .i64 (c 1), .int .i64 (c 2), .int .i64 (c 3), .int .i64 (c 4), .int .i64 (c 5), .int .i64 (c 6), .int .i64 (c 7)] 200)) w.heap.size 9 (wyCell (i, c)) :=
  Blk.new w _ _ _ fun o ho => by
    rcases lt9 (show o < 9 by simpa using ho) with rfl | rfl | rfl | rfl | rfl | rfl | rfl | rfl | rfl <;> rfl
def capCell (c : Cp) (j : Nat) : Value := .int .i64 (c j)
theorem Blk.cap (w : World) (c : Cp) : Blk (w.alloc (.cells #[.int .i64 (c 0), .int .i64 (c 1), .int .i64 (c 2), .int .i64 (c 3), .int .i64 (c 4), .int .i64 (c 5), .int .i64 (c 6), .int .i64 (c 7)] 64)) w.heap.size 8 (capCell c) :=
  Blk.new w _ _ _ fun o ho => by
    obtain rfl | rfl | rfl | rfl | rfl | rfl | rfl | rfl : o = 0 ∨ o = 1 ∨ o = 2 ∨ o = 3 ∨ o = 4 ∨ o = 5 ∨ o = 6 ∨ o = 7 := by simp at ho; omega
    all_goals rfl
def trF5 (v0 v1 v2 v3 v4 : Value) (j : Nat) : Value := match j with | 0 => v0 | 1 => v1 | 2 => v2 | 3 => v3 | _ => v4
theorem Blk.tv (w : World) (v0 v1 v2 v3 v4 : Value) : Blk (w.alloc (.cells #[v0, v1, v2, v3, v4] 148)) w.heap.size 5 (trF5 v0 v1 v2 v3 v4) :=
  Blk.new w _ _ _ fun o ho => by
    obtain rfl | rfl | rfl | rfl | rfl : o = 0 ∨ o = 1 ∨ o = 2 ∨ o = 3 ∨ o = 4 := by simp at ho; omega
    all_goals rfl
theorem filter_next {l : List Wy} {g : Wy → List Wy} {i k : Nat} (h : k < l.length) (hb : i < l[k].1) : joinAll ((l.take (k + 1)).filter (fun w => decide (i < w.1))) g = joinL (joinAll ((l.take k).filter (fun w => decide (i < w.1))) g) (g l[k]) := by
  unfold joinAll
  rw [take_next h, List.filter_append, List.foldl_append]
  simp [hb]
theorem filter_skip {l : List Wy} {g : Wy → List Wy} {i k : Nat} (h : k < l.length) (hb : ¬ i < l[k].1) : joinAll ((l.take (k + 1)).filter (fun w => decide (i < w.1))) g = joinAll ((l.take k).filter (fun w => decide (i < w.1))) g := by
  rw [take_next h, List.filter_append]
  simp [hb]
section
variable {ns : List Nd} {bk cp : Nat} {y g : Int} {s : ByteArray} {k A mn count : Nat} {mx nb cap : Int} {lz : Bool} {st : BSet} {f h : Wf} {w : World} {i : Nat} {c : Cp}
set_option maxRecDepth 100000 in
set_option maxHeartbeats 16000000 in
theorem turn_stop (hbl : bk < w.heap.size) (hs : s.size ≤ 256) (hi : i ≤ s.size) (hk24 : (k : Int) < ns.length) (n0 : w.cell? ⟨bk, k * 11, none⟩ = some (.int .i64 6)) (n1 : w.cell? ⟨bk, k * 11 + 1, none⟩ = some (.int .i64 (A : Nat))) (n2 : w.cell? ⟨bk, k * 11 + 2, none⟩ = some (.int .i64 nb)) (n3 : w.cell? ⟨bk, k * 11 + 3, none⟩ = some (.int .i64 (mn : Nat))) (n4 : w.cell? ⟨bk, k * 11 + 4, none⟩ = some (.int .i64 mx)) (n5 : w.cell? ⟨bk, k * 11 + 5, none⟩ = some (.int .i64 cap)) (n6 : w.cell? ⟨bk, k * 11 + 6, none⟩ = some (.bool lz)) (n7 : w.cell? ⟨bk, k * 11 + 7, none⟩ = some (.int .u64 (wd st 0 : Nat))) (n8 : w.cell? ⟨bk, k * 11 + 8, none⟩ = some (.int .u64 (wd st 1 : Nat))) (n9 : w.cell? ⟨bk, k * 11 + 9, none⟩ = some (.int .u64 (wd st 2 : Nat))) (n10 : w.cell? ⟨bk, k * 11 + 10, none⟩ = some (.int .u64 (wd st 3 : Nat))) (hmn : mn ≤ 3) (hct : count ≤ 3) (c1 : mn ≤ count) (c2 : 0 ≤ mx) (c3 : mx ≤ (count : Int)) :
    Calls Tryz.prog 137 #[.agg #[.slice (some ⟨bk, 0, none⟩) ns.length cp, .int .i64 y, .int .i64 g, .int .i64 0, .int .i64 0], .string s, .int .i64 (k : Nat), .int .i64 (count : Nat), .int .i64 (i : Nat), capV c] w (WPost w ([(i, c)])) := by
  have f4 := ((((Fr.refl (fun _ => False) w).alloc (.cells #[.slice (some ⟨bk, 0, none⟩) ns.length cp, .int .i64 y, .int .i64 g, .int .i64 0, .int .i64 0] 148)).alloc (.cells #[.int .i64 (c 0), .int .i64 (c 1), .int .i64 (c 2), .int .i64 (c 3), .int .i64 (c 4), .int .i64 (c 5), .int .i64 (c 6), .int .i64 (c 7)] 64)).alloc (.cells #[.int .i64 6, .int .i64 (A : Nat), .int .i64 nb, .int .i64 (mn : Nat), .int .i64 mx, .int .i64 cap, .bool lz, .int .u64 (wd st 0 : Nat), .int .u64 (wd st 1 : Nat), .int .u64 (wd st 2 : Nat), .int .u64 (wd st 3 : Nat)] 97)).alloc (.cells #[.int .i64 (i : Nat), .int .i64 (c 0), .int .i64 (c 1), .int .i64 (c 2), .int .i64 (c 3), .int .i64 (c 4), .int .i64 (c 5), .int .i64 (c 6), .int .i64 (c 7)] 200)
  have hSt := Blk.wy (((w.alloc (.cells #[.slice (some ⟨bk, 0, none⟩) ns.length cp, .int .i64 y, .int .i64 g, .int .i64 0, .int .i64 0] 148)).alloc (.cells #[.int .i64 (c 0), .int .i64 (c 1), .int .i64 (c 2), .int .i64 (c 3), .int .i64 (c 4), .int .i64 (c 5), .int .i64 (c 6), .int .i64 (c 7)] 64)).alloc (.cells #[.int .i64 6, .int .i64 (A : Nat), .int .i64 nb, .int .i64 (mn : Nat), .int .i64 mx, .int .i64 cap, .bool lz, .int .u64 (wd st 0 : Nat), .int .u64 (wd st 1 : Nat), .int .u64 (wd st 2 : Nat), .int .u64 (wd st 3 : Nat)] 97)) i c
  have hNd := (Blk.nd ((w.alloc (.cells #[.slice (some ⟨bk, 0, none⟩) ns.length cp, .int .i64 y, .int .i64 g, .int .i64 0, .int .i64 0] 148)).alloc (.cells #[.int .i64 (c 0), .int .i64 (c 1), .int .i64 (c 2), .int .i64 (c 3), .int .i64 (c 4), .int .i64 (c 5), .int .i64 (c 6), .int .i64 (c 7)] 64)) ⟨6, (A : Nat), nb, (mn : Nat), mx, cap, lz, st⟩).alloc (.cells #[.int .i64 (i : Nat), .int .i64 (c 0), .int .i64 (c 1), .int .i64 (c 2), .int .i64 (c 3), .int .i64 (c 4), .int .i64 (c 5), .int .i64 (c 6), .int .i64 (c 7)] 200)
  have hTv := (((Blk.tv w (.slice (some ⟨bk, 0, none⟩) ns.length cp) (.int .i64 y) (.int .i64 g) (.int .i64 0) (.int .i64 0)).alloc (.cells #[.int .i64 (c 0), .int .i64 (c 1), .int .i64 (c 2), .int .i64 (c 3), .int .i64 (c 4), .int .i64 (c 5), .int .i64 (c 6), .int .i64 (c 7)] 64)).alloc (.cells #[.int .i64 6, .int .i64 (A : Nat), .int .i64 nb, .int .i64 (mn : Nat), .int .i64 mx, .int .i64 cap, .bool lz, .int .u64 (wd st 0 : Nat), .int .u64 (wd st 1 : Nat), .int .u64 (wd st 2 : Nat), .int .u64 (wd st 3 : Nat)] 97)).alloc (.cells #[.int .i64 (i : Nat), .int .i64 (c 0), .int .i64 (c 1), .int .i64 (c 2), .int .i64 (c 3), .int .i64 (c 4), .int .i64 (c 5), .int .i64 (c 6), .int .i64 (c 7)] 200)
  simp only [World.size_alloc] at hSt hNd hTv
  have hiI : (i : Int) ≤ s.size := by omega
  have hsI : (s.size : Int) ≤ 256 := by omega
  have hmI : (mn : Int) ≤ 3 := by omega
  have hcI : (count : Int) ≤ 3 := by omega
  unfold capV
  have t1 : decide ((count : Int) ≥ mn) = true := decide_eq_true (by omega)
  have t1n : decide (mn ≤ count) = true := decide_eq_true (by omega)
  have t2 : decide (mx ≥ 0) = true := decide_eq_true c2
  have t2n : decide (0 ≤ mx) = true := decide_eq_true c2
  have t3 : decide ((count : Int) ≥ mx) = true := decide_eq_true c3
  have t3n : decide (mx ≤ (count : Int)) = true := decide_eq_true c3
  clear c1 c2 c3
  go_enter Tryz.func137, Tryz.ntmps137
  go_wp2_with fail
  go_ret
  exact ⟨_, rfl, WPAt.one0 hSt, fun q ⟨n', c', e⟩ => by cases e; omega, f4⟩
set_option maxRecDepth 100000 in
set_option maxHeartbeats 16000000 in
theorem turn_must (hN : NPAt w bk ns) (hbl : bk < w.heap.size) (hs : s.size ≤ 256) (hi : i ≤ s.size) (hk24 : (k : Int) < ns.length) (n0 : w.cell? ⟨bk, k * 11, none⟩ = some (.int .i64 6)) (n1 : w.cell? ⟨bk, k * 11 + 1, none⟩ = some (.int .i64 (A : Nat))) (n2 : w.cell? ⟨bk, k * 11 + 2, none⟩ = some (.int .i64 nb)) (n3 : w.cell? ⟨bk, k * 11 + 3, none⟩ = some (.int .i64 (mn : Nat))) (n4 : w.cell? ⟨bk, k * 11 + 4, none⟩ = some (.int .i64 mx)) (n5 : w.cell? ⟨bk, k * 11 + 5, none⟩ = some (.int .i64 cap)) (n6 : w.cell? ⟨bk, k * 11 + 6, none⟩ = some (.bool lz)) (n7 : w.cell? ⟨bk, k * 11 + 7, none⟩ = some (.int .u64 (wd st 0 : Nat))) (n8 : w.cell? ⟨bk, k * 11 + 8, none⟩ = some (.int .u64 (wd st 1 : Nat))) (n9 : w.cell? ⟨bk, k * 11 + 9, none⟩ = some (.int .u64 (wd st 2 : Nat))) (n10 : w.cell? ⟨bk, k * 11 + 10, none⟩ = some (.int .u64 (wd st 3 : Nat))) (hmn : mn ≤ 3) (hct : count ≤ 3) (c1 : count < mn) (gf : Good s.size f) (gh : Good s.size h) (hF : WC ns bk cp y g s A f) (hH : TC ns bk cp y g s k (count + 1) (fun _ => True) h) :
    Calls Tryz.prog 137 #[.agg #[.slice (some ⟨bk, 0, none⟩) ns.length cp, .int .i64 y, .int .i64 g, .int .i64 0, .int .i64 0], .string s, .int .i64 (k : Nat), .int .i64 (count : Nat), .int .i64 (i : Nat), capV c] w (WPost w (joinAll (f i c) (fun w => h w.1 w.2))) := by
  have f4 := ((((Fr.refl (fun _ => False) w).alloc (.cells #[.slice (some ⟨bk, 0, none⟩) ns.length cp, .int .i64 y, .int .i64 g, .int .i64 0, .int .i64 0] 148)).alloc (.cells #[.int .i64 (c 0), .int .i64 (c 1), .int .i64 (c 2), .int .i64 (c 3), .int .i64 (c 4), .int .i64 (c 5), .int .i64 (c 6), .int .i64 (c 7)] 64)).alloc (.cells #[.int .i64 6, .int .i64 (A : Nat), .int .i64 nb, .int .i64 (mn : Nat), .int .i64 mx, .int .i64 cap, .bool lz, .int .u64 (wd st 0 : Nat), .int .u64 (wd st 1 : Nat), .int .u64 (wd st 2 : Nat), .int .u64 (wd st 3 : Nat)] 97)).alloc (.cells #[.int .i64 (i : Nat), .int .i64 (c 0), .int .i64 (c 1), .int .i64 (c 2), .int .i64 (c 3), .int .i64 (c 4), .int .i64 (c 5), .int .i64 (c 6), .int .i64 (c 7)] 200)
  have hSt := Blk.wy (((w.alloc (.cells #[.slice (some ⟨bk, 0, none⟩) ns.length cp, .int .i64 y, .int .i64 g, .int .i64 0, .int .i64 0] 148)).alloc (.cells #[.int .i64 (c 0), .int .i64 (c 1), .int .i64 (c 2), .int .i64 (c 3), .int .i64 (c 4), .int .i64 (c 5), .int .i64 (c 6), .int .i64 (c 7)] 64)).alloc (.cells #[.int .i64 6, .int .i64 (A : Nat), .int .i64 nb, .int .i64 (mn : Nat), .int .i64 mx, .int .i64 cap, .bool lz, .int .u64 (wd st 0 : Nat), .int .u64 (wd st 1 : Nat), .int .u64 (wd st 2 : Nat), .int .u64 (wd st 3 : Nat)] 97)) i c
  have hNd := (Blk.nd ((w.alloc (.cells #[.slice (some ⟨bk, 0, none⟩) ns.length cp, .int .i64 y, .int .i64 g, .int .i64 0, .int .i64 0] 148)).alloc (.cells #[.int .i64 (c 0), .int .i64 (c 1), .int .i64 (c 2), .int .i64 (c 3), .int .i64 (c 4), .int .i64 (c 5), .int .i64 (c 6), .int .i64 (c 7)] 64)) ⟨6, (A : Nat), nb, (mn : Nat), mx, cap, lz, st⟩).alloc (.cells #[.int .i64 (i : Nat), .int .i64 (c 0), .int .i64 (c 1), .int .i64 (c 2), .int .i64 (c 3), .int .i64 (c 4), .int .i64 (c 5), .int .i64 (c 6), .int .i64 (c 7)] 200)
  have hTv := (((Blk.tv w (.slice (some ⟨bk, 0, none⟩) ns.length cp) (.int .i64 y) (.int .i64 g) (.int .i64 0) (.int .i64 0)).alloc (.cells #[.int .i64 (c 0), .int .i64 (c 1), .int .i64 (c 2), .int .i64 (c 3), .int .i64 (c 4), .int .i64 (c 5), .int .i64 (c 6), .int .i64 (c 7)] 64)).alloc (.cells #[.int .i64 6, .int .i64 (A : Nat), .int .i64 nb, .int .i64 (mn : Nat), .int .i64 mx, .int .i64 cap, .bool lz, .int .u64 (wd st 0 : Nat), .int .u64 (wd st 1 : Nat), .int .u64 (wd st 2 : Nat), .int .u64 (wd st 3 : Nat)] 97)).alloc (.cells #[.int .i64 (i : Nat), .int .i64 (c 0), .int .i64 (c 1), .int .i64 (c 2), .int .i64 (c 3), .int .i64 (c 4), .int .i64 (c 5), .int .i64 (c 6), .int .i64 (c 7)] 200)
  simp only [World.size_alloc] at hSt hNd hTv
  have hiI : (i : Int) ≤ s.size := by omega
  have hsI : (s.size : Int) ≤ 256 := by omega
  have hmI : (mn : Int) ≤ 3 := by omega
  have hcI : (count : Int) ≤ 3 := by omega
  unfold capV
  have t1 : decide ((count : Int) ≥ mn) = false := decide_eq_false (by omega)
  have t1n : decide (mn ≤ count) = false := decide_eq_false (by omega)
  have t4 : decide ((count : Int) < mn) = true := decide_eq_true (by omega)
  have t4n : decide (count < mn) = true := decide_eq_true (by omega)
  have HC : Hid _ := c1
  clear c1
  have hF4 := hF _ i c (hN.frame f4 (fun h => h)) (by simp only [World.size_alloc]; omega) hi
  unfold capV at hF4
  have HF4 : Hid _ := hF4
  clear hF4
  go_enter Tryz.func137, Tryz.ntmps137
  go_wp2_with fail
  refine Calls.mono HF4.out ?_
  rintro v w5 ⟨av, rfl, hA5, hAo, f5⟩
  have hSt5 := hSt.frame f5 (fun h => h)
  have hNd5 := hNd.frame f5 (fun h => h)
  have hTv5 := hTv.frame f5 (fun h => h)
  have F5 := f4.trans f5 (fun _ _ h => h)
  have hsz5 := f5.size
  simp only [World.size_alloc] at hAo hsz5
  have lo := gf.lo i c hi
  have nd := gf.nd i c hi
  have hlen := ways_len nd (fun x hx => (lo x hx).2)
  obtain ⟨aa, ac, rfl, hA⟩ := hA5.sl
  clear hSt hNd hTv f4 f5 n0 n1 n2 n3 n4 n5 n6 n7 n8 n9 n10 HF4
  obtain ⟨al, Hal⟩ : ∃ al, Hid (al = f i c) := ⟨_, rfl⟩
  rw [← Hal.out] at hA hlen lo nd hA5 hAo ⊢
  have halI : (al.length : Int) ≤ 257 := by omega
  have hbkl := hN
  go_wp2_with fail
  go_loopg [18, 16] al.length (fun gq kv mv wr => ∃ j : Nat, kv = .int .i64 (j : Nat) ∧ j + gq = al.length ∧ WysAt wr mv (joinAll (al.take j) (fun w => h w.1 w.2)) ∧ (∀ q, slB mv q → w5.heap.size ≤ q) ∧ Fr (fun _ => False) w5 wr)
  case atStart => exact ⟨0, rfl, by omega, .inl ⟨rfl, rfl⟩, fun q ⟨n', c', e⟩ => (by cases e), Fr.refl _ _⟩
  case round =>
    obtain ⟨j, rfl, hjg, hM, hMo, hfr⟩ := hrel
    have hjg' : j + gk = al.length := hjg
    clear hjg
    have hszr := hfr.size
    have hNdr := hNd5.frame hfr (fun h => h)
    have hTvr := hTv5.frame hfr (fun h => h)
    have hStr := hSt5.frame hfr (fun h => h)
    have lNd := hNdr.lt
    have lTv := hTvr.lt
    have m3 := hNdr.cell (o := 3) (by omega)
    have m6 := hNdr.cell (o := 6) (by omega)
    simp only [ndCell] at m3 m6
    have q0 := hTvr.cell (o := 0) (by omega)
    have q1 := hTvr.cell (o := 1) (by omega)
    have q2 := hTvr.cell (o := 2) (by omega)
    have q3 := hTvr.cell (o := 3) (by omega)
    have q4 := hTvr.cell (o := 4) (by omega)
    simp only [trF5] at q0 q1 q2 q3 q4
    by_cases hjl : j < al.length
    · have hjI : decide ((j : Int) < al.length) = true := decide_eq_true (by omega)
      rcases hA with hA | ⟨q, rfl, hA⟩
      · rw [hA] at hjl; simp at hjl
      have hql : q < w5.heap.size := hA5.lt ⟨_, _, rfl⟩
      have hqr : q < wr.heap.size := by omega
      have hAr := hA.frame hfr (fun h => h)
      have ej := lo al[j] (List.getElem_mem hjl)
      have a0 := hAr j hjl 0 (by omega)
      have a1 := hAr j hjl 1 (by omega)
      have a2 := hAr j hjl 2 (by omega)
      have a3 := hAr j hjl 3 (by omega)
      have a4 := hAr j hjl 4 (by omega)
      have a5 := hAr j hjl 5 (by omega)
      have a6 := hAr j hjl 6 (by omega)
      have a7 := hAr j hjl 7 (by omega)
      have a8 := hAr j hjl 8 (by omega)
      simp only [wyCell, Nat.add_zero] at a0 a1 a2 a3 a4 a5 a6 a7 a8
      have hjn : (j : Int) < al.length := by omega
      have hH1 := hH wr.drew al[j].1 al[j].2 ((hN.frame (F5.trans hfr (fun _ _ h => h)) (fun h => h)).frame (Fr.refl (fun _ => False) wr).drew (fun h => h)) (by simp only [World.size_drew]; have := F5.size; omega) ej.2 trivial
      unfold capV at hH1
      have HH : Hid _ := hH1
      clear hH1
      have hnx : joinAll (al.take (j + 1)) (fun w => h w.1 w.2) = joinL (joinAll (al.take j) (fun w => h w.1 w.2)) (h al[j].1 al[j].2) := joinAll_next hjl
      have Hnx : Hid _ := hnx
      clear hnx
      have gP := Good.joinAll (n := s.size) (i := i) (l := al.take j) (fun x hx => lo x (List.mem_of_mem_take hx)) gh
      have eH := gh.lo al[j].1 al[j].2 ej.2
      have nH := gh.nd al[j].1 al[j].2 ej.2
      have HeJ : Hid _ := ej
      clear ej
      generalize hx : al[j] = x at *
      obtain ⟨xe, xc⟩ := x
      simp only at a0 a1 a2 a3 a4 a5 a6 a7 a8 HH Hnx eH nH HeJ
      go_wp2_with fail
      refine wp_region_text (by kernel_rfl) (by kernel_rfl) ?_
      go_wp2_with fail
      refine Calls.mono HH.out ?_
      rintro v w6 ⟨bv, rfl, hB6, hBo, f6⟩
      go_wp2_with fail
      refine ⟨by kernel_rfl, ?_⟩
      have f6d := ((Fr.refl (fun _ => False) wr).drew).trans f6 (fun _ _ h => h)
      have hM6 := hM.frame f6d (fun _ _ _ _ h => h)
      have hMl : ∀ q, slB u16 q → q < wr.heap.size := fun q h => hM.lt h
      simp only [World.size_drew] at hBo
      have hsz6 := f6d.size
      have hJ := wjoin_any (n := s.size) hM6 hB6 hs (fun x hx => (gP.1 x hx).2) (fun x hx => (eH x hx).2) gP.2 (by have := ways_len nH (fun x hx => (eH x hx).2); omega) (fun q h1 h2 => by have := hMl q h1; have := hBo q h2; omega) (fun q h1 => by have := hMl q h1; omega) (fun q h2 => hB6.lt h2)
      have HJ : Hid _ := hJ
      clear hJ
      obtain ⟨ma, mc, hmv, _⟩ := hM6.sl
      obtain ⟨ba, bc, hbv, _⟩ := hB6.sl
      have Hmv : Hid _ := hmv
      have Hbv : Hid _ := hbv
      clear hmv hbv
      go_wp2_with fail
      refine Calls.mono HJ.out ?_
      rintro v w7 ⟨jv, rfl, hJ7, hJo, f7⟩
      go_wp2_with fail
      go_roundg (gk - 1)
      case measure => omega
      case rel => exact ⟨j + 1, by simp, by omega, by rw [Hnx.out]; exact hJ7, fun q hq => (hJo q hq).elim (fun h => by omega) (fun h => hMo q h), (hfr.trans f6d (fun _ _ h => h)).trans f7 (fun q hq h => absurd (hMo q h) (by omega))⟩
    · have hjI : decide ((j : Int) < al.length) = false := decide_eq_false (by omega)
      have hj : al.take j = al := List.take_of_length_le (by omega)
      rw [hj] at hM
      have HM : Hid _ := hM
      clear hM
      go_wp2_with fail
      go_ret
      obtain rfl := Hal.out
      exact ⟨_, rfl, HM.out, fun q hq => by have := hMo q hq; omega, F5.trans hfr (fun _ _ h => h)⟩
end
end Go.Proofs.Qxb6500283aGreat
