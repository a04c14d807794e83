/- The model's leaf; size but of a repeat. -/
import Derived.Test.Qxb6500283aGreatM1
namespace Go.Proofs.Qxb6500283aGreat
open Go Go.RowKit

def SzC (ns : List Nd) (bk cp : Nat) (y g : Int) (k v : Nat) : Prop := ∀ w : World, NPAt w bk ns → Calls Tryz.prog 103 #[.agg #[.slice (some ⟨bk, 0, none⟩) ns.length cp, .int .i64 y, .int .i64 g, .int .i64 0, .int .i64 0], .int .i64 (k : Nat)] w fun e w' => e = .returned (.int .i64 (v : Nat)) ∧ Fr (fun _ => False) w w'
def LfC (ns : List Nd) (bk cp : Nat) (y g : Int) (k v : Nat) : Prop := ∀ w : World, NPAt w bk ns → Calls Tryz.prog 80 #[.agg #[.slice (some ⟨bk, 0, none⟩) ns.length cp, .int .i64 y, .int .i64 g, .int .i64 0, .int .i64 0], .int .i64 (k : Nat)] w fun e w' => e = .returned (.int .i64 (v : Nat)) ∧ Fr (fun _ => False) w w'
theorem treeCells {w w' : World} {v0 v1 v2 : Value} {n : Nd} (f : Fr (fun _ => False) ((w.alloc (.cells #[v0, v1, v2, .int .i64 0, .int .i64 0] 148)).alloc (.cells #[.int .i64 n.kind, .int .i64 n.a, .int .i64 n.b, .int .i64 n.mn, .int .i64 n.mx, .int .i64 n.cap, .bool n.lz, .int .u64 (wd n.st 0 : Nat), .int .u64 (wd n.st 1 : Nat), .int .u64 (wd n.st 2 : Nat), .int .u64 (wd n.st 3 : Nat)] 97)) w') :
    w'.cell? ⟨w.heap.size, 0, none⟩ = some v0 ∧ w'.cell? ⟨w.heap.size, 1, none⟩ = some v1 ∧ w'.cell? ⟨w.heap.size, 2, none⟩ = some v2 ∧ w'.cell? ⟨w.heap.size, 3, none⟩ = some (.int .i64 0) ∧ w'.cell? ⟨w.heap.size, 4, none⟩ = some (.int .i64 0) ∧
    w'.cell? ⟨w.heap.size + 1, 1, none⟩ = some (.int .i64 n.a) ∧ w'.cell? ⟨w.heap.size + 1, 2, none⟩ = some (.int .i64 n.b) ∧ w'.cell? ⟨w.heap.size + 1, 3, none⟩ = some (.int .i64 n.mn) ∧ w'.cell? ⟨w.heap.size + 1, 4, none⟩ = some (.int .i64 n.mx) := by
  have ht := ((Blk.tr5 w v0 v1 v2 (.int .i64 0) (.int .i64 0)).alloc (.cells #[.int .i64 n.kind, .int .i64 n.a, .int .i64 n.b, .int .i64 n.mn, .int .i64 n.mx, .int .i64 n.cap, .bool n.lz, .int .u64 (wd n.st 0 : Nat), .int .u64 (wd n.st 1 : Nat), .int .u64 (wd n.st 2 : Nat), .int .u64 (wd n.st 3 : Nat)] 97)).frame f (fun h => h)
  have hn0 := Blk.nd (w.alloc (.cells #[v0, v1, v2, .int .i64 0, .int .i64 0] 148)) n
  rw [World.size_alloc] at hn0
  have hn := hn0.frame f (fun h => h)
  exact ⟨ht.cell (by omega), ht.cell (by omega), ht.cell (by omega), ht.cell (by omega), ht.cell (by omega), hn.cell (by omega), hn.cell (by omega), hn.cell (by omega), hn.cell (by omega)⟩
set_option maxRecDepth 100000 in
set_option maxHeartbeats 8000000 in
theorem leaf_any {ns : List Nd} {bk cp : Nat} {y g : Int} {k s v : Nat} (hS : ShC ns bk cp y g k s) (h3 : s ≤ 2) (h1 : s ≠ 2 → v = 1) (hZ : s = 2 → SzC ns bk cp y g k v) : LfC ns bk cp y g k v := by
  intro w hN
  have F0 := (Fr.refl (fun _ => False) w).alloc (.cells #[.slice (some ⟨bk, 0, none⟩) ns.length cp, .int .i64 y, .int .i64 g, .int .i64 0, .int .i64 0] 148)
  have G0 := Blk.tr5 w (.slice (some ⟨bk, 0, none⟩) ns.length cp) (.int .i64 y) (.int .i64 g) (.int .i64 0) (.int .i64 0)
  have hN0 := hN.frame F0 (fun h => h)
  by_cases h2 : s = 2
  · subst h2
    have hZ2 := hZ rfl
    clear h1 hZ
    go_enter Tryz.func80, Tryz.ntmps80
    go_wp2_with fail
    refine (hS _ hN0).mono ?_
    rintro e w1 ⟨rfl, f1⟩
    have F1 := F0.trans f1 (fun _ _ h => h)
    have hN1 := hN0.frame f1 (fun h => h)
    have ht := G0.frame f1 (fun h => h)
    have r0 : w1.cell? ⟨w.heap.size, 0, none⟩ = some (.slice (some ⟨bk, 0, none⟩) ns.length cp) := ht.cell (by omega)
    have r1 : w1.cell? ⟨w.heap.size, 1, none⟩ = some (.int .i64 y) := ht.cell (by omega)
    have r2 : w1.cell? ⟨w.heap.size, 2, none⟩ = some (.int .i64 g) := ht.cell (by omega)
    have r3 : w1.cell? ⟨w.heap.size, 3, none⟩ = some (.int .i64 0) := ht.cell (by omega)
    have r4 : w1.cell? ⟨w.heap.size, 4, none⟩ = some (.int .i64 0) := ht.cell (by omega)
    go_wp2_with fail
    refine (hZ2 _ hN1).mono ?_
    rintro e w2 ⟨rfl, f2⟩
    go_wp2_with fail
    go_ret
    exact ⟨rfl, F1.trans f2 (fun _ _ h => h)⟩
  · rw [h1 h2]
    have t2 : (((s : Nat) : Int) != 2) = true := by simp; omega
    have t2' : (((s : Nat) : Int) == 2) = false := by simp; omega
    clear h1 hZ
    go_enter Tryz.func80, Tryz.ntmps80
    go_wp2_with fail
    refine (hS _ hN0).mono ?_
    rintro e w1 ⟨rfl, f1⟩
    have F1 := F0.trans f1 (fun _ _ h => h)
    go_wp2_with fail
    go_ret
    exact ⟨rfl, F1⟩
section
variable {ns : List Nd} {bk cp : Nat} {y g : Int} {w : World} {k A B sa sb a2 b2 : Nat} {mn mx cap : Int} {lz : Bool} {st : BSet}
set_option maxRecDepth 100000 in
set_option maxHeartbeats 8000000 in
theorem size_leaf1 (hN : NPAt w bk ns) (hbl : bk < w.heap.size) (hk24 : (k : Int) < ns.length) (n0 : w.cell? ⟨bk, k * 11, none⟩ = some (.int .i64 1)) (n1 : w.cell? ⟨bk, k * 11 + 1, none⟩ = some (.int .i64 (-1))) (n2 : w.cell? ⟨bk, k * 11 + 2, none⟩ = some (.int .i64 (-1))) (n3 : w.cell? ⟨bk, k * 11 + 3, none⟩ = some (.int .i64 mn)) (n4 : w.cell? ⟨bk, k * 11 + 4, none⟩ = some (.int .i64 mx)) (n5 : w.cell? ⟨bk, k * 11 + 5, none⟩ = some (.int .i64 cap)) (n6 : w.cell? ⟨bk, k * 11 + 6, none⟩ = some (.bool lz)) (n7 : w.cell? ⟨bk, k * 11 + 7, none⟩ = some (.int .u64 (wd st 0 : Nat))) (n8 : w.cell? ⟨bk, k * 11 + 8, none⟩ = some (.int .u64 (wd st 1 : Nat))) (n9 : w.cell? ⟨bk, k * 11 + 9, none⟩ = some (.int .u64 (wd st 2 : Nat))) (n10 : w.cell? ⟨bk, k * 11 + 10, none⟩ = some (.int .u64 (wd st 3 : Nat)))  :
    Calls Tryz.prog 103 #[.agg #[.slice (some ⟨bk, 0, none⟩) ns.length cp, .int .i64 y, .int .i64 g, .int .i64 0, .int .i64 0], .int .i64 (k : Nat)] w fun e w' => e = .returned (.int .i64 (1 : Nat)) ∧ Fr (fun _ => False) w w' := by
  have G0 := Fr.refl (fun _ => False) ((w.alloc (.cells #[.slice (some ⟨bk, 0, none⟩) ns.length cp, .int .i64 y, .int .i64 g, .int .i64 0, .int .i64 0] 148)).alloc (.cells #[.int .i64 1, .int .i64 (-1), .int .i64 (-1), .int .i64 mn, .int .i64 mx, .int .i64 cap, .bool lz, .int .u64 (wd st 0 : Nat), .int .u64 (wd st 1 : Nat), .int .u64 (wd st 2 : Nat), .int .u64 (wd st 3 : Nat)] 97))
  have F0 := ((Fr.refl (fun _ => False) w).alloc (.cells #[.slice (some ⟨bk, 0, none⟩) ns.length cp, .int .i64 y, .int .i64 g, .int .i64 0, .int .i64 0] 148)).alloc (.cells #[.int .i64 1, .int .i64 (-1), .int .i64 (-1), .int .i64 mn, .int .i64 mx, .int .i64 cap, .bool lz, .int .u64 (wd st 0 : Nat), .int .u64 (wd st 1 : Nat), .int .u64 (wd st 2 : Nat), .int .u64 (wd st 3 : Nat)] 97)
  have hN0 := hN.frame F0 (fun h => h)
  go_enter Tryz.func103, Tryz.ntmps103
  go_wp2_with fail
  go_ret
  exact ⟨rfl, F0⟩
set_option maxRecDepth 100000 in
set_option maxHeartbeats 8000000 in
theorem size_leaf2 (hN : NPAt w bk ns) (hbl : bk < w.heap.size) (hk24 : (k : Int) < ns.length) (n0 : w.cell? ⟨bk, k * 11, none⟩ = some (.int .i64 2)) (n1 : w.cell? ⟨bk, k * 11 + 1, none⟩ = some (.int .i64 (-1))) (n2 : w.cell? ⟨bk, k * 11 + 2, none⟩ = some (.int .i64 (-1))) (n3 : w.cell? ⟨bk, k * 11 + 3, none⟩ = some (.int .i64 mn)) (n4 : w.cell? ⟨bk, k * 11 + 4, none⟩ = some (.int .i64 mx)) (n5 : w.cell? ⟨bk, k * 11 + 5, none⟩ = some (.int .i64 cap)) (n6 : w.cell? ⟨bk, k * 11 + 6, none⟩ = some (.bool lz)) (n7 : w.cell? ⟨bk, k * 11 + 7, none⟩ = some (.int .u64 (wd st 0 : Nat))) (n8 : w.cell? ⟨bk, k * 11 + 8, none⟩ = some (.int .u64 (wd st 1 : Nat))) (n9 : w.cell? ⟨bk, k * 11 + 9, none⟩ = some (.int .u64 (wd st 2 : Nat))) (n10 : w.cell? ⟨bk, k * 11 + 10, none⟩ = some (.int .u64 (wd st 3 : Nat)))  :
    Calls Tryz.prog 103 #[.agg #[.slice (some ⟨bk, 0, none⟩) ns.length cp, .int .i64 y, .int .i64 g, .int .i64 0, .int .i64 0], .int .i64 (k : Nat)] w fun e w' => e = .returned (.int .i64 (1 : Nat)) ∧ Fr (fun _ => False) w w' := by
  have G0 := Fr.refl (fun _ => False) ((w.alloc (.cells #[.slice (some ⟨bk, 0, none⟩) ns.length cp, .int .i64 y, .int .i64 g, .int .i64 0, .int .i64 0] 148)).alloc (.cells #[.int .i64 2, .int .i64 (-1), .int .i64 (-1), .int .i64 mn, .int .i64 mx, .int .i64 cap, .bool lz, .int .u64 (wd st 0 : Nat), .int .u64 (wd st 1 : Nat), .int .u64 (wd st 2 : Nat), .int .u64 (wd st 3 : Nat)] 97))
  have F0 := ((Fr.refl (fun _ => False) w).alloc (.cells #[.slice (some ⟨bk, 0, none⟩) ns.length cp, .int .i64 y, .int .i64 g, .int .i64 0, .int .i64 0] 148)).alloc (.cells #[.int .i64 2, .int .i64 (-1), .int .i64 (-1), .int .i64 mn, .int .i64 mx, .int .i64 cap, .bool lz, .int .u64 (wd st 0 : Nat), .int .u64 (wd st 1 : Nat), .int .u64 (wd st 2 : Nat), .int .u64 (wd st 3 : Nat)] 97)
  have hN0 := hN.frame F0 (fun h => h)
  go_enter Tryz.func103, Tryz.ntmps103
  go_wp2_with fail
  go_ret
  exact ⟨rfl, F0⟩
set_option maxRecDepth 100000 in
set_option maxHeartbeats 8000000 in
theorem size_leaf3 (hN : NPAt w bk ns) (hbl : bk < w.heap.size) (hk24 : (k : Int) < ns.length) (n0 : w.cell? ⟨bk, k * 11, none⟩ = some (.int .i64 3)) (n1 : w.cell? ⟨bk, k * 11 + 1, none⟩ = some (.int .i64 (-1))) (n2 : w.cell? ⟨bk, k * 11 + 2, none⟩ = some (.int .i64 (-1))) (n3 : w.cell? ⟨bk, k * 11 + 3, none⟩ = some (.int .i64 mn)) (n4 : w.cell? ⟨bk, k * 11 + 4, none⟩ = some (.int .i64 mx)) (n5 : w.cell? ⟨bk, k * 11 + 5, none⟩ = some (.int .i64 cap)) (n6 : w.cell? ⟨bk, k * 11 + 6, none⟩ = some (.bool lz)) (n7 : w.cell? ⟨bk, k * 11 + 7, none⟩ = some (.int .u64 (wd st 0 : Nat))) (n8 : w.cell? ⟨bk, k * 11 + 8, none⟩ = some (.int .u64 (wd st 1 : Nat))) (n9 : w.cell? ⟨bk, k * 11 + 9, none⟩ = some (.int .u64 (wd st 2 : Nat))) (n10 : w.cell? ⟨bk, k * 11 + 10, none⟩ = some (.int .u64 (wd st 3 : Nat)))  :
    Calls Tryz.prog 103 #[.agg #[.slice (some ⟨bk, 0, none⟩) ns.length cp, .int .i64 y, .int .i64 g, .int .i64 0, .int .i64 0], .int .i64 (k : Nat)] w fun e w' => e = .returned (.int .i64 (1 : Nat)) ∧ Fr (fun _ => False) w w' := by
  have G0 := Fr.refl (fun _ => False) ((w.alloc (.cells #[.slice (some ⟨bk, 0, none⟩) ns.length cp, .int .i64 y, .int .i64 g, .int .i64 0, .int .i64 0] 148)).alloc (.cells #[.int .i64 3, .int .i64 (-1), .int .i64 (-1), .int .i64 mn, .int .i64 mx, .int .i64 cap, .bool lz, .int .u64 (wd st 0 : Nat), .int .u64 (wd st 1 : Nat), .int .u64 (wd st 2 : Nat), .int .u64 (wd st 3 : Nat)] 97))
  have F0 := ((Fr.refl (fun _ => False) w).alloc (.cells #[.slice (some ⟨bk, 0, none⟩) ns.length cp, .int .i64 y, .int .i64 g, .int .i64 0, .int .i64 0] 148)).alloc (.cells #[.int .i64 3, .int .i64 (-1), .int .i64 (-1), .int .i64 mn, .int .i64 mx, .int .i64 cap, .bool lz, .int .u64 (wd st 0 : Nat), .int .u64 (wd st 1 : Nat), .int .u64 (wd st 2 : Nat), .int .u64 (wd st 3 : Nat)] 97)
  have hN0 := hN.frame F0 (fun h => h)
  go_enter Tryz.func103, Tryz.ntmps103
  go_wp2_with fail
  go_ret
  exact ⟨rfl, F0⟩
set_option maxRecDepth 100000 in
set_option maxHeartbeats 8000000 in
theorem size_cat0 (hN : NPAt w bk ns) (hbl : bk < w.heap.size) (hk24 : (k : Int) < ns.length) (n0 : w.cell? ⟨bk, k * 11, none⟩ = some (.int .i64 4)) (n1 : w.cell? ⟨bk, k * 11 + 1, none⟩ = some (.int .i64 (A : Nat))) (n2 : w.cell? ⟨bk, k * 11 + 2, none⟩ = some (.int .i64 (B : Nat))) (n3 : w.cell? ⟨bk, k * 11 + 3, none⟩ = some (.int .i64 mn)) (n4 : w.cell? ⟨bk, k * 11 + 4, none⟩ = some (.int .i64 mx)) (n5 : w.cell? ⟨bk, k * 11 + 5, none⟩ = some (.int .i64 cap)) (n6 : w.cell? ⟨bk, k * 11 + 6, none⟩ = some (.bool lz)) (n7 : w.cell? ⟨bk, k * 11 + 7, none⟩ = some (.int .u64 (wd st 0 : Nat))) (n8 : w.cell? ⟨bk, k * 11 + 8, none⟩ = some (.int .u64 (wd st 1 : Nat))) (n9 : w.cell? ⟨bk, k * 11 + 9, none⟩ = some (.int .u64 (wd st 2 : Nat))) (n10 : w.cell? ⟨bk, k * 11 + 10, none⟩ = some (.int .u64 (wd st 3 : Nat))) (hA : ShC ns bk cp y g A 0) (zB : SzC ns bk cp y g B b2) :
    Calls Tryz.prog 103 #[.agg #[.slice (some ⟨bk, 0, none⟩) ns.length cp, .int .i64 y, .int .i64 g, .int .i64 0, .int .i64 0], .int .i64 (k : Nat)] w fun e w' => e = .returned (.int .i64 (b2 : Nat)) ∧ Fr (fun _ => False) w w' := by
  have G0 := Fr.refl (fun _ => False) ((w.alloc (.cells #[.slice (some ⟨bk, 0, none⟩) ns.length cp, .int .i64 y, .int .i64 g, .int .i64 0, .int .i64 0] 148)).alloc (.cells #[.int .i64 4, .int .i64 (A : Nat), .int .i64 (B : Nat), .int .i64 mn, .int .i64 mx, .int .i64 cap, .bool lz, .int .u64 (wd st 0 : Nat), .int .u64 (wd st 1 : Nat), .int .u64 (wd st 2 : Nat), .int .u64 (wd st 3 : Nat)] 97))
  have F0 := ((Fr.refl (fun _ => False) w).alloc (.cells #[.slice (some ⟨bk, 0, none⟩) ns.length cp, .int .i64 y, .int .i64 g, .int .i64 0, .int .i64 0] 148)).alloc (.cells #[.int .i64 4, .int .i64 (A : Nat), .int .i64 (B : Nat), .int .i64 mn, .int .i64 mx, .int .i64 cap, .bool lz, .int .u64 (wd st 0 : Nat), .int .u64 (wd st 1 : Nat), .int .u64 (wd st 2 : Nat), .int .u64 (wd st 3 : Nat)] 97)
  have hN0 := hN.frame F0 (fun h => h)
  go_enter Tryz.func103, Tryz.ntmps103
  go_wp2_with fail
  refine (hA _ hN0).mono ?_
  rintro e w1 ⟨rfl, f1⟩
  have G1 := G0.trans f1 (fun _ _ h => h)
  have F1 := F0.trans f1 (fun _ _ h => h)
  have hN1 := hN0.frame f1 (fun h => h)
  obtain ⟨r0, r1, r2, r3, r4, q1, q2, q3, q4⟩ := treeCells (n := ⟨4, (A : Nat), (B : Nat), mn, mx, cap, lz, st⟩) G1
  go_wp2_with fail
  refine (zB _ hN1).mono ?_
  rintro e w2 ⟨rfl, f2⟩
  have G2 := G1.trans f2 (fun _ _ h => h)
  have F2 := F1.trans f2 (fun _ _ h => h)
  have hN2 := hN1.frame f2 (fun h => h)
  obtain ⟨r0, r1, r2, r3, r4, q1, q2, q3, q4⟩ := treeCells (n := ⟨4, (A : Nat), (B : Nat), mn, mx, cap, lz, st⟩) G2
  go_wp2_with fail
  go_ret
  exact ⟨rfl, F2⟩
set_option maxRecDepth 100000 in
set_option maxHeartbeats 8000000 in
theorem size_cat1 (hN : NPAt w bk ns) (hbl : bk < w.heap.size) (hk24 : (k : Int) < ns.length) (n0 : w.cell? ⟨bk, k * 11, none⟩ = some (.int .i64 4)) (n1 : w.cell? ⟨bk, k * 11 + 1, none⟩ = some (.int .i64 (A : Nat))) (n2 : w.cell? ⟨bk, k * 11 + 2, none⟩ = some (.int .i64 (B : Nat))) (n3 : w.cell? ⟨bk, k * 11 + 3, none⟩ = some (.int .i64 mn)) (n4 : w.cell? ⟨bk, k * 11 + 4, none⟩ = some (.int .i64 mx)) (n5 : w.cell? ⟨bk, k * 11 + 5, none⟩ = some (.int .i64 cap)) (n6 : w.cell? ⟨bk, k * 11 + 6, none⟩ = some (.bool lz)) (n7 : w.cell? ⟨bk, k * 11 + 7, none⟩ = some (.int .u64 (wd st 0 : Nat))) (n8 : w.cell? ⟨bk, k * 11 + 8, none⟩ = some (.int .u64 (wd st 1 : Nat))) (n9 : w.cell? ⟨bk, k * 11 + 9, none⟩ = some (.int .u64 (wd st 2 : Nat))) (n10 : w.cell? ⟨bk, k * 11 + 10, none⟩ = some (.int .u64 (wd st 3 : Nat))) (hA : ShC ns bk cp y g A 2) (hB : ShC ns bk cp y g B 0) (zA : SzC ns bk cp y g A a2) :
    Calls Tryz.prog 103 #[.agg #[.slice (some ⟨bk, 0, none⟩) ns.length cp, .int .i64 y, .int .i64 g, .int .i64 0, .int .i64 0], .int .i64 (k : Nat)] w fun e w' => e = .returned (.int .i64 (a2 : Nat)) ∧ Fr (fun _ => False) w w' := by
  have G0 := Fr.refl (fun _ => False) ((w.alloc (.cells #[.slice (some ⟨bk, 0, none⟩) ns.length cp, .int .i64 y, .int .i64 g, .int .i64 0, .int .i64 0] 148)).alloc (.cells #[.int .i64 4, .int .i64 (A : Nat), .int .i64 (B : Nat), .int .i64 mn, .int .i64 mx, .int .i64 cap, .bool lz, .int .u64 (wd st 0 : Nat), .int .u64 (wd st 1 : Nat), .int .u64 (wd st 2 : Nat), .int .u64 (wd st 3 : Nat)] 97))
  have F0 := ((Fr.refl (fun _ => False) w).alloc (.cells #[.slice (some ⟨bk, 0, none⟩) ns.length cp, .int .i64 y, .int .i64 g, .int .i64 0, .int .i64 0] 148)).alloc (.cells #[.int .i64 4, .int .i64 (A : Nat), .int .i64 (B : Nat), .int .i64 mn, .int .i64 mx, .int .i64 cap, .bool lz, .int .u64 (wd st 0 : Nat), .int .u64 (wd st 1 : Nat), .int .u64 (wd st 2 : Nat), .int .u64 (wd st 3 : Nat)] 97)
  have hN0 := hN.frame F0 (fun h => h)
  go_enter Tryz.func103, Tryz.ntmps103
  go_wp2_with fail
  refine (hA _ hN0).mono ?_
  rintro e w1 ⟨rfl, f1⟩
  have G1 := G0.trans f1 (fun _ _ h => h)
  have F1 := F0.trans f1 (fun _ _ h => h)
  have hN1 := hN0.frame f1 (fun h => h)
  obtain ⟨r0, r1, r2, r3, r4, q1, q2, q3, q4⟩ := treeCells (n := ⟨4, (A : Nat), (B : Nat), mn, mx, cap, lz, st⟩) G1
  go_wp2_with fail
  refine (hB _ hN1).mono ?_
  rintro e w2 ⟨rfl, f2⟩
  have G2 := G1.trans f2 (fun _ _ h => h)
  have F2 := F1.trans f2 (fun _ _ h => h)
  have hN2 := hN1.frame f2 (fun h => h)
  obtain ⟨r0, r1, r2, r3, r4, q1, q2, q3, q4⟩ := treeCells (n := ⟨4, (A : Nat), (B : Nat), mn, mx, cap, lz, st⟩) G2
  go_wp2_with fail
  refine (zA _ hN2).mono ?_
  rintro e w3 ⟨rfl, f3⟩
  have G3 := G2.trans f3 (fun _ _ h => h)
  have F3 := F2.trans f3 (fun _ _ h => h)
  have hN3 := hN2.frame f3 (fun h => h)
  obtain ⟨r0, r1, r2, r3, r4, q1, q2, q3, q4⟩ := treeCells (n := ⟨4, (A : Nat), (B : Nat), mn, mx, cap, lz, st⟩) G3
  go_wp2_with fail
  go_ret
  exact ⟨rfl, F3⟩
set_option maxRecDepth 100000 in
set_option maxHeartbeats 8000000 in
theorem size_cat2 (hN : NPAt w bk ns) (hbl : bk < w.heap.size) (hk24 : (k : Int) < ns.length) (n0 : w.cell? ⟨bk, k * 11, none⟩ = some (.int .i64 4)) (n1 : w.cell? ⟨bk, k * 11 + 1, none⟩ = some (.int .i64 (A : Nat))) (n2 : w.cell? ⟨bk, k * 11 + 2, none⟩ = some (.int .i64 (B : Nat))) (n3 : w.cell? ⟨bk, k * 11 + 3, none⟩ = some (.int .i64 mn)) (n4 : w.cell? ⟨bk, k * 11 + 4, none⟩ = some (.int .i64 mx)) (n5 : w.cell? ⟨bk, k * 11 + 5, none⟩ = some (.int .i64 cap)) (n6 : w.cell? ⟨bk, k * 11 + 6, none⟩ = some (.bool lz)) (n7 : w.cell? ⟨bk, k * 11 + 7, none⟩ = some (.int .u64 (wd st 0 : Nat))) (n8 : w.cell? ⟨bk, k * 11 + 8, none⟩ = some (.int .u64 (wd st 1 : Nat))) (n9 : w.cell? ⟨bk, k * 11 + 9, none⟩ = some (.int .u64 (wd st 2 : Nat))) (n10 : w.cell? ⟨bk, k * 11 + 10, none⟩ = some (.int .u64 (wd st 3 : Nat))) (hA : ShC ns bk cp y g A 2) (hB : ShC ns bk cp y g B 2) (zA : SzC ns bk cp y g A a2) (zB : SzC ns bk cp y g B b2) (ha2 : (a2 : Int) ≤ 32) (hb2 : (b2 : Int) ≤ 32) :
    Calls Tryz.prog 103 #[.agg #[.slice (some ⟨bk, 0, none⟩) ns.length cp, .int .i64 y, .int .i64 g, .int .i64 0, .int .i64 0], .int .i64 (k : Nat)] w fun e w' => e = .returned (.int .i64 (lidN (a2 + b2 + 1) : Nat)) ∧ Fr (fun _ => False) w w' := by
  have G0 := Fr.refl (fun _ => False) ((w.alloc (.cells #[.slice (some ⟨bk, 0, none⟩) ns.length cp, .int .i64 y, .int .i64 g, .int .i64 0, .int .i64 0] 148)).alloc (.cells #[.int .i64 4, .int .i64 (A : Nat), .int .i64 (B : Nat), .int .i64 mn, .int .i64 mx, .int .i64 cap, .bool lz, .int .u64 (wd st 0 : Nat), .int .u64 (wd st 1 : Nat), .int .u64 (wd st 2 : Nat), .int .u64 (wd st 3 : Nat)] 97))
  have F0 := ((Fr.refl (fun _ => False) w).alloc (.cells #[.slice (some ⟨bk, 0, none⟩) ns.length cp, .int .i64 y, .int .i64 g, .int .i64 0, .int .i64 0] 148)).alloc (.cells #[.int .i64 4, .int .i64 (A : Nat), .int .i64 (B : Nat), .int .i64 mn, .int .i64 mx, .int .i64 cap, .bool lz, .int .u64 (wd st 0 : Nat), .int .u64 (wd st 1 : Nat), .int .u64 (wd st 2 : Nat), .int .u64 (wd st 3 : Nat)] 97)
  have hN0 := hN.frame F0 (fun h => h)
  go_enter Tryz.func103, Tryz.ntmps103
  go_wp2_with fail
  refine (hA _ hN0).mono ?_
  rintro e w1 ⟨rfl, f1⟩
  have G1 := G0.trans f1 (fun _ _ h => h)
  have F1 := F0.trans f1 (fun _ _ h => h)
  have hN1 := hN0.frame f1 (fun h => h)
  obtain ⟨r0, r1, r2, r3, r4, q1, q2, q3, q4⟩ := treeCells (n := ⟨4, (A : Nat), (B : Nat), mn, mx, cap, lz, st⟩) G1
  go_wp2_with fail
  refine (hB _ hN1).mono ?_
  rintro e w2 ⟨rfl, f2⟩
  have G2 := G1.trans f2 (fun _ _ h => h)
  have F2 := F1.trans f2 (fun _ _ h => h)
  have hN2 := hN1.frame f2 (fun h => h)
  obtain ⟨r0, r1, r2, r3, r4, q1, q2, q3, q4⟩ := treeCells (n := ⟨4, (A : Nat), (B : Nat), mn, mx, cap, lz, st⟩) G2
  go_wp2_with fail
  refine (zA _ hN2).mono ?_
  rintro e w3 ⟨rfl, f3⟩
  have G3 := G2.trans f3 (fun _ _ h => h)
  have F3 := F2.trans f3 (fun _ _ h => h)
  have hN3 := hN2.frame f3 (fun h => h)
  obtain ⟨r0, r1, r2, r3, r4, q1, q2, q3, q4⟩ := treeCells (n := ⟨4, (A : Nat), (B : Nat), mn, mx, cap, lz, st⟩) G3
  go_wp2_with fail
  refine (zB _ hN3).mono ?_
  rintro e w4 ⟨rfl, f4⟩
  have G4 := G3.trans f4 (fun _ _ h => h)
  have F4 := F3.trans f4 (fun _ _ h => h)
  have hN4 := hN3.frame f4 (fun h => h)
  obtain ⟨r0, r1, r2, r3, r4, q1, q2, q3, q4⟩ := treeCells (n := ⟨4, (A : Nat), (B : Nat), mn, mx, cap, lz, st⟩) G4
  go_wp2_with fail
  refine (lidM_any (a2 + b2 + 1) w4).mono ?_
  rintro e w4 ⟨rfl, rfl⟩
  go_wp2_with fail
  go_ret
  exact ⟨rfl, F4⟩
set_option maxRecDepth 100000 in
set_option maxHeartbeats 8000000 in
theorem size_alt0 (hN : NPAt w bk ns) (hbl : bk < w.heap.size) (hk24 : (k : Int) < ns.length) (n0 : w.cell? ⟨bk, k * 11, none⟩ = some (.int .i64 5)) (n1 : w.cell? ⟨bk, k * 11 + 1, none⟩ = some (.int .i64 (A : Nat))) (n2 : w.cell? ⟨bk, k * 11 + 2, none⟩ = some (.int .i64 (B : Nat))) (n3 : w.cell? ⟨bk, k * 11 + 3, none⟩ = some (.int .i64 mn)) (n4 : w.cell? ⟨bk, k * 11 + 4, none⟩ = some (.int .i64 mx)) (n5 : w.cell? ⟨bk, k * 11 + 5, none⟩ = some (.int .i64 cap)) (n6 : w.cell? ⟨bk, k * 11 + 6, none⟩ = some (.bool lz)) (n7 : w.cell? ⟨bk, k * 11 + 7, none⟩ = some (.int .u64 (wd st 0 : Nat))) (n8 : w.cell? ⟨bk, k * 11 + 8, none⟩ = some (.int .u64 (wd st 1 : Nat))) (n9 : w.cell? ⟨bk, k * 11 + 9, none⟩ = some (.int .u64 (wd st 2 : Nat))) (n10 : w.cell? ⟨bk, k * 11 + 10, none⟩ = some (.int .u64 (wd st 3 : Nat))) (hA : ShC ns bk cp y g A 1) (zB : SzC ns bk cp y g B b2) :
    Calls Tryz.prog 103 #[.agg #[.slice (some ⟨bk, 0, none⟩) ns.length cp, .int .i64 y, .int .i64 g, .int .i64 0, .int .i64 0], .int .i64 (k : Nat)] w fun e w' => e = .returned (.int .i64 (b2 : Nat)) ∧ Fr (fun _ => False) w w' := by
  have G0 := Fr.refl (fun _ => False) ((w.alloc (.cells #[.slice (some ⟨bk, 0, none⟩) ns.length cp, .int .i64 y, .int .i64 g, .int .i64 0, .int .i64 0] 148)).alloc (.cells #[.int .i64 5, .int .i64 (A : Nat), .int .i64 (B : Nat), .int .i64 mn, .int .i64 mx, .int .i64 cap, .bool lz, .int .u64 (wd st 0 : Nat), .int .u64 (wd st 1 : Nat), .int .u64 (wd st 2 : Nat), .int .u64 (wd st 3 : Nat)] 97))
  have F0 := ((Fr.refl (fun _ => False) w).alloc (.cells #[.slice (some ⟨bk, 0, none⟩) ns.length cp, .int .i64 y, .int .i64 g, .int .i64 0, .int .i64 0] 148)).alloc (.cells #[.int .i64 5, .int .i64 (A : Nat), .int .i64 (B : Nat), .int .i64 mn, .int .i64 mx, .int .i64 cap, .bool lz, .int .u64 (wd st 0 : Nat), .int .u64 (wd st 1 : Nat), .int .u64 (wd st 2 : Nat), .int .u64 (wd st 3 : Nat)] 97)
  have hN0 := hN.frame F0 (fun h => h)
  go_enter Tryz.func103, Tryz.ntmps103
  go_wp2_with fail
  refine (hA _ hN0).mono ?_
  rintro e w1 ⟨rfl, f1⟩
  have G1 := G0.trans f1 (fun _ _ h => h)
  have F1 := F0.trans f1 (fun _ _ h => h)
  have hN1 := hN0.frame f1 (fun h => h)
  obtain ⟨r0, r1, r2, r3, r4, q1, q2, q3, q4⟩ := treeCells (n := ⟨5, (A : Nat), (B : Nat), mn, mx, cap, lz, st⟩) G1
  go_wp2_with fail
  refine (zB _ hN1).mono ?_
  rintro e w2 ⟨rfl, f2⟩
  have G2 := G1.trans f2 (fun _ _ h => h)
  have F2 := F1.trans f2 (fun _ _ h => h)
  have hN2 := hN1.frame f2 (fun h => h)
  obtain ⟨r0, r1, r2, r3, r4, q1, q2, q3, q4⟩ := treeCells (n := ⟨5, (A : Nat), (B : Nat), mn, mx, cap, lz, st⟩) G2
  go_wp2_with fail
  go_ret
  exact ⟨rfl, F2⟩
set_option maxRecDepth 100000 in
set_option maxHeartbeats 8000000 in
theorem size_alt1 (hN : NPAt w bk ns) (hbl : bk < w.heap.size) (hk24 : (k : Int) < ns.length) (n0 : w.cell? ⟨bk, k * 11, none⟩ = some (.int .i64 5)) (n1 : w.cell? ⟨bk, k * 11 + 1, none⟩ = some (.int .i64 (A : Nat))) (n2 : w.cell? ⟨bk, k * 11 + 2, none⟩ = some (.int .i64 (B : Nat))) (n3 : w.cell? ⟨bk, k * 11 + 3, none⟩ = some (.int .i64 mn)) (n4 : w.cell? ⟨bk, k * 11 + 4, none⟩ = some (.int .i64 mx)) (n5 : w.cell? ⟨bk, k * 11 + 5, none⟩ = some (.int .i64 cap)) (n6 : w.cell? ⟨bk, k * 11 + 6, none⟩ = some (.bool lz)) (n7 : w.cell? ⟨bk, k * 11 + 7, none⟩ = some (.int .u64 (wd st 0 : Nat))) (n8 : w.cell? ⟨bk, k * 11 + 8, none⟩ = some (.int .u64 (wd st 1 : Nat))) (n9 : w.cell? ⟨bk, k * 11 + 9, none⟩ = some (.int .u64 (wd st 2 : Nat))) (n10 : w.cell? ⟨bk, k * 11 + 10, none⟩ = some (.int .u64 (wd st 3 : Nat))) (hA : ShC ns bk cp y g A sa) (tA : ((sa : Int) == 1) = false) (hB : ShC ns bk cp y g B 1) (zA : SzC ns bk cp y g A a2) :
    Calls Tryz.prog 103 #[.agg #[.slice (some ⟨bk, 0, none⟩) ns.length cp, .int .i64 y, .int .i64 g, .int .i64 0, .int .i64 0], .int .i64 (k : Nat)] w fun e w' => e = .returned (.int .i64 (a2 : Nat)) ∧ Fr (fun _ => False) w w' := by
  have G0 := Fr.refl (fun _ => False) ((w.alloc (.cells #[.slice (some ⟨bk, 0, none⟩) ns.length cp, .int .i64 y, .int .i64 g, .int .i64 0, .int .i64 0] 148)).alloc (.cells #[.int .i64 5, .int .i64 (A : Nat), .int .i64 (B : Nat), .int .i64 mn, .int .i64 mx, .int .i64 cap, .bool lz, .int .u64 (wd st 0 : Nat), .int .u64 (wd st 1 : Nat), .int .u64 (wd st 2 : Nat), .int .u64 (wd st 3 : Nat)] 97))
  have F0 := ((Fr.refl (fun _ => False) w).alloc (.cells #[.slice (some ⟨bk, 0, none⟩) ns.length cp, .int .i64 y, .int .i64 g, .int .i64 0, .int .i64 0] 148)).alloc (.cells #[.int .i64 5, .int .i64 (A : Nat), .int .i64 (B : Nat), .int .i64 mn, .int .i64 mx, .int .i64 cap, .bool lz, .int .u64 (wd st 0 : Nat), .int .u64 (wd st 1 : Nat), .int .u64 (wd st 2 : Nat), .int .u64 (wd st 3 : Nat)] 97)
  have hN0 := hN.frame F0 (fun h => h)
  go_enter Tryz.func103, Tryz.ntmps103
  go_wp2_with fail
  refine (hA _ hN0).mono ?_
  rintro e w1 ⟨rfl, f1⟩
  have G1 := G0.trans f1 (fun _ _ h => h)
  have F1 := F0.trans f1 (fun _ _ h => h)
  have hN1 := hN0.frame f1 (fun h => h)
  obtain ⟨r0, r1, r2, r3, r4, q1, q2, q3, q4⟩ := treeCells (n := ⟨5, (A : Nat), (B : Nat), mn, mx, cap, lz, st⟩) G1
  go_wp2_with fail
  refine (hB _ hN1).mono ?_
  rintro e w2 ⟨rfl, f2⟩
  have G2 := G1.trans f2 (fun _ _ h => h)
  have F2 := F1.trans f2 (fun _ _ h => h)
  have hN2 := hN1.frame f2 (fun h => h)
  obtain ⟨r0, r1, r2, r3, r4, q1, q2, q3, q4⟩ := treeCells (n := ⟨5, (A : Nat), (B : Nat), mn, mx, cap, lz, st⟩) G2
  go_wp2_with fail
  refine (zA _ hN2).mono ?_
  rintro e w3 ⟨rfl, f3⟩
  have G3 := G2.trans f3 (fun _ _ h => h)
  have F3 := F2.trans f3 (fun _ _ h => h)
  have hN3 := hN2.frame f3 (fun h => h)
  obtain ⟨r0, r1, r2, r3, r4, q1, q2, q3, q4⟩ := treeCells (n := ⟨5, (A : Nat), (B : Nat), mn, mx, cap, lz, st⟩) G3
  go_wp2_with fail
  go_ret
  exact ⟨rfl, F3⟩
set_option maxRecDepth 100000 in
set_option maxHeartbeats 8000000 in
theorem size_alt2 (hN : NPAt w bk ns) (hbl : bk < w.heap.size) (hk24 : (k : Int) < ns.length) (n0 : w.cell? ⟨bk, k * 11, none⟩ = some (.int .i64 5)) (n1 : w.cell? ⟨bk, k * 11 + 1, none⟩ = some (.int .i64 (A : Nat))) (n2 : w.cell? ⟨bk, k * 11 + 2, none⟩ = some (.int .i64 (B : Nat))) (n3 : w.cell? ⟨bk, k * 11 + 3, none⟩ = some (.int .i64 mn)) (n4 : w.cell? ⟨bk, k * 11 + 4, none⟩ = some (.int .i64 mx)) (n5 : w.cell? ⟨bk, k * 11 + 5, none⟩ = some (.int .i64 cap)) (n6 : w.cell? ⟨bk, k * 11 + 6, none⟩ = some (.bool lz)) (n7 : w.cell? ⟨bk, k * 11 + 7, none⟩ = some (.int .u64 (wd st 0 : Nat))) (n8 : w.cell? ⟨bk, k * 11 + 8, none⟩ = some (.int .u64 (wd st 1 : Nat))) (n9 : w.cell? ⟨bk, k * 11 + 9, none⟩ = some (.int .u64 (wd st 2 : Nat))) (n10 : w.cell? ⟨bk, k * 11 + 10, none⟩ = some (.int .u64 (wd st 3 : Nat))) (hA : ShC ns bk cp y g A sa) (tA : ((sa : Int) == 1) = false) (hB : ShC ns bk cp y g B sb) (tB : ((sb : Int) == 1) = false) (zA : LfC ns bk cp y g A a2) (zB : LfC ns bk cp y g B b2) (ha2 : (a2 : Int) ≤ 32) (hb2 : (b2 : Int) ≤ 32) :
    Calls Tryz.prog 103 #[.agg #[.slice (some ⟨bk, 0, none⟩) ns.length cp, .int .i64 y, .int .i64 g, .int .i64 0, .int .i64 0], .int .i64 (k : Nat)] w fun e w' => e = .returned (.int .i64 (lidN (a2 + b2 + 1) : Nat)) ∧ Fr (fun _ => False) w w' := by
  have G0 := Fr.refl (fun _ => False) ((w.alloc (.cells #[.slice (some ⟨bk, 0, none⟩) ns.length cp, .int .i64 y, .int .i64 g, .int .i64 0, .int .i64 0] 148)).alloc (.cells #[.int .i64 5, .int .i64 (A : Nat), .int .i64 (B : Nat), .int .i64 mn, .int .i64 mx, .int .i64 cap, .bool lz, .int .u64 (wd st 0 : Nat), .int .u64 (wd st 1 : Nat), .int .u64 (wd st 2 : Nat), .int .u64 (wd st 3 : Nat)] 97))
  have F0 := ((Fr.refl (fun _ => False) w).alloc (.cells #[.slice (some ⟨bk, 0, none⟩) ns.length cp, .int .i64 y, .int .i64 g, .int .i64 0, .int .i64 0] 148)).alloc (.cells #[.int .i64 5, .int .i64 (A : Nat), .int .i64 (B : Nat), .int .i64 mn, .int .i64 mx, .int .i64 cap, .bool lz, .int .u64 (wd st 0 : Nat), .int .u64 (wd st 1 : Nat), .int .u64 (wd st 2 : Nat), .int .u64 (wd st 3 : Nat)] 97)
  have hN0 := hN.frame F0 (fun h => h)
  go_enter Tryz.func103, Tryz.ntmps103
  go_wp2_with fail
  refine (hA _ hN0).mono ?_
  rintro e w1 ⟨rfl, f1⟩
  have G1 := G0.trans f1 (fun _ _ h => h)
  have F1 := F0.trans f1 (fun _ _ h => h)
  have hN1 := hN0.frame f1 (fun h => h)
  obtain ⟨r0, r1, r2, r3, r4, q1, q2, q3, q4⟩ := treeCells (n := ⟨5, (A : Nat), (B : Nat), mn, mx, cap, lz, st⟩) G1
  go_wp2_with fail
  refine (hB _ hN1).mono ?_
  rintro e w2 ⟨rfl, f2⟩
  have G2 := G1.trans f2 (fun _ _ h => h)
  have F2 := F1.trans f2 (fun _ _ h => h)
  have hN2 := hN1.frame f2 (fun h => h)
  obtain ⟨r0, r1, r2, r3, r4, q1, q2, q3, q4⟩ := treeCells (n := ⟨5, (A : Nat), (B : Nat), mn, mx, cap, lz, st⟩) G2
  go_wp2_with fail
  refine (zA _ hN2).mono ?_
  rintro e w3 ⟨rfl, f3⟩
  have G3 := G2.trans f3 (fun _ _ h => h)
  have F3 := F2.trans f3 (fun _ _ h => h)
  have hN3 := hN2.frame f3 (fun h => h)
  obtain ⟨r0, r1, r2, r3, r4, q1, q2, q3, q4⟩ := treeCells (n := ⟨5, (A : Nat), (B : Nat), mn, mx, cap, lz, st⟩) G3
  go_wp2_with fail
  refine (zB _ hN3).mono ?_
  rintro e w4 ⟨rfl, f4⟩
  have G4 := G3.trans f4 (fun _ _ h => h)
  have F4 := F3.trans f4 (fun _ _ h => h)
  have hN4 := hN3.frame f4 (fun h => h)
  obtain ⟨r0, r1, r2, r3, r4, q1, q2, q3, q4⟩ := treeCells (n := ⟨5, (A : Nat), (B : Nat), mn, mx, cap, lz, st⟩) G4
  go_wp2_with fail
  refine (lidM_any (a2 + b2 + 1) w4).mono ?_
  rintro e w4 ⟨rfl, rfl⟩
  go_wp2_with fail
  go_ret
  exact ⟨rfl, F4⟩
set_option maxRecDepth 100000 in
set_option maxHeartbeats 8000000 in
theorem size_grp (hN : NPAt w bk ns) (hbl : bk < w.heap.size) (hk24 : (k : Int) < ns.length) (n0 : w.cell? ⟨bk, k * 11, none⟩ = some (.int .i64 7)) (n1 : w.cell? ⟨bk, k * 11 + 1, none⟩ = some (.int .i64 (A : Nat))) (n2 : w.cell? ⟨bk, k * 11 + 2, none⟩ = some (.int .i64 (-1))) (n3 : w.cell? ⟨bk, k * 11 + 3, none⟩ = some (.int .i64 mn)) (n4 : w.cell? ⟨bk, k * 11 + 4, none⟩ = some (.int .i64 mx)) (n5 : w.cell? ⟨bk, k * 11 + 5, none⟩ = some (.int .i64 cap)) (n6 : w.cell? ⟨bk, k * 11 + 6, none⟩ = some (.bool lz)) (n7 : w.cell? ⟨bk, k * 11 + 7, none⟩ = some (.int .u64 (wd st 0 : Nat))) (n8 : w.cell? ⟨bk, k * 11 + 8, none⟩ = some (.int .u64 (wd st 1 : Nat))) (n9 : w.cell? ⟨bk, k * 11 + 9, none⟩ = some (.int .u64 (wd st 2 : Nat))) (n10 : w.cell? ⟨bk, k * 11 + 10, none⟩ = some (.int .u64 (wd st 3 : Nat))) (zA : LfC ns bk cp y g A a2) (ha2 : (a2 : Int) ≤ 32) :
    Calls Tryz.prog 103 #[.agg #[.slice (some ⟨bk, 0, none⟩) ns.length cp, .int .i64 y, .int .i64 g, .int .i64 0, .int .i64 0], .int .i64 (k : Nat)] w fun e w' => e = .returned (.int .i64 (lidN (a2 + 1) : Nat)) ∧ Fr (fun _ => False) w w' := by
  have G0 := Fr.refl (fun _ => False) ((w.alloc (.cells #[.slice (some ⟨bk, 0, none⟩) ns.length cp, .int .i64 y, .int .i64 g, .int .i64 0, .int .i64 0] 148)).alloc (.cells #[.int .i64 7, .int .i64 (A : Nat), .int .i64 (-1), .int .i64 mn, .int .i64 mx, .int .i64 cap, .bool lz, .int .u64 (wd st 0 : Nat), .int .u64 (wd st 1 : Nat), .int .u64 (wd st 2 : Nat), .int .u64 (wd st 3 : Nat)] 97))
  have F0 := ((Fr.refl (fun _ => False) w).alloc (.cells #[.slice (some ⟨bk, 0, none⟩) ns.length cp, .int .i64 y, .int .i64 g, .int .i64 0, .int .i64 0] 148)).alloc (.cells #[.int .i64 7, .int .i64 (A : Nat), .int .i64 (-1), .int .i64 mn, .int .i64 mx, .int .i64 cap, .bool lz, .int .u64 (wd st 0 : Nat), .int .u64 (wd st 1 : Nat), .int .u64 (wd st 2 : Nat), .int .u64 (wd st 3 : Nat)] 97)
  have hN0 := hN.frame F0 (fun h => h)
  go_enter Tryz.func103, Tryz.ntmps103
  go_wp2_with fail
  refine (zA _ hN0).mono ?_
  rintro e w1 ⟨rfl, f1⟩
  have G1 := G0.trans f1 (fun _ _ h => h)
  have F1 := F0.trans f1 (fun _ _ h => h)
  have hN1 := hN0.frame f1 (fun h => h)
  obtain ⟨r0, r1, r2, r3, r4, q1, q2, q3, q4⟩ := treeCells (n := ⟨7, (A : Nat), (-1), mn, mx, cap, lz, st⟩) G1
  go_wp2_with fail
  refine (lidM_any (a2 + 1) w1).mono ?_
  rintro e w1 ⟨rfl, rfl⟩
  go_wp2_with fail
  go_ret
  exact ⟨rfl, F1⟩
end
end Go.Proofs.Qxb6500283aGreat
