/- The model's build: joins. -/
import Derived.Test.Qxb6500283aGreatM9
import Derived.Test.Qxb6500283aGreatPast
namespace Go.Proofs.Qxb6500283aGreat
open Go Go.RowKit

section
variable {ns out : List Nd} {bk cp r : Nat} {y g : Int} {w : World} {k A B sa sb : Nat} {mn mx cap : Int} {lz : Bool} {st : BSet} {F G : Run} {c : Nat} {OB : Nat → Prop}
theorem join_tail {mk : Nat → Nat → Nd} (hF : Mv F) (hG : Mv G) {u v : Nat} (hu : u + 1 = out.length + (F 0).length) (hv : v + 1 = (out ++ F out.length).length + (G 0).length) : out ++ F out.length ++ G (out ++ F out.length).length ++ [mk u v] = out ++ joinW mk F G out.length := by
  have h1 := hF.ne
  have e2 : (out ++ F out.length).length = out.length + (F 0).length := by rw [List.length_append, hF.len]
  rw [e2] at hv ⊢
  unfold joinW
  rw [hF.len out.length, hG.len (out.length + (F 0).length), show out.length + (F 0).length - 1 = u by omega, show out.length + (F 0).length + (G 0).length - 1 = v by omega]
  simp
set_option maxRecDepth 100000 in
set_option maxHeartbeats 8000000 in
theorem build_cat0 (hM : RM w r bk cp y g ns out OB) (hlen : out.length + ((G : Run) 0).length ≤ 31) (hk24 : (k : Int) < ns.length) (n0 : w.cell? ⟨bk, k * 11, none⟩ = some (.int .i64 4)) (n1 : w.cell? ⟨bk, k * 11 + 1, none⟩ = some (.int .i64 (A : Nat))) (n2 : w.cell? ⟨bk, k * 11 + 2, none⟩ = some (.int .i64 (B : Nat))) (n3 : w.cell? ⟨bk, k * 11 + 3, none⟩ = some (.int .i64 mn)) (n4 : w.cell? ⟨bk, k * 11 + 4, none⟩ = some (.int .i64 mx)) (n5 : w.cell? ⟨bk, k * 11 + 5, none⟩ = some (.int .i64 cap)) (n6 : w.cell? ⟨bk, k * 11 + 6, none⟩ = some (.bool lz)) (n7 : w.cell? ⟨bk, k * 11 + 7, none⟩ = some (.int .u64 (wd st 0 : Nat))) (n8 : w.cell? ⟨bk, k * 11 + 8, none⟩ = some (.int .u64 (wd st 1 : Nat))) (n9 : w.cell? ⟨bk, k * 11 + 9, none⟩ = some (.int .u64 (wd st 2 : Nat))) (n10 : w.cell? ⟨bk, k * 11 + 10, none⟩ = some (.int .u64 (wd st 3 : Nat))) (hA : ShC ns bk cp y g A 0) (hB : RunC 105 ns bk cp y g B G) :
    Calls Tryz.prog 105 #[.pointer (some ⟨r, 0, none⟩), .int .i64 (k : Nat)] w (RunP w r bk cp y g ns out OB (G)) := by
  obtain ⟨c0, c1, c2, c3, c4, hN, hrl, hbr⟩ := hM.cells
  have hbl : bk < w.heap.size := by omega
  have k0 := (Fr.refl (fun _ => False) w).alloc (.cells #[.int .i64 4, .int .i64 (A : Nat), .int .i64 (B : Nat), .int .i64 mn, .int .i64 mx, .int .i64 cap, .bool lz, .int .u64 (wd st 0 : Nat), .int .u64 (wd st 1 : Nat), .int .u64 (wd st 2 : Nat), .int .u64 (wd st 3 : Nat)] 97)
  have hM0 := (hM.old.idle k0).mono (OB' := Up (Old OB w) (w.alloc (.cells #[.int .i64 4, .int .i64 (A : Nat), .int .i64 (B : Nat), .int .i64 mn, .int .i64 mx, .int .i64 cap, .bool lz, .int .u64 (wd st 0 : Nat), .int .u64 (wd st 1 : Nat), .int .u64 (wd st 2 : Nat), .int .u64 (wd st 3 : Nat)] 97))) (fun _ h => .inl h)
  have G0 := Fr.refl (InR r (Old OB w)) (w.alloc (.cells #[.int .i64 4, .int .i64 (A : Nat), .int .i64 (B : Nat), .int .i64 mn, .int .i64 mx, .int .i64 cap, .bool lz, .int .u64 (wd st 0 : Nat), .int .u64 (wd st 1 : Nat), .int .u64 (wd st 2 : Nat), .int .u64 (wd st 3 : Nat)] 97))
  have hX0 := Blk.nd w ⟨4, (A : Nat), (B : Nat), mn, mx, cap, lz, st⟩
  go_enter Tryz.func105, Tryz.ntmps105
  go_wp2_with fail
  obtain ⟨c0_0, c1_0, c2_0, c3_0, c4_0, hN_0, hrl_0, hbr_0⟩ := hM0.cells
  have x_0 := hX0.cell (o := 1) (by omega)
  simp only [ndCell] at x_0
  have hXl_0 := hX0.lt
  have p0_0 : ∀ y' : Past (w.alloc (.cells #[.int .i64 4, .int .i64 (A : Nat), .int .i64 (B : Nat), .int .i64 mn, .int .i64 mx, .int .i64 cap, .bool lz, .int .u64 (wd st 0 : Nat), .int .u64 (wd st 1 : Nat), .int .u64 (wd st 2 : Nat), .int .u64 (wd st 3 : Nat)] 97)), y'.now.cell? ⟨r, 0, none⟩ = some (.slice (some ⟨bk, 0, none⟩) ns.length cp) := Past.cell c0_0 hrl_0
  have p1_0 : ∀ y' : Past (w.alloc (.cells #[.int .i64 4, .int .i64 (A : Nat), .int .i64 (B : Nat), .int .i64 mn, .int .i64 mx, .int .i64 cap, .bool lz, .int .u64 (wd st 0 : Nat), .int .u64 (wd st 1 : Nat), .int .u64 (wd st 2 : Nat), .int .u64 (wd st 3 : Nat)] 97)), y'.now.cell? ⟨r, 1, none⟩ = some (.int .i64 y) := Past.cell c1_0 hrl_0
  have p2_0 : ∀ y' : Past (w.alloc (.cells #[.int .i64 4, .int .i64 (A : Nat), .int .i64 (B : Nat), .int .i64 mn, .int .i64 mx, .int .i64 cap, .bool lz, .int .u64 (wd st 0 : Nat), .int .u64 (wd st 1 : Nat), .int .u64 (wd st 2 : Nat), .int .u64 (wd st 3 : Nat)] 97)), y'.now.cell? ⟨r, 2, none⟩ = some (.int .i64 g) := Past.cell c2_0 hrl_0
  have p3_0 : ∀ y' : Past (w.alloc (.cells #[.int .i64 4, .int .i64 (A : Nat), .int .i64 (B : Nat), .int .i64 mn, .int .i64 mx, .int .i64 cap, .bool lz, .int .u64 (wd st 0 : Nat), .int .u64 (wd st 1 : Nat), .int .u64 (wd st 2 : Nat), .int .u64 (wd st 3 : Nat)] 97)), y'.now.cell? ⟨r, 3, none⟩ = some (.int .i64 0) := Past.cell c3_0 hrl_0
  have p4_0 : ∀ y' : Past (w.alloc (.cells #[.int .i64 4, .int .i64 (A : Nat), .int .i64 (B : Nat), .int .i64 mn, .int .i64 mx, .int .i64 cap, .bool lz, .int .u64 (wd st 0 : Nat), .int .u64 (wd st 1 : Nat), .int .u64 (wd st 2 : Nat), .int .u64 (wd st 3 : Nat)] 97)), y'.now.cell? ⟨r, 4, none⟩ = some (.int .i64 0) := Past.cell c4_0 hrl_0
  have px_0 : ∀ y' : Past (w.alloc (.cells #[.int .i64 4, .int .i64 (A : Nat), .int .i64 (B : Nat), .int .i64 mn, .int .i64 mx, .int .i64 cap, .bool lz, .int .u64 (wd st 0 : Nat), .int .u64 (wd st 1 : Nat), .int .u64 (wd st 2 : Nat), .int .u64 (wd st 3 : Nat)] 97)), y'.now.cell? ⟨w.heap.size, 1, none⟩ = some (.int .i64 (A : Nat)) := Past.cell x_0 hXl_0
  have hcall_0 : ∀ y' : Past (w.alloc (.cells #[.int .i64 4, .int .i64 (A : Nat), .int .i64 (B : Nat), .int .i64 mn, .int .i64 mx, .int .i64 cap, .bool lz, .int .u64 (wd st 0 : Nat), .int .u64 (wd st 1 : Nat), .int .u64 (wd st 2 : Nat), .int .u64 (wd st 3 : Nat)] 97)), Calls Tryz.prog 102 #[.agg #[.slice (some ⟨bk, 0, none⟩) ns.length cp, .int .i64 y, .int .i64 g, .int .i64 0, .int .i64 0], .int .i64 (A : Nat)] y'.now fun e w'' => e = .returned (.int .i64 (0 : Nat)) ∧ ∃ z : Past (w.alloc (.cells #[.int .i64 4, .int .i64 (A : Nat), .int .i64 (B : Nat), .int .i64 mn, .int .i64 mx, .int .i64 cap, .bool lz, .int .u64 (wd st 0 : Nat), .int .u64 (wd st 1 : Nat), .int .u64 (wd st 2 : Nat), .int .u64 (wd st 3 : Nat)] 97)), w'' = z.now := fun y' => Calls.past_of (hA _ (hN_0.frame y'.fr (fun h => h)))
  clear c0_0 c1_0 c2_0 c3_0 c4_0 x_0
  haveI := Past.some (w.alloc (.cells #[.int .i64 4, .int .i64 (A : Nat), .int .i64 (B : Nat), .int .i64 mn, .int .i64 mx, .int .i64 cap, .bool lz, .int .u64 (wd st 0 : Nat), .int .u64 (wd st 1 : Nat), .int .u64 (wd st 2 : Nat), .int .u64 (wd st 3 : Nat)] 97))
  refine wp_region_past (by kernel_rfl) (by kernel_rfl) ?_
  repeat (go_big_quiet_step (exact hcall_0 _))
  refine wpQuiet_nil ?_
  rintro _ ⟨y0, rfl⟩
  have hM1 := hM0.idle y0.fr
  have hX1 := hX0.frame y0.fr (fun h => h)
  have G1 := G0.trans (S := InR r (Old OB w)) (y0.fr.mono (fun _ _ h => h.elim)) (fun _ _ h => h)
  clear p0_0 p1_0 p2_0 p3_0 p4_0 px_0 hcall_0
  have x_1 := hX1.cell (o := 2) (by omega)
  simp only [ndCell] at x_1
  have hXl_1 := hX1.lt
  go_wp2_with fail
  refine (hB _ _ _ _ hM1 (by omega)).mono ?_
  rintro v w2 ⟨u, rfl, hu, hM2', f2⟩
  have hM2 := hM2'.mono (Up.up G1)
  have hX2 := hX1.frame f2 (by have := G1.size; unfold InR Up Old; rw [World.size_alloc] at *; omega)
  have G2 := InR.trans G1 f2
  have Hu : Hid _ := hu
  clear hu hM2'
  go_wp2_with fail
  go_ret
  exact ⟨u, rfl, Hu.out, hM2.end, Old.end G2⟩
set_option maxRecDepth 100000 in
set_option maxHeartbeats 8000000 in
theorem build_cat1 (hM : RM w r bk cp y g ns out OB) (hlen : out.length + ((F : Run) 0).length ≤ 31) (hk24 : (k : Int) < ns.length) (n0 : w.cell? ⟨bk, k * 11, none⟩ = some (.int .i64 4)) (n1 : w.cell? ⟨bk, k * 11 + 1, none⟩ = some (.int .i64 (A : Nat))) (n2 : w.cell? ⟨bk, k * 11 + 2, none⟩ = some (.int .i64 (B : Nat))) (n3 : w.cell? ⟨bk, k * 11 + 3, none⟩ = some (.int .i64 mn)) (n4 : w.cell? ⟨bk, k * 11 + 4, none⟩ = some (.int .i64 mx)) (n5 : w.cell? ⟨bk, k * 11 + 5, none⟩ = some (.int .i64 cap)) (n6 : w.cell? ⟨bk, k * 11 + 6, none⟩ = some (.bool lz)) (n7 : w.cell? ⟨bk, k * 11 + 7, none⟩ = some (.int .u64 (wd st 0 : Nat))) (n8 : w.cell? ⟨bk, k * 11 + 8, none⟩ = some (.int .u64 (wd st 1 : Nat))) (n9 : w.cell? ⟨bk, k * 11 + 9, none⟩ = some (.int .u64 (wd st 2 : Nat))) (n10 : w.cell? ⟨bk, k * 11 + 10, none⟩ = some (.int .u64 (wd st 3 : Nat))) (hA : ShC ns bk cp y g A 2) (hB : ShC ns bk cp y g B 0) (hF : RunC 105 ns bk cp y g A F) :
    Calls Tryz.prog 105 #[.pointer (some ⟨r, 0, none⟩), .int .i64 (k : Nat)] w (RunP w r bk cp y g ns out OB (F)) := by
  obtain ⟨c0, c1, c2, c3, c4, hN, hrl, hbr⟩ := hM.cells
  have hbl : bk < w.heap.size := by omega
  have k0 := (Fr.refl (fun _ => False) w).alloc (.cells #[.int .i64 4, .int .i64 (A : Nat), .int .i64 (B : Nat), .int .i64 mn, .int .i64 mx, .int .i64 cap, .bool lz, .int .u64 (wd st 0 : Nat), .int .u64 (wd st 1 : Nat), .int .u64 (wd st 2 : Nat), .int .u64 (wd st 3 : Nat)] 97)
  have hM0 := (hM.old.idle k0).mono (OB' := Up (Old OB w) (w.alloc (.cells #[.int .i64 4, .int .i64 (A : Nat), .int .i64 (B : Nat), .int .i64 mn, .int .i64 mx, .int .i64 cap, .bool lz, .int .u64 (wd st 0 : Nat), .int .u64 (wd st 1 : Nat), .int .u64 (wd st 2 : Nat), .int .u64 (wd st 3 : Nat)] 97))) (fun _ h => .inl h)
  have G0 := Fr.refl (InR r (Old OB w)) (w.alloc (.cells #[.int .i64 4, .int .i64 (A : Nat), .int .i64 (B : Nat), .int .i64 mn, .int .i64 mx, .int .i64 cap, .bool lz, .int .u64 (wd st 0 : Nat), .int .u64 (wd st 1 : Nat), .int .u64 (wd st 2 : Nat), .int .u64 (wd st 3 : Nat)] 97))
  have hX0 := Blk.nd w ⟨4, (A : Nat), (B : Nat), mn, mx, cap, lz, st⟩
  go_enter Tryz.func105, Tryz.ntmps105
  go_wp2_with fail
  obtain ⟨c0_0, c1_0, c2_0, c3_0, c4_0, hN_0, hrl_0, hbr_0⟩ := hM0.cells
  have x_0 := hX0.cell (o := 1) (by omega)
  simp only [ndCell] at x_0
  have hXl_0 := hX0.lt
  have p0_0 : ∀ y' : Past (w.alloc (.cells #[.int .i64 4, .int .i64 (A : Nat), .int .i64 (B : Nat), .int .i64 mn, .int .i64 mx, .int .i64 cap, .bool lz, .int .u64 (wd st 0 : Nat), .int .u64 (wd st 1 : Nat), .int .u64 (wd st 2 : Nat), .int .u64 (wd st 3 : Nat)] 97)), y'.now.cell? ⟨r, 0, none⟩ = some (.slice (some ⟨bk, 0, none⟩) ns.length cp) := Past.cell c0_0 hrl_0
  have p1_0 : ∀ y' : Past (w.alloc (.cells #[.int .i64 4, .int .i64 (A : Nat), .int .i64 (B : Nat), .int .i64 mn, .int .i64 mx, .int .i64 cap, .bool lz, .int .u64 (wd st 0 : Nat), .int .u64 (wd st 1 : Nat), .int .u64 (wd st 2 : Nat), .int .u64 (wd st 3 : Nat)] 97)), y'.now.cell? ⟨r, 1, none⟩ = some (.int .i64 y) := Past.cell c1_0 hrl_0
  have p2_0 : ∀ y' : Past (w.alloc (.cells #[.int .i64 4, .int .i64 (A : Nat), .int .i64 (B : Nat), .int .i64 mn, .int .i64 mx, .int .i64 cap, .bool lz, .int .u64 (wd st 0 : Nat), .int .u64 (wd st 1 : Nat), .int .u64 (wd st 2 : Nat), .int .u64 (wd st 3 : Nat)] 97)), y'.now.cell? ⟨r, 2, none⟩ = some (.int .i64 g) := Past.cell c2_0 hrl_0
  have p3_0 : ∀ y' : Past (w.alloc (.cells #[.int .i64 4, .int .i64 (A : Nat), .int .i64 (B : Nat), .int .i64 mn, .int .i64 mx, .int .i64 cap, .bool lz, .int .u64 (wd st 0 : Nat), .int .u64 (wd st 1 : Nat), .int .u64 (wd st 2 : Nat), .int .u64 (wd st 3 : Nat)] 97)), y'.now.cell? ⟨r, 3, none⟩ = some (.int .i64 0) := Past.cell c3_0 hrl_0
  have p4_0 : ∀ y' : Past (w.alloc (.cells #[.int .i64 4, .int .i64 (A : Nat), .int .i64 (B : Nat), .int .i64 mn, .int .i64 mx, .int .i64 cap, .bool lz, .int .u64 (wd st 0 : Nat), .int .u64 (wd st 1 : Nat), .int .u64 (wd st 2 : Nat), .int .u64 (wd st 3 : Nat)] 97)), y'.now.cell? ⟨r, 4, none⟩ = some (.int .i64 0) := Past.cell c4_0 hrl_0
  have px_0 : ∀ y' : Past (w.alloc (.cells #[.int .i64 4, .int .i64 (A : Nat), .int .i64 (B : Nat), .int .i64 mn, .int .i64 mx, .int .i64 cap, .bool lz, .int .u64 (wd st 0 : Nat), .int .u64 (wd st 1 : Nat), .int .u64 (wd st 2 : Nat), .int .u64 (wd st 3 : Nat)] 97)), y'.now.cell? ⟨w.heap.size, 1, none⟩ = some (.int .i64 (A : Nat)) := Past.cell x_0 hXl_0
  have hcall_0 : ∀ y' : Past (w.alloc (.cells #[.int .i64 4, .int .i64 (A : Nat), .int .i64 (B : Nat), .int .i64 mn, .int .i64 mx, .int .i64 cap, .bool lz, .int .u64 (wd st 0 : Nat), .int .u64 (wd st 1 : Nat), .int .u64 (wd st 2 : Nat), .int .u64 (wd st 3 : Nat)] 97)), Calls Tryz.prog 102 #[.agg #[.slice (some ⟨bk, 0, none⟩) ns.length cp, .int .i64 y, .int .i64 g, .int .i64 0, .int .i64 0], .int .i64 (A : Nat)] y'.now fun e w'' => e = .returned (.int .i64 (2 : Nat)) ∧ ∃ z : Past (w.alloc (.cells #[.int .i64 4, .int .i64 (A : Nat), .int .i64 (B : Nat), .int .i64 mn, .int .i64 mx, .int .i64 cap, .bool lz, .int .u64 (wd st 0 : Nat), .int .u64 (wd st 1 : Nat), .int .u64 (wd st 2 : Nat), .int .u64 (wd st 3 : Nat)] 97)), w'' = z.now := fun y' => Calls.past_of (hA _ (hN_0.frame y'.fr (fun h => h)))
  clear c0_0 c1_0 c2_0 c3_0 c4_0 x_0
  haveI := Past.some (w.alloc (.cells #[.int .i64 4, .int .i64 (A : Nat), .int .i64 (B : Nat), .int .i64 mn, .int .i64 mx, .int .i64 cap, .bool lz, .int .u64 (wd st 0 : Nat), .int .u64 (wd st 1 : Nat), .int .u64 (wd st 2 : Nat), .int .u64 (wd st 3 : Nat)] 97))
  refine wp_region_past (by kernel_rfl) (by kernel_rfl) ?_
  repeat (go_big_quiet_step (exact hcall_0 _))
  refine wpQuiet_nil ?_
  rintro _ ⟨y0, rfl⟩
  have hM1 := hM0.idle y0.fr
  have hX1 := hX0.frame y0.fr (fun h => h)
  have G1 := G0.trans (S := InR r (Old OB w)) (y0.fr.mono (fun _ _ h => h.elim)) (fun _ _ h => h)
  clear p0_0 p1_0 p2_0 p3_0 p4_0 px_0 hcall_0
  go_wp2_with fail
  obtain ⟨c0_1, c1_1, c2_1, c3_1, c4_1, hN_1, hrl_1, hbr_1⟩ := hM1.cells
  have x_1 := hX1.cell (o := 2) (by omega)
  simp only [ndCell] at x_1
  have hXl_1 := hX1.lt
  have p0_1 : ∀ y' : Past y0.now, y'.now.cell? ⟨r, 0, none⟩ = some (.slice (some ⟨bk, 0, none⟩) ns.length cp) := Past.cell c0_1 hrl_1
  have p1_1 : ∀ y' : Past y0.now, y'.now.cell? ⟨r, 1, none⟩ = some (.int .i64 y) := Past.cell c1_1 hrl_1
  have p2_1 : ∀ y' : Past y0.now, y'.now.cell? ⟨r, 2, none⟩ = some (.int .i64 g) := Past.cell c2_1 hrl_1
  have p3_1 : ∀ y' : Past y0.now, y'.now.cell? ⟨r, 3, none⟩ = some (.int .i64 0) := Past.cell c3_1 hrl_1
  have p4_1 : ∀ y' : Past y0.now, y'.now.cell? ⟨r, 4, none⟩ = some (.int .i64 0) := Past.cell c4_1 hrl_1
  have px_1 : ∀ y' : Past y0.now, y'.now.cell? ⟨w.heap.size, 2, none⟩ = some (.int .i64 (B : Nat)) := Past.cell x_1 hXl_1
  have hcall_1 : ∀ y' : Past y0.now, Calls Tryz.prog 102 #[.agg #[.slice (some ⟨bk, 0, none⟩) ns.length cp, .int .i64 y, .int .i64 g, .int .i64 0, .int .i64 0], .int .i64 (B : Nat)] y'.now fun e w'' => e = .returned (.int .i64 (0 : Nat)) ∧ ∃ z : Past y0.now, w'' = z.now := fun y' => Calls.past_of (hB _ (hN_1.frame y'.fr (fun h => h)))
  clear c0_1 c1_1 c2_1 c3_1 c4_1 x_1
  haveI := Past.some y0.now
  refine wp_region_past (by kernel_rfl) (by kernel_rfl) ?_
  repeat (go_big_quiet_step (exact hcall_1 _))
  refine wpQuiet_nil ?_
  rintro _ ⟨y1, rfl⟩
  have hM2 := hM1.idle y1.fr
  have hX2 := hX1.frame y1.fr (fun h => h)
  have G2 := G1.trans (S := InR r (Old OB w)) (y1.fr.mono (fun _ _ h => h.elim)) (fun _ _ h => h)
  clear p0_1 p1_1 p2_1 p3_1 p4_1 px_1 hcall_1
  have x_2 := hX2.cell (o := 1) (by omega)
  simp only [ndCell] at x_2
  have hXl_2 := hX2.lt
  go_wp2_with fail
  refine (hF _ _ _ _ hM2 (by omega)).mono ?_
  rintro v w3 ⟨u, rfl, hu, hM3', f3⟩
  have hM3 := hM3'.mono (Up.up G2)
  have hX3 := hX2.frame f3 (by have := G2.size; unfold InR Up Old; rw [World.size_alloc] at *; omega)
  have G3 := InR.trans G2 f3
  have Hu : Hid _ := hu
  clear hu hM3'
  go_wp2_with fail
  go_ret
  exact ⟨u, rfl, Hu.out, hM3.end, Old.end G3⟩
set_option maxRecDepth 100000 in
set_option maxHeartbeats 8000000 in
theorem build_cat2 (hM : RM w r bk cp y g ns out OB) (hlen : out.length + ((joinW catNd F G : Run) 0).length ≤ 31) (hk24 : (k : Int) < ns.length) (n0 : w.cell? ⟨bk, k * 11, none⟩ = some (.int .i64 4)) (n1 : w.cell? ⟨bk, k * 11 + 1, none⟩ = some (.int .i64 (A : Nat))) (n2 : w.cell? ⟨bk, k * 11 + 2, none⟩ = some (.int .i64 (B : Nat))) (n3 : w.cell? ⟨bk, k * 11 + 3, none⟩ = some (.int .i64 mn)) (n4 : w.cell? ⟨bk, k * 11 + 4, none⟩ = some (.int .i64 mx)) (n5 : w.cell? ⟨bk, k * 11 + 5, none⟩ = some (.int .i64 cap)) (n6 : w.cell? ⟨bk, k * 11 + 6, none⟩ = some (.bool lz)) (n7 : w.cell? ⟨bk, k * 11 + 7, none⟩ = some (.int .u64 (wd st 0 : Nat))) (n8 : w.cell? ⟨bk, k * 11 + 8, none⟩ = some (.int .u64 (wd st 1 : Nat))) (n9 : w.cell? ⟨bk, k * 11 + 9, none⟩ = some (.int .u64 (wd st 2 : Nat))) (n10 : w.cell? ⟨bk, k * 11 + 10, none⟩ = some (.int .u64 (wd st 3 : Nat))) (hA : ShC ns bk cp y g A 2) (hB : ShC ns bk cp y g B 2) (hF : Mv F) (hG : Mv G) (rF : RunC 105 ns bk cp y g A F) (rG : RunC 105 ns bk cp y g B G) :
    Calls Tryz.prog 105 #[.pointer (some ⟨r, 0, none⟩), .int .i64 (k : Nat)] w (RunP w r bk cp y g ns out OB (joinW catNd F G)) := by
  obtain ⟨c0, c1, c2, c3, c4, hN, hrl, hbr⟩ := hM.cells
  have hbl : bk < w.heap.size := by omega
  have k0 := (Fr.refl (fun _ => False) w).alloc (.cells #[.int .i64 4, .int .i64 (A : Nat), .int .i64 (B : Nat), .int .i64 mn, .int .i64 mx, .int .i64 cap, .bool lz, .int .u64 (wd st 0 : Nat), .int .u64 (wd st 1 : Nat), .int .u64 (wd st 2 : Nat), .int .u64 (wd st 3 : Nat)] 97)
  have hM0 := (hM.old.idle k0).mono (OB' := Up (Old OB w) (w.alloc (.cells #[.int .i64 4, .int .i64 (A : Nat), .int .i64 (B : Nat), .int .i64 mn, .int .i64 mx, .int .i64 cap, .bool lz, .int .u64 (wd st 0 : Nat), .int .u64 (wd st 1 : Nat), .int .u64 (wd st 2 : Nat), .int .u64 (wd st 3 : Nat)] 97))) (fun _ h => .inl h)
  have G0 := Fr.refl (InR r (Old OB w)) (w.alloc (.cells #[.int .i64 4, .int .i64 (A : Nat), .int .i64 (B : Nat), .int .i64 mn, .int .i64 mx, .int .i64 cap, .bool lz, .int .u64 (wd st 0 : Nat), .int .u64 (wd st 1 : Nat), .int .u64 (wd st 2 : Nat), .int .u64 (wd st 3 : Nat)] 97))
  have hX0 := Blk.nd w ⟨4, (A : Nat), (B : Nat), mn, mx, cap, lz, st⟩
  rw [joinW_len hF hG] at hlen
  have hFn := hF.ne
  have hGn := hG.ne
  go_enter Tryz.func105, Tryz.ntmps105
  go_wp2_with fail
  obtain ⟨c0_0, c1_0, c2_0, c3_0, c4_0, hN_0, hrl_0, hbr_0⟩ := hM0.cells
  have x_0 := hX0.cell (o := 1) (by omega)
  simp only [ndCell] at x_0
  have hXl_0 := hX0.lt
  have p0_0 : ∀ y' : Past (w.alloc (.cells #[.int .i64 4, .int .i64 (A : Nat), .int .i64 (B : Nat), .int .i64 mn, .int .i64 mx, .int .i64 cap, .bool lz, .int .u64 (wd st 0 : Nat), .int .u64 (wd st 1 : Nat), .int .u64 (wd st 2 : Nat), .int .u64 (wd st 3 : Nat)] 97)), y'.now.cell? ⟨r, 0, none⟩ = some (.slice (some ⟨bk, 0, none⟩) ns.length cp) := Past.cell c0_0 hrl_0
  have p1_0 : ∀ y' : Past (w.alloc (.cells #[.int .i64 4, .int .i64 (A : Nat), .int .i64 (B : Nat), .int .i64 mn, .int .i64 mx, .int .i64 cap, .bool lz, .int .u64 (wd st 0 : Nat), .int .u64 (wd st 1 : Nat), .int .u64 (wd st 2 : Nat), .int .u64 (wd st 3 : Nat)] 97)), y'.now.cell? ⟨r, 1, none⟩ = some (.int .i64 y) := Past.cell c1_0 hrl_0
  have p2_0 : ∀ y' : Past (w.alloc (.cells #[.int .i64 4, .int .i64 (A : Nat), .int .i64 (B : Nat), .int .i64 mn, .int .i64 mx, .int .i64 cap, .bool lz, .int .u64 (wd st 0 : Nat), .int .u64 (wd st 1 : Nat), .int .u64 (wd st 2 : Nat), .int .u64 (wd st 3 : Nat)] 97)), y'.now.cell? ⟨r, 2, none⟩ = some (.int .i64 g) := Past.cell c2_0 hrl_0
  have p3_0 : ∀ y' : Past (w.alloc (.cells #[.int .i64 4, .int .i64 (A : Nat), .int .i64 (B : Nat), .int .i64 mn, .int .i64 mx, .int .i64 cap, .bool lz, .int .u64 (wd st 0 : Nat), .int .u64 (wd st 1 : Nat), .int .u64 (wd st 2 : Nat), .int .u64 (wd st 3 : Nat)] 97)), y'.now.cell? ⟨r, 3, none⟩ = some (.int .i64 0) := Past.cell c3_0 hrl_0
  have p4_0 : ∀ y' : Past (w.alloc (.cells #[.int .i64 4, .int .i64 (A : Nat), .int .i64 (B : Nat), .int .i64 mn, .int .i64 mx, .int .i64 cap, .bool lz, .int .u64 (wd st 0 : Nat), .int .u64 (wd st 1 : Nat), .int .u64 (wd st 2 : Nat), .int .u64 (wd st 3 : Nat)] 97)), y'.now.cell? ⟨r, 4, none⟩ = some (.int .i64 0) := Past.cell c4_0 hrl_0
  have px_0 : ∀ y' : Past (w.alloc (.cells #[.int .i64 4, .int .i64 (A : Nat), .int .i64 (B : Nat), .int .i64 mn, .int .i64 mx, .int .i64 cap, .bool lz, .int .u64 (wd st 0 : Nat), .int .u64 (wd st 1 : Nat), .int .u64 (wd st 2 : Nat), .int .u64 (wd st 3 : Nat)] 97)), y'.now.cell? ⟨w.heap.size, 1, none⟩ = some (.int .i64 (A : Nat)) := Past.cell x_0 hXl_0
  have hcall_0 : ∀ y' : Past (w.alloc (.cells #[.int .i64 4, .int .i64 (A : Nat), .int .i64 (B : Nat), .int .i64 mn, .int .i64 mx, .int .i64 cap, .bool lz, .int .u64 (wd st 0 : Nat), .int .u64 (wd st 1 : Nat), .int .u64 (wd st 2 : Nat), .int .u64 (wd st 3 : Nat)] 97)), Calls Tryz.prog 102 #[.agg #[.slice (some ⟨bk, 0, none⟩) ns.length cp, .int .i64 y, .int .i64 g, .int .i64 0, .int .i64 0], .int .i64 (A : Nat)] y'.now fun e w'' => e = .returned (.int .i64 (2 : Nat)) ∧ ∃ z : Past (w.alloc (.cells #[.int .i64 4, .int .i64 (A : Nat), .int .i64 (B : Nat), .int .i64 mn, .int .i64 mx, .int .i64 cap, .bool lz, .int .u64 (wd st 0 : Nat), .int .u64 (wd st 1 : Nat), .int .u64 (wd st 2 : Nat), .int .u64 (wd st 3 : Nat)] 97)), w'' = z.now := fun y' => Calls.past_of (hA _ (hN_0.frame y'.fr (fun h => h)))
  clear c0_0 c1_0 c2_0 c3_0 c4_0 x_0
  haveI := Past.some (w.alloc (.cells #[.int .i64 4, .int .i64 (A : Nat), .int .i64 (B : Nat), .int .i64 mn, .int .i64 mx, .int .i64 cap, .bool lz, .int .u64 (wd st 0 : Nat), .int .u64 (wd st 1 : Nat), .int .u64 (wd st 2 : Nat), .int .u64 (wd st 3 : Nat)] 97))
  refine wp_region_past (by kernel_rfl) (by kernel_rfl) ?_
  repeat (go_big_quiet_step (exact hcall_0 _))
  refine wpQuiet_nil ?_
  rintro _ ⟨y0, rfl⟩
  have hM1 := hM0.idle y0.fr
  have hX1 := hX0.frame y0.fr (fun h => h)
  have G1 := G0.trans (S := InR r (Old OB w)) (y0.fr.mono (fun _ _ h => h.elim)) (fun _ _ h => h)
  clear p0_0 p1_0 p2_0 p3_0 p4_0 px_0 hcall_0
  go_wp2_with fail
  obtain ⟨c0_1, c1_1, c2_1, c3_1, c4_1, hN_1, hrl_1, hbr_1⟩ := hM1.cells
  have x_1 := hX1.cell (o := 2) (by omega)
  simp only [ndCell] at x_1
  have hXl_1 := hX1.lt
  have p0_1 : ∀ y' : Past y0.now, y'.now.cell? ⟨r, 0, none⟩ = some (.slice (some ⟨bk, 0, none⟩) ns.length cp) := Past.cell c0_1 hrl_1
  have p1_1 : ∀ y' : Past y0.now, y'.now.cell? ⟨r, 1, none⟩ = some (.int .i64 y) := Past.cell c1_1 hrl_1
  have p2_1 : ∀ y' : Past y0.now, y'.now.cell? ⟨r, 2, none⟩ = some (.int .i64 g) := Past.cell c2_1 hrl_1
  have p3_1 : ∀ y' : Past y0.now, y'.now.cell? ⟨r, 3, none⟩ = some (.int .i64 0) := Past.cell c3_1 hrl_1
  have p4_1 : ∀ y' : Past y0.now, y'.now.cell? ⟨r, 4, none⟩ = some (.int .i64 0) := Past.cell c4_1 hrl_1
  have px_1 : ∀ y' : Past y0.now, y'.now.cell? ⟨w.heap.size, 2, none⟩ = some (.int .i64 (B : Nat)) := Past.cell x_1 hXl_1
  have hcall_1 : ∀ y' : Past y0.now, Calls Tryz.prog 102 #[.agg #[.slice (some ⟨bk, 0, none⟩) ns.length cp, .int .i64 y, .int .i64 g, .int .i64 0, .int .i64 0], .int .i64 (B : Nat)] y'.now fun e w'' => e = .returned (.int .i64 (2 : Nat)) ∧ ∃ z : Past y0.now, w'' = z.now := fun y' => Calls.past_of (hB _ (hN_1.frame y'.fr (fun h => h)))
  clear c0_1 c1_1 c2_1 c3_1 c4_1 x_1
  haveI := Past.some y0.now
  refine wp_region_past (by kernel_rfl) (by kernel_rfl) ?_
  repeat (go_big_quiet_step (exact hcall_1 _))
  refine wpQuiet_nil ?_
  rintro _ ⟨y1, rfl⟩
  have hM2 := hM1.idle y1.fr
  have hX2 := hX1.frame y1.fr (fun h => h)
  have G2 := G1.trans (S := InR r (Old OB w)) (y1.fr.mono (fun _ _ h => h.elim)) (fun _ _ h => h)
  clear p0_1 p1_1 p2_1 p3_1 p4_1 px_1 hcall_1
  have x_2 := hX2.cell (o := 1) (by omega)
  simp only [ndCell] at x_2
  have hXl_2 := hX2.lt
  go_wp2_with fail
  refine (rF _ _ _ _ hM2 (by omega)).mono ?_
  rintro v w3 ⟨u, rfl, hu, hM3', f3⟩
  have hM3 := hM3'.mono (Up.up G2)
  have hX3 := hX2.frame f3 (by have := G2.size; unfold InR Up Old; rw [World.size_alloc] at *; omega)
  have G3 := InR.trans G2 f3
  have Hu : Hid _ := hu
  clear hu hM3'
  have x_3 := hX3.cell (o := 2) (by omega)
  simp only [ndCell] at x_3
  have hXl_3 := hX3.lt
  go_wp2_with fail
  refine (rG _ _ _ _ hM3 (by rw [List.length_append, hF.len]; omega)).mono ?_
  rintro v w4 ⟨v, rfl, hv, hM4', f4⟩
  have hM4 := hM4'.mono (Up.up G3)
  have hX4 := hX3.frame f4 (by have := G3.size; unfold InR Up Old; rw [World.size_alloc] at *; omega)
  have G4 := InR.trans G3 f4
  have Hv : Hid _ := hv
  clear hv hM4'
  have hol : (out ++ F out.length ++ G (out ++ F out.length).length).length ≤ 31 := by simp only [List.length_append, hF.len, hG.len]; omega
  clear hX4 x_3
  go_wp2_with fail
  rw [← ndV_cat]
  refine (addU_any (catNd u v) hM4 hol).mono ?_
  rintro _ w9 ⟨c9, C9, rfl, hM9', f9⟩
  have hM9 := hM9'.mono (Up.up G4)
  have G9 := InR.trans G4 f9
  go_wp2_with fail
  go_ret
  have hE := join_tail (mk := catNd) hF hG Hu.out Hv.out
  rw [hE] at hM9
  refine ⟨c9, rfl, ?_, hM9.end, Old.end G9⟩
  rw [C9.out, joinW_len hF hG]
  simp only [List.length_append, hF.len, hG.len]
  omega
end
end Go.Proofs.Qxb6500283aGreat
