/- The model's build: leaves, groups. -/
import Derived.Test.Qxb6500283aGreatM8
namespace Go.Proofs.Qxb6500283aGreat
open Go Go.RowKit

def Old (OB : Nat → Prop) (w : World) (b : Nat) : Prop := OB b ∧ b < w.heap.size
theorem RM.old {w : World} {r bk cp : Nat} {y g : Int} {ns out : List Nd} {OB : Nat → Prop} (h : RM w r bk cp y g ns out OB) : RM w r bk cp y g ns out (Old OB w) := by
  obtain ⟨q, nv, a, b, c, d, e, f⟩ := h
  refine ⟨q, nv, a, b, c, fun b n cc ee => ⟨(d b n cc ee).1, (d b n cc ee).2, ?_⟩, e, f⟩
  rcases c with ⟨rfl, _⟩ | ⟨b', cap, ff, rfl, _, hb, _⟩
  · cases ee
  · cases ee; exact hb.lt
theorem Old.end {w w2 : World} {r : Nat} {OB : Nat → Prop} {o : Obj} (G : Fr (InR r (Old OB w)) (w.alloc o) w2) : Fr (InR r OB) w w2 :=
  ((Fr.refl (fun _ => False) w).alloc o).mono (S' := InR r OB) (fun _ _ h => h.elim) |>.trans G (fun _ _ h => h.elim .inl (fun h => .inr h.1))
theorem RM.end {w w2 : World} {r bk cp : Nat} {y g : Int} {ns out : List Nd} {OB : Nat → Prop} {o : Obj} (h : RM w2 r bk cp y g ns out (Up (Old OB w) (w.alloc o))) : RM w2 r bk cp y g ns out (Up OB w) :=
  h.mono (fun b h => h.elim (fun h => .inl h.1) (fun h => .inr (by rw [World.size_alloc] at h; omega)))
section
variable {ns out : List Nd} {bk cp r : Nat} {y g : Int} {w : World} {k A B : Nat} {mn mx cap : Int} {lz : Bool} {st : BSet} {F G : Run} {c : Nat} {OB : Nat → Prop}
set_option maxRecDepth 100000 in
set_option maxHeartbeats 8000000 in
theorem build_leaf1 (hM : RM w r bk cp y g ns out OB) (hlen : out.length + ((fun _ => [⟨1, -1, -1, mn, mx, cap, lz, st⟩] : Run) 0).length ≤ 31) (hk24 : (k : Int) < ns.length) (n0 : w.cell? ⟨bk, k * 11, none⟩ = some (.int .i64 1)) (n1 : w.cell? ⟨bk, k * 11 + 1, none⟩ = some (.int .i64 (-1))) (n2 : w.cell? ⟨bk, k * 11 + 2, none⟩ = some (.int .i64 (-1))) (n3 : w.cell? ⟨bk, k * 11 + 3, none⟩ = some (.int .i64 mn)) (n4 : w.cell? ⟨bk, k * 11 + 4, none⟩ = some (.int .i64 mx)) (n5 : w.cell? ⟨bk, k * 11 + 5, none⟩ = some (.int .i64 cap)) (n6 : w.cell? ⟨bk, k * 11 + 6, none⟩ = some (.bool lz)) (n7 : w.cell? ⟨bk, k * 11 + 7, none⟩ = some (.int .u64 (wd st 0 : Nat))) (n8 : w.cell? ⟨bk, k * 11 + 8, none⟩ = some (.int .u64 (wd st 1 : Nat))) (n9 : w.cell? ⟨bk, k * 11 + 9, none⟩ = some (.int .u64 (wd st 2 : Nat))) (n10 : w.cell? ⟨bk, k * 11 + 10, none⟩ = some (.int .u64 (wd st 3 : Nat)))  :
    Calls Tryz.prog 105 #[.pointer (some ⟨r, 0, none⟩), .int .i64 (k : Nat)] w (RunP w r bk cp y g ns out OB (fun _ => [⟨1, -1, -1, mn, mx, cap, lz, st⟩])) := by
  obtain ⟨c0, c1, c2, c3, c4, hN, hrl, hbr⟩ := hM.cells
  have hbl : bk < w.heap.size := by omega
  have k0 := (Fr.refl (fun _ => False) w).alloc (.cells #[.int .i64 1, .int .i64 (-1), .int .i64 (-1), .int .i64 mn, .int .i64 mx, .int .i64 cap, .bool lz, .int .u64 (wd st 0 : Nat), .int .u64 (wd st 1 : Nat), .int .u64 (wd st 2 : Nat), .int .u64 (wd st 3 : Nat)] 97)
  have hM0 := (hM.old.idle k0).mono (OB' := Up (Old OB w) (w.alloc (.cells #[.int .i64 1, .int .i64 (-1), .int .i64 (-1), .int .i64 mn, .int .i64 mx, .int .i64 cap, .bool lz, .int .u64 (wd st 0 : Nat), .int .u64 (wd st 1 : Nat), .int .u64 (wd st 2 : Nat), .int .u64 (wd st 3 : Nat)] 97))) (fun _ h => .inl h)
  have G0 := Fr.refl (InR r (Old OB w)) (w.alloc (.cells #[.int .i64 1, .int .i64 (-1), .int .i64 (-1), .int .i64 mn, .int .i64 mx, .int .i64 cap, .bool lz, .int .u64 (wd st 0 : Nat), .int .u64 (wd st 1 : Nat), .int .u64 (wd st 2 : Nat), .int .u64 (wd st 3 : Nat)] 97))
  have hX0 := Blk.nd w ⟨1, (-1), (-1), mn, mx, cap, lz, st⟩
  have hl31 : out.length ≤ 31 := by omega
  clear hlen hX0
  go_enter Tryz.func105, Tryz.ntmps105
  go_wp2_with fail
  refine (addU_any ⟨1, -1, -1, mn, mx, cap, lz, st⟩ hM0 hl31).mono ?_
  rintro v w2 ⟨c2, C2, rfl, hM2, f2⟩
  go_wp2_with fail
  go_ret
  exact ⟨c2, rfl, by rw [C2.out]; rfl, (hM2.mono (Up.up G0)).end, Old.end (InR.trans G0 f2)⟩
set_option maxRecDepth 100000 in
set_option maxHeartbeats 8000000 in
theorem build_leaf2 (hM : RM w r bk cp y g ns out OB) (hlen : out.length + ((fun _ => [⟨2, -1, -1, mn, mx, cap, lz, st⟩] : Run) 0).length ≤ 31) (hk24 : (k : Int) < ns.length) (n0 : w.cell? ⟨bk, k * 11, none⟩ = some (.int .i64 2)) (n1 : w.cell? ⟨bk, k * 11 + 1, none⟩ = some (.int .i64 (-1))) (n2 : w.cell? ⟨bk, k * 11 + 2, none⟩ = some (.int .i64 (-1))) (n3 : w.cell? ⟨bk, k * 11 + 3, none⟩ = some (.int .i64 mn)) (n4 : w.cell? ⟨bk, k * 11 + 4, none⟩ = some (.int .i64 mx)) (n5 : w.cell? ⟨bk, k * 11 + 5, none⟩ = some (.int .i64 cap)) (n6 : w.cell? ⟨bk, k * 11 + 6, none⟩ = some (.bool lz)) (n7 : w.cell? ⟨bk, k * 11 + 7, none⟩ = some (.int .u64 (wd st 0 : Nat))) (n8 : w.cell? ⟨bk, k * 11 + 8, none⟩ = some (.int .u64 (wd st 1 : Nat))) (n9 : w.cell? ⟨bk, k * 11 + 9, none⟩ = some (.int .u64 (wd st 2 : Nat))) (n10 : w.cell? ⟨bk, k * 11 + 10, none⟩ = some (.int .u64 (wd st 3 : Nat)))  :
    Calls Tryz.prog 105 #[.pointer (some ⟨r, 0, none⟩), .int .i64 (k : Nat)] w (RunP w r bk cp y g ns out OB (fun _ => [⟨2, -1, -1, mn, mx, cap, lz, st⟩])) := by
  obtain ⟨c0, c1, c2, c3, c4, hN, hrl, hbr⟩ := hM.cells
  have hbl : bk < w.heap.size := by omega
  have k0 := (Fr.refl (fun _ => False) w).alloc (.cells #[.int .i64 2, .int .i64 (-1), .int .i64 (-1), .int .i64 mn, .int .i64 mx, .int .i64 cap, .bool lz, .int .u64 (wd st 0 : Nat), .int .u64 (wd st 1 : Nat), .int .u64 (wd st 2 : Nat), .int .u64 (wd st 3 : Nat)] 97)
  have hM0 := (hM.old.idle k0).mono (OB' := Up (Old OB w) (w.alloc (.cells #[.int .i64 2, .int .i64 (-1), .int .i64 (-1), .int .i64 mn, .int .i64 mx, .int .i64 cap, .bool lz, .int .u64 (wd st 0 : Nat), .int .u64 (wd st 1 : Nat), .int .u64 (wd st 2 : Nat), .int .u64 (wd st 3 : Nat)] 97))) (fun _ h => .inl h)
  have G0 := Fr.refl (InR r (Old OB w)) (w.alloc (.cells #[.int .i64 2, .int .i64 (-1), .int .i64 (-1), .int .i64 mn, .int .i64 mx, .int .i64 cap, .bool lz, .int .u64 (wd st 0 : Nat), .int .u64 (wd st 1 : Nat), .int .u64 (wd st 2 : Nat), .int .u64 (wd st 3 : Nat)] 97))
  have hX0 := Blk.nd w ⟨2, (-1), (-1), mn, mx, cap, lz, st⟩
  have hl31 : out.length ≤ 31 := by omega
  clear hlen hX0
  go_enter Tryz.func105, Tryz.ntmps105
  go_wp2_with fail
  refine (addU_any ⟨2, -1, -1, mn, mx, cap, lz, st⟩ hM0 hl31).mono ?_
  rintro v w2 ⟨c2, C2, rfl, hM2, f2⟩
  go_wp2_with fail
  go_ret
  exact ⟨c2, rfl, by rw [C2.out]; rfl, (hM2.mono (Up.up G0)).end, Old.end (InR.trans G0 f2)⟩
set_option maxRecDepth 100000 in
set_option maxHeartbeats 8000000 in
theorem build_leaf3 (hM : RM w r bk cp y g ns out OB) (hlen : out.length + ((fun _ => [⟨3, -1, -1, mn, mx, cap, lz, st⟩] : Run) 0).length ≤ 31) (hk24 : (k : Int) < ns.length) (n0 : w.cell? ⟨bk, k * 11, none⟩ = some (.int .i64 3)) (n1 : w.cell? ⟨bk, k * 11 + 1, none⟩ = some (.int .i64 (-1))) (n2 : w.cell? ⟨bk, k * 11 + 2, none⟩ = some (.int .i64 (-1))) (n3 : w.cell? ⟨bk, k * 11 + 3, none⟩ = some (.int .i64 mn)) (n4 : w.cell? ⟨bk, k * 11 + 4, none⟩ = some (.int .i64 mx)) (n5 : w.cell? ⟨bk, k * 11 + 5, none⟩ = some (.int .i64 cap)) (n6 : w.cell? ⟨bk, k * 11 + 6, none⟩ = some (.bool lz)) (n7 : w.cell? ⟨bk, k * 11 + 7, none⟩ = some (.int .u64 (wd st 0 : Nat))) (n8 : w.cell? ⟨bk, k * 11 + 8, none⟩ = some (.int .u64 (wd st 1 : Nat))) (n9 : w.cell? ⟨bk, k * 11 + 9, none⟩ = some (.int .u64 (wd st 2 : Nat))) (n10 : w.cell? ⟨bk, k * 11 + 10, none⟩ = some (.int .u64 (wd st 3 : Nat)))  :
    Calls Tryz.prog 105 #[.pointer (some ⟨r, 0, none⟩), .int .i64 (k : Nat)] w (RunP w r bk cp y g ns out OB (fun _ => [⟨3, -1, -1, mn, mx, cap, lz, st⟩])) := by
  obtain ⟨c0, c1, c2, c3, c4, hN, hrl, hbr⟩ := hM.cells
  have hbl : bk < w.heap.size := by omega
  have k0 := (Fr.refl (fun _ => False) w).alloc (.cells #[.int .i64 3, .int .i64 (-1), .int .i64 (-1), .int .i64 mn, .int .i64 mx, .int .i64 cap, .bool lz, .int .u64 (wd st 0 : Nat), .int .u64 (wd st 1 : Nat), .int .u64 (wd st 2 : Nat), .int .u64 (wd st 3 : Nat)] 97)
  have hM0 := (hM.old.idle k0).mono (OB' := Up (Old OB w) (w.alloc (.cells #[.int .i64 3, .int .i64 (-1), .int .i64 (-1), .int .i64 mn, .int .i64 mx, .int .i64 cap, .bool lz, .int .u64 (wd st 0 : Nat), .int .u64 (wd st 1 : Nat), .int .u64 (wd st 2 : Nat), .int .u64 (wd st 3 : Nat)] 97))) (fun _ h => .inl h)
  have G0 := Fr.refl (InR r (Old OB w)) (w.alloc (.cells #[.int .i64 3, .int .i64 (-1), .int .i64 (-1), .int .i64 mn, .int .i64 mx, .int .i64 cap, .bool lz, .int .u64 (wd st 0 : Nat), .int .u64 (wd st 1 : Nat), .int .u64 (wd st 2 : Nat), .int .u64 (wd st 3 : Nat)] 97))
  have hX0 := Blk.nd w ⟨3, (-1), (-1), mn, mx, cap, lz, st⟩
  have hl31 : out.length ≤ 31 := by omega
  clear hlen hX0
  go_enter Tryz.func105, Tryz.ntmps105
  go_wp2_with fail
  refine (addU_any ⟨3, -1, -1, mn, mx, cap, lz, st⟩ hM0 hl31).mono ?_
  rintro v w2 ⟨c2, C2, rfl, hM2, f2⟩
  go_wp2_with fail
  go_ret
  exact ⟨c2, rfl, by rw [C2.out]; rfl, (hM2.mono (Up.up G0)).end, Old.end (InR.trans G0 f2)⟩
set_option maxRecDepth 100000 in
set_option maxHeartbeats 8000000 in
theorem build_grp (hM : RM w r bk cp y g ns out OB) (hlen : out.length + ((grpW c F : Run) 0).length ≤ 31) (hk24 : (k : Int) < ns.length) (n0 : w.cell? ⟨bk, k * 11, none⟩ = some (.int .i64 7)) (n1 : w.cell? ⟨bk, k * 11 + 1, none⟩ = some (.int .i64 (A : Nat))) (n2 : w.cell? ⟨bk, k * 11 + 2, none⟩ = some (.int .i64 (-1))) (n3 : w.cell? ⟨bk, k * 11 + 3, none⟩ = some (.int .i64 mn)) (n4 : w.cell? ⟨bk, k * 11 + 4, none⟩ = some (.int .i64 mx)) (n5 : w.cell? ⟨bk, k * 11 + 5, none⟩ = some (.int .i64 (c : Nat))) (n6 : w.cell? ⟨bk, k * 11 + 6, none⟩ = some (.bool lz)) (n7 : w.cell? ⟨bk, k * 11 + 7, none⟩ = some (.int .u64 (wd st 0 : Nat))) (n8 : w.cell? ⟨bk, k * 11 + 8, none⟩ = some (.int .u64 (wd st 1 : Nat))) (n9 : w.cell? ⟨bk, k * 11 + 9, none⟩ = some (.int .u64 (wd st 2 : Nat))) (n10 : w.cell? ⟨bk, k * 11 + 10, none⟩ = some (.int .u64 (wd st 3 : Nat))) (hF : Mv F) (hC : RunC 81 ns bk cp y g A F) :
    Calls Tryz.prog 105 #[.pointer (some ⟨r, 0, none⟩), .int .i64 (k : Nat)] w (RunP w r bk cp y g ns out OB (grpW c F)) := by
  obtain ⟨c0, c1, c2, c3, c4, hN, hrl, hbr⟩ := hM.cells
  have hbl : bk < w.heap.size := by omega
  have k0 := (Fr.refl (fun _ => False) w).alloc (.cells #[.int .i64 7, .int .i64 (A : Nat), .int .i64 (-1), .int .i64 mn, .int .i64 mx, .int .i64 (c : Nat), .bool lz, .int .u64 (wd st 0 : Nat), .int .u64 (wd st 1 : Nat), .int .u64 (wd st 2 : Nat), .int .u64 (wd st 3 : Nat)] 97)
  have hM0 := (hM.old.idle k0).mono (OB' := Up (Old OB w) (w.alloc (.cells #[.int .i64 7, .int .i64 (A : Nat), .int .i64 (-1), .int .i64 mn, .int .i64 mx, .int .i64 (c : Nat), .bool lz, .int .u64 (wd st 0 : Nat), .int .u64 (wd st 1 : Nat), .int .u64 (wd st 2 : Nat), .int .u64 (wd st 3 : Nat)] 97))) (fun _ h => .inl h)
  have G0 := Fr.refl (InR r (Old OB w)) (w.alloc (.cells #[.int .i64 7, .int .i64 (A : Nat), .int .i64 (-1), .int .i64 mn, .int .i64 mx, .int .i64 (c : Nat), .bool lz, .int .u64 (wd st 0 : Nat), .int .u64 (wd st 1 : Nat), .int .u64 (wd st 2 : Nat), .int .u64 (wd st 3 : Nat)] 97))
  have hX0 := Blk.nd w ⟨7, (A : Nat), (-1), mn, mx, (c : Nat), lz, st⟩
  have hgl : (grpW c F 0).length = (F 0).length + 1 := by simp [grpW]
  rw [hgl] at hlen
  have hFn := hF.ne
  clear hgl
  go_enter Tryz.func105, Tryz.ntmps105
  go_wp2_with fail
  refine (hC _ _ _ _ hM0 (by omega)).mono ?_
  rintro v w1 ⟨u, rfl, hu, hM1', f1⟩
  have hM1 := hM1'.mono (Up.up G0)
  have G1 := InR.trans G0 f1
  have Hu : Hid _ := hu
  clear hu
  have hX1 := hX0.frame G1 (by unfold InR Old; omega)
  have x5 := hX1.cell (o := 5) (by omega)
  simp only [ndCell] at x5
  have hol : (out ++ F out.length).length ≤ 31 := by rw [List.length_append, hF.len]; omega
  go_wp2_with fail
  rw [← ndV_grp]
  refine (addU_any (grpNd u c) hM1 hol).mono ?_
  rintro v w2 ⟨c2, C2, rfl, hM2', f2⟩
  have hM2 := hM2'.mono (Up.up G1)
  go_wp2_with fail
  go_ret
  have e : out ++ F out.length ++ [grpNd u c] = out ++ grpW c F out.length := by
    unfold grpW
    rw [hF.len, show out.length + (F 0).length - 1 = u by have := Hu.out; omega, List.append_assoc]
  rw [e] at hM2
  refine ⟨c2, rfl, ?_, hM2.end, Old.end (InR.trans G1 f2)⟩
  rw [C2.out, List.length_append, hF.len]
  simp [grpW]
  omega
end
end Go.Proofs.Qxb6500283aGreat
