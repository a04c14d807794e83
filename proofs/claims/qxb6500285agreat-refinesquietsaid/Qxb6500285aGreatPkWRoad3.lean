import Derived.Test.Qxb6500285aGreatPkWRoad2
namespace Go.Proofs.Qxb6500285aGreat
open Go Go.RowKit

set_option maxRecDepth 100000 in
set_option maxHeartbeats 2000000 in
theorem road_split_yes {p : List In} {pb cap : Nat} (hok : OkProg p) {str : ByteArray} (hsz : str.size ≤ 256) {fuel : Nat} {N : Nat} (hN : N = p.length * (str.size + 1)) (ih : RoadC p pb cap str N fuel) (w : World) (pc i : Nat) (c : Nat → Int) (sb scap : Nat) (sn : Nat → Bool)
    (hp : PAt w pb p) (hne : pb ≠ sb) (hb : Blk w sb N (bools sn)) (hpc : pc < p.length) (hi : i ≤ str.size) (hu : unseen sn N < fuel + 1) (hsn : sn (pc * (str.size + 1) + i) = false) (hop : p[pc].op = 1) (q r : Nat) (hx : p[pc].x = q) (hy : p[pc].y = r) (hq : q < p.length) (_hr : r < p.length) (hk : (roadS p str fuel q i c (upd sn (pc * (str.size + 1) + i) true)).ok = true) :
    Calls Tryz.prog 53 #[.slice (some ⟨pb, 0, none⟩) p.length cap, .string str, .int .i64 pc, .int .i64 i, capsV c, .slice (some ⟨sb, 0, none⟩) N scap] w fun e w' =>
      e = .returned (.tuple #[.bool (roadS p str (fuel + 1) pc i c sn).ok, capsV (roadS p str (fuel + 1) pc i c sn).c, .int .i64 (roadS p str (fuel + 1) pc i c sn).e]) ∧
      Blk w' sb N (bools (roadS p str (fuel + 1) pc i c sn).sn) ∧ Fr (fun b => b = sb) w w' := by
  have hm := hok.max
  obtain ⟨M, hM⟩ : ∃ M, M = pc * (str.size + 1) := ⟨_, rfl⟩
  have hMN : M + (str.size + 1) ≤ N := by rw [hM, hN, ← Nat.succ_mul]; exact Nat.mul_le_mul_right _ hpc
  have hN2 : N ≤ 64 * 257 := by rw [hN]; exact Nat.mul_le_mul hm (by omega)
  have hMi : (pc : Int) * ((str.size : Int) + 1) = (M : Int) := by rw [hM]; simp
  have hRd : roadS p str (fuel + 1) pc i c sn = roadS p str fuel q i c (upd sn (M + i) true) := by simp [roadS, hpc, hsn, hop, hx, hk, hM]
  rw [hRd]
  rw [← hM] at hsn
  have c1 : w.cell? ⟨sb, M + i, none⟩ = some (.bool (sn (M + i))) := hb.cell (by omega)
  rw [hsn] at c1
  have hsb := hb.lt
  have Hu : Hid _ := hu
  have HM : Hid _ := hM
  clear hu hN hM hRd
  rw [show capsV c = Value.agg #[.int .i64 (c 0), .int .i64 (c 1), .int .i64 (c 2), .int .i64 (c 3), .int .i64 (c 4), .int .i64 (c 5), .int .i64 (c 6), .int .i64 (c 7)] from rfl]
  have g1 := hb.frozen (M + i)
  have w0b : Blk (w.setCell ⟨sb, M + i, none⟩ (.bool true)) sb N (bools (upd sn (M + i) true)) := by have := hb.set (M + i) (.bool true); rwa [bools_upd] at this
  have w0f : Fr (fun b => b = sb) w (w.setCell ⟨sb, M + i, none⟩ (.bool true)) := (Fr.refl _ _).setC _ _ _ (fun _ => rfl)
  have hu1 : Hid (unseen (upd sn (M + i) true) N < fuel) := by have h1 := unseen_upd sn N (M + i) (by omega) hsn; have h2 := Hu.out; exact (by omega : unseen (upd sn (M + i) true) N < fuel)
  have hne2 : sb ≠ pb := fun e => hne e.symm
  have i0 := hp pc hpc 0 (by omega)
  have i1 := hp pc hpc 1 (by omega)
  have i2 := hp pc hpc 2 (by omega)
  have i3 := hp pc hpc 3 (by omega)
  have i4 := hp pc hpc 4 (by omega)
  have i5 := hp pc hpc 5 (by omega)
  have i6 := hp pc hpc 6 (by omega)
  simp only [inCell, Nat.add_zero, hop, hx, hy] at i0 i1 i2 i3 i4 i5 i6
  have hpl : pb < w.heap.size := World.block_lt_of_cell? w _ i0
  clear hsn
  have Hk : Hid ((roadS p str fuel q i c (upd sn (M + i) true)).ok = true) := by have := hk; rwa [← HM.out] at this
  clear hop hx hy hk
  go_enter Tryz.func53, Tryz.ntmps53
  go_wp2_with fail
  refine (ih _ q i c sb scap _ (hp.frame (((w0f.alloc _).alloc _).alloc _) (by simpa using hne)) hne (((w0b.alloc _).alloc _).alloc _) hq hi hu1.out).mono ?_
  rintro e w1 ⟨rfl, b1, f1⟩
  have hc := f1.cellAt (b := w.heap.size + 1) (by simp) (by omega)
  have hf := f1.frozenAt (b := w.heap.size + 1) (by simp) (by omega)
  have hc0 := f1.cellAt (b := w.heap.size) (by simp; omega) (by omega)
  have hcx := f1.cellAt (b := w.heap.size + 1 + 1) (by simp) (by omega)
  simp [go_sem] at hc hf hc0 hcx
  have hz1 : w.heap.size + 2 < w1.heap.size := by have := f1.size; simp at this; omega
  have hz2 : w.heap.size + 1 < w1.heap.size := by omega
  have hz3 : w.heap.size < w1.heap.size := by omega
  rw [Hk.out]
  unfold capsV
  go_wp2_with fail
  refine wp_region_text (by kernel_rfl) (by kernel_rfl) ?_
  go_wp2_with fail
  refine ⟨by kernel_rfl, ?_⟩
  go_wp2_with fail
  refine bodyPost_ret (v := .tuple #[.bool true, capsV (roadS p str fuel q i c (upd sn (M + i) true)).c, .int .i64 (roadS p str fuel q i c (upd sn (M + i) true)).e]) (by simp [results, Tryz.results53, go_sem, capsV, hc, hz2]) rfl ⟨by rw [Hk.out], ?_, ?_⟩
  · exact ((Blk.far8 b1 (by omega) _ _ _ _ _ _ _ _).alloc _).drew
  · refine Fr.drew (Fr.alloc ?_ _)
    repeat' refine Fr.setNew ?_ (by omega)
    exact (((w0f.alloc _).alloc _).alloc _).trans f1 (fun _ _ h => h)
set_option maxRecDepth 100000 in
set_option maxHeartbeats 2000000 in
theorem road_split_no {p : List In} {pb cap : Nat} (hok : OkProg p) {str : ByteArray} (hsz : str.size ≤ 256) {fuel : Nat} {N : Nat} (hN : N = p.length * (str.size + 1)) (ih : RoadC p pb cap str N fuel) (w : World) (pc i : Nat) (c : Nat → Int) (sb scap : Nat) (sn : Nat → Bool)
    (hp : PAt w pb p) (hne : pb ≠ sb) (hb : Blk w sb N (bools sn)) (hpc : pc < p.length) (hi : i ≤ str.size) (hu : unseen sn N < fuel + 1) (hsn : sn (pc * (str.size + 1) + i) = false) (hop : p[pc].op = 1) (q r : Nat) (hx : p[pc].x = q) (hy : p[pc].y = r) (hq : q < p.length) (hr : r < p.length) (hk : (roadS p str fuel q i c (upd sn (pc * (str.size + 1) + i) true)).ok = false) :
    Calls Tryz.prog 53 #[.slice (some ⟨pb, 0, none⟩) p.length cap, .string str, .int .i64 pc, .int .i64 i, capsV c, .slice (some ⟨sb, 0, none⟩) N scap] w fun e w' =>
      e = .returned (.tuple #[.bool (roadS p str (fuel + 1) pc i c sn).ok, capsV (roadS p str (fuel + 1) pc i c sn).c, .int .i64 (roadS p str (fuel + 1) pc i c sn).e]) ∧
      Blk w' sb N (bools (roadS p str (fuel + 1) pc i c sn).sn) ∧ Fr (fun b => b = sb) w w' := by
  have hm := hok.max
  obtain ⟨M, hM⟩ : ∃ M, M = pc * (str.size + 1) := ⟨_, rfl⟩
  have hMN : M + (str.size + 1) ≤ N := by rw [hM, hN, ← Nat.succ_mul]; exact Nat.mul_le_mul_right _ hpc
  have hN2 : N ≤ 64 * 257 := by rw [hN]; exact Nat.mul_le_mul hm (by omega)
  have hMi : (pc : Int) * ((str.size : Int) + 1) = (M : Int) := by rw [hM]; simp
  have hRd : roadS p str (fuel + 1) pc i c sn = roadS p str fuel r i c (roadS p str fuel q i c (upd sn (M + i) true)).sn := by simp [roadS, hpc, hsn, hop, hx, hy, hk, hM]
  rw [hRd]
  rw [← hM] at hsn
  have c1 : w.cell? ⟨sb, M + i, none⟩ = some (.bool (sn (M + i))) := hb.cell (by omega)
  rw [hsn] at c1
  have hsb := hb.lt
  have Hu : Hid _ := hu
  have HM : Hid _ := hM
  clear hu hN hM hRd
  rw [show capsV c = Value.agg #[.int .i64 (c 0), .int .i64 (c 1), .int .i64 (c 2), .int .i64 (c 3), .int .i64 (c 4), .int .i64 (c 5), .int .i64 (c 6), .int .i64 (c 7)] from rfl]
  have g1 := hb.frozen (M + i)
  have w0b : Blk (w.setCell ⟨sb, M + i, none⟩ (.bool true)) sb N (bools (upd sn (M + i) true)) := by have := hb.set (M + i) (.bool true); rwa [bools_upd] at this
  have w0f : Fr (fun b => b = sb) w (w.setCell ⟨sb, M + i, none⟩ (.bool true)) := (Fr.refl _ _).setC _ _ _ (fun _ => rfl)
  have hu1 : Hid (unseen (upd sn (M + i) true) N < fuel) := by have h1 := unseen_upd sn N (M + i) (by omega) hsn; have h2 := Hu.out; exact (by omega : unseen (upd sn (M + i) true) N < fuel)
  have hne2 : sb ≠ pb := fun e => hne e.symm
  have i0 := hp pc hpc 0 (by omega)
  have i1 := hp pc hpc 1 (by omega)
  have i2 := hp pc hpc 2 (by omega)
  have i3 := hp pc hpc 3 (by omega)
  have i4 := hp pc hpc 4 (by omega)
  have i5 := hp pc hpc 5 (by omega)
  have i6 := hp pc hpc 6 (by omega)
  simp only [inCell, Nat.add_zero, hop, hx, hy] at i0 i1 i2 i3 i4 i5 i6
  have hpl : pb < w.heap.size := World.block_lt_of_cell? w _ i0
  clear hsn
  have Hk : Hid ((roadS p str fuel q i c (upd sn (M + i) true)).ok = false) := by have := hk; rwa [← HM.out] at this
  clear hop hx hy hk
  go_enter Tryz.func53, Tryz.ntmps53
  go_wp2_with fail
  refine (ih _ q i c sb scap _ (hp.frame (((w0f.alloc _).alloc _).alloc _) (by simpa using hne)) hne (((w0b.alloc _).alloc _).alloc _) hq hi hu1.out).mono ?_
  rintro e w1 ⟨rfl, b1, f1⟩
  have hc := f1.cellAt (b := w.heap.size + 1) (by simp) (by omega)
  have hf := f1.frozenAt (b := w.heap.size + 1) (by simp) (by omega)
  have hc0 := f1.cellAt (b := w.heap.size) (by simp; omega) (by omega)
  have hcx := f1.cellAt (b := w.heap.size + 1 + 1) (by simp) (by omega)
  simp [go_sem] at hc hf hc0 hcx
  have hz1 : w.heap.size + 2 < w1.heap.size := by have := f1.size; simp at this; omega
  have hz2 : w.heap.size + 1 < w1.heap.size := by omega
  have hz3 : w.heap.size < w1.heap.size := by omega
  rw [Hk.out]
  unfold capsV
  go_wp2_with fail
  refine (ih _ r i c sb scap _ (hp.frame (((((w0f.alloc _).alloc _).alloc _).trans f1 (fun _ _ h => h)).alloc _) (by simpa using hne)) hne (b1.alloc _) hr hi (Nat.lt_of_le_of_lt (unseen_mono N (fun o h => roadS_mono p str fuel q i c _ o h)) hu1.out)).mono ?_
  rintro e w2 ⟨rfl, b2, f2⟩
  have hd := f2.cellAt (b := w.heap.size + 1) (by simp; omega) (by omega)
  have he := f2.frozenAt (b := w.heap.size + 1) (by simp; omega) (by omega)
  simp [go_sem, hz2, hc, hf] at hd he
  unfold capsV
  go_wp2_with fail
  refine bodyPost_ret (v := .tuple #[.bool (roadS p str fuel r i c (roadS p str fuel q i c (upd sn (M + i) true)).sn).ok, capsV (roadS p str fuel r i c (roadS p str fuel q i c (upd sn (M + i) true)).sn).c, .int .i64 (roadS p str fuel r i c (roadS p str fuel q i c (upd sn (M + i) true)).sn).e]) (by simp [results, Tryz.results53, go_sem, capsV, hd]) rfl ⟨rfl, Blk.far8 b2 (by omega) _ _ _ _ _ _ _ _, ?_⟩
  repeat' refine Fr.setNew ?_ (by omega)
  exact (((((w0f.alloc _).alloc _).alloc _).trans f1 (fun _ _ h => h)).alloc _).trans f2 (fun _ _ h => h)
end Go.Proofs.Qxb6500285aGreat
