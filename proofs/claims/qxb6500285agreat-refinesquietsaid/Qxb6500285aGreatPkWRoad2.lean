import Derived.Test.Qxb6500285aGreatPkWRoad
namespace Go.Proofs.Qxb6500285aGreat
open Go Go.RowKit

set_option maxRecDepth 100000 in
set_option maxHeartbeats 2000000 in
theorem road_match {p : List In} {pb cap : Nat} (hok : OkProg p) {str : ByteArray} (hsz : str.size ≤ 256) {fuel : Nat} {N : Nat} (hN : N = p.length * (str.size + 1)) (_ih : RoadC p pb cap str N fuel) (w : World) (pc i : Nat) (c : Nat → Int) (sb scap : Nat) (sn : Nat → Bool)
    (hp : PAt w pb p) (hne : pb ≠ sb) (hb : Blk w sb N (bools sn)) (hpc : pc < p.length) (hi : i ≤ str.size) (hu : unseen sn N < fuel + 1) (hsn : sn (pc * (str.size + 1) + i) = false) (hop : p[pc].op = 6) :
    Calls Tryz.prog 53 #[.slice (some ⟨pb, 0, none⟩) p.length cap, .string str, .int .i64 pc, .int .i64 i, capsV c, .slice (some ⟨sb, 0, none⟩) N scap] w fun e w' =>
      e = .returned (.tuple #[.bool (roadS p str (fuel + 1) pc i c sn).ok, capsV (roadS p str (fuel + 1) pc i c sn).c, .int .i64 (roadS p str (fuel + 1) pc i c sn).e]) ∧
      Blk w' sb N (bools (roadS p str (fuel + 1) pc i c sn).sn) ∧ Fr (fun b => b = sb) w w' := by
  have hm := hok.max
  obtain ⟨M, hM⟩ : ∃ M, M = pc * (str.size + 1) := ⟨_, rfl⟩
  have hMN : M + (str.size + 1) ≤ N := by rw [hM, hN, ← Nat.succ_mul]; exact Nat.mul_le_mul_right _ hpc
  have hN2 : N ≤ 64 * 257 := by rw [hN]; exact Nat.mul_le_mul hm (by omega)
  have hMi : (pc : Int) * ((str.size : Int) + 1) = (M : Int) := by rw [hM]; simp
  have hRd : roadS p str (fuel + 1) pc i c sn = ⟨true, c, i, upd sn (M + i) true⟩ := by simp [roadS, hpc, hsn, hop, hM]
  rw [hRd]
  rw [← hM] at hsn
  have c1 : w.cell? ⟨sb, M + i, none⟩ = some (.bool (sn (M + i))) := hb.cell (by omega)
  rw [hsn] at c1
  have hsb := hb.lt
  have Hu : Hid _ := hu
  have HM : Hid _ := hM
  clear hu hN hM hRd
  rw [show capsV c = Value.agg #[.int .i64 (c 0), .int .i64 (c 1), .int .i64 (c 2), .int .i64 (c 3), .int .i64 (c 4), .int .i64 (c 5), .int .i64 (c 6), .int .i64 (c 7)] from rfl]
  have g1 := hb.frozen (M + i)
  have w0b : Blk (w.setCell ⟨sb, M + i, none⟩ (.bool true)) sb N (bools (upd sn (M + i) true)) := by have := hb.set (M + i) (.bool true); rwa [bools_upd] at this
  have w0f : Fr (fun b => b = sb) w (w.setCell ⟨sb, M + i, none⟩ (.bool true)) := (Fr.refl _ _).setC _ _ _ (fun _ => rfl)
  have hu1 : Hid (unseen (upd sn (M + i) true) N < fuel) := by have h1 := unseen_upd sn N (M + i) (by omega) hsn; have h2 := Hu.out; exact (by omega : unseen (upd sn (M + i) true) N < fuel)
  have hne2 : sb ≠ pb := fun e => hne e.symm
  have i0 := hp pc hpc 0 (by omega)
  have i1 := hp pc hpc 1 (by omega)
  have i2 := hp pc hpc 2 (by omega)
  have i3 := hp pc hpc 3 (by omega)
  have i4 := hp pc hpc 4 (by omega)
  have i5 := hp pc hpc 5 (by omega)
  have i6 := hp pc hpc 6 (by omega)
  simp only [inCell, Nat.add_zero, hop] at i0 i1 i2 i3 i4 i5 i6
  have hpl : pb < w.heap.size := World.block_lt_of_cell? w _ i0
  clear hsn
  clear hop hu1
  go_enter Tryz.func53, Tryz.ntmps53
  go_wp2_with fail
  refine wp_region_text (by kernel_rfl) (by kernel_rfl) ?_
  go_wp2_with fail
  refine ⟨by kernel_rfl, ?_⟩
  go_wp2_with fail
  refine bodyPost_ret (v := .tuple #[.bool true, capsV c, .int .i64 i]) (by simp [results, Tryz.results53, go_sem, capsV]) rfl ⟨rfl, ?_, ?_⟩
  · exact (((w0b.alloc _).alloc _).alloc _).drew
  · exact (((w0f.alloc _).alloc _).alloc _).drew
set_option maxRecDepth 100000 in
set_option maxHeartbeats 2000000 in
theorem road_begin_no {p : List In} {pb cap : Nat} (hok : OkProg p) {str : ByteArray} (hsz : str.size ≤ 256) {fuel : Nat} {N : Nat} (hN : N = p.length * (str.size + 1)) (_ih : RoadC p pb cap str N fuel) (w : World) (pc i : Nat) (c : Nat → Int) (sb scap : Nat) (sn : Nat → Bool)
    (hp : PAt w pb p) (hne : pb ≠ sb) (hb : Blk w sb N (bools sn)) (hpc : pc < p.length) (hi : i ≤ str.size) (hu : unseen sn N < fuel + 1) (hsn : sn (pc * (str.size + 1) + i) = false) (hop : p[pc].op = 4) (hz : ¬ i = 0) :
    Calls Tryz.prog 53 #[.slice (some ⟨pb, 0, none⟩) p.length cap, .string str, .int .i64 pc, .int .i64 i, capsV c, .slice (some ⟨sb, 0, none⟩) N scap] w fun e w' =>
      e = .returned (.tuple #[.bool (roadS p str (fuel + 1) pc i c sn).ok, capsV (roadS p str (fuel + 1) pc i c sn).c, .int .i64 (roadS p str (fuel + 1) pc i c sn).e]) ∧
      Blk w' sb N (bools (roadS p str (fuel + 1) pc i c sn).sn) ∧ Fr (fun b => b = sb) w w' := by
  have hm := hok.max
  obtain ⟨M, hM⟩ : ∃ M, M = pc * (str.size + 1) := ⟨_, rfl⟩
  have hMN : M + (str.size + 1) ≤ N := by rw [hM, hN, ← Nat.succ_mul]; exact Nat.mul_le_mul_right _ hpc
  have hN2 : N ≤ 64 * 257 := by rw [hN]; exact Nat.mul_le_mul hm (by omega)
  have hMi : (pc : Int) * ((str.size : Int) + 1) = (M : Int) := by rw [hM]; simp
  have hRd : roadS p str (fuel + 1) pc i c sn = ⟨false, c, 0, upd sn (M + i) true⟩ := by simp [roadS, hpc, hsn, hop, hz, hM]
  rw [hRd]
  rw [← hM] at hsn
  have c1 : w.cell? ⟨sb, M + i, none⟩ = some (.bool (sn (M + i))) := hb.cell (by omega)
  rw [hsn] at c1
  have hsb := hb.lt
  have Hu : Hid _ := hu
  have HM : Hid _ := hM
  clear hu hN hM hRd
  rw [show capsV c = Value.agg #[.int .i64 (c 0), .int .i64 (c 1), .int .i64 (c 2), .int .i64 (c 3), .int .i64 (c 4), .int .i64 (c 5), .int .i64 (c 6), .int .i64 (c 7)] from rfl]
  have g1 := hb.frozen (M + i)
  have w0b : Blk (w.setCell ⟨sb, M + i, none⟩ (.bool true)) sb N (bools (upd sn (M + i) true)) := by have := hb.set (M + i) (.bool true); rwa [bools_upd] at this
  have w0f : Fr (fun b => b = sb) w (w.setCell ⟨sb, M + i, none⟩ (.bool true)) := (Fr.refl _ _).setC _ _ _ (fun _ => rfl)
  have hu1 : Hid (unseen (upd sn (M + i) true) N < fuel) := by have h1 := unseen_upd sn N (M + i) (by omega) hsn; have h2 := Hu.out; exact (by omega : unseen (upd sn (M + i) true) N < fuel)
  have hne2 : sb ≠ pb := fun e => hne e.symm
  have i0 := hp pc hpc 0 (by omega)
  have i1 := hp pc hpc 1 (by omega)
  have i2 := hp pc hpc 2 (by omega)
  have i3 := hp pc hpc 3 (by omega)
  have i4 := hp pc hpc 4 (by omega)
  have i5 := hp pc hpc 5 (by omega)
  have i6 := hp pc hpc 6 (by omega)
  simp only [inCell, Nat.add_zero, hop] at i0 i1 i2 i3 i4 i5 i6
  have hpl : pb < w.heap.size := World.block_lt_of_cell? w _ i0
  clear hsn
  have hzb : ((i : Int) == 0) = false := by simpa using hz
  clear hop hu1 hz
  go_enter Tryz.func53, Tryz.ntmps53
  go_wp2_with fail
  refine wp_region_text (by kernel_rfl) (by kernel_rfl) ?_
  go_wp2_with fail
  refine ⟨by kernel_rfl, ?_⟩
  go_wp2_with fail
  refine bodyPost_ret (v := .tuple #[.bool false, capsV c, .int .i64 0]) (by simp [results, Tryz.results53, go_sem, capsV]) rfl ⟨rfl, ?_, ?_⟩
  · exact (((w0b.alloc _).alloc _).alloc _).drew
  · exact (((w0f.alloc _).alloc _).alloc _).drew
set_option maxRecDepth 100000 in
set_option maxHeartbeats 2000000 in
theorem road_end_no {p : List In} {pb cap : Nat} (hok : OkProg p) {str : ByteArray} (hsz : str.size ≤ 256) {fuel : Nat} {N : Nat} (hN : N = p.length * (str.size + 1)) (_ih : RoadC p pb cap str N fuel) (w : World) (pc i : Nat) (c : Nat → Int) (sb scap : Nat) (sn : Nat → Bool)
    (hp : PAt w pb p) (hne : pb ≠ sb) (hb : Blk w sb N (bools sn)) (hpc : pc < p.length) (hi : i ≤ str.size) (hu : unseen sn N < fuel + 1) (hsn : sn (pc * (str.size + 1) + i) = false) (hop : p[pc].op = 5) (hz : ¬ i = str.size) :
    Calls Tryz.prog 53 #[.slice (some ⟨pb, 0, none⟩) p.length cap, .string str, .int .i64 pc, .int .i64 i, capsV c, .slice (some ⟨sb, 0, none⟩) N scap] w fun e w' =>
      e = .returned (.tuple #[.bool (roadS p str (fuel + 1) pc i c sn).ok, capsV (roadS p str (fuel + 1) pc i c sn).c, .int .i64 (roadS p str (fuel + 1) pc i c sn).e]) ∧
      Blk w' sb N (bools (roadS p str (fuel + 1) pc i c sn).sn) ∧ Fr (fun b => b = sb) w w' := by
  have hm := hok.max
  obtain ⟨M, hM⟩ : ∃ M, M = pc * (str.size + 1) := ⟨_, rfl⟩
  have hMN : M + (str.size + 1) ≤ N := by rw [hM, hN, ← Nat.succ_mul]; exact Nat.mul_le_mul_right _ hpc
  have hN2 : N ≤ 64 * 257 := by rw [hN]; exact Nat.mul_le_mul hm (by omega)
  have hMi : (pc : Int) * ((str.size : Int) + 1) = (M : Int) := by rw [hM]; simp
  have hRd : roadS p str (fuel + 1) pc i c sn = ⟨false, c, 0, upd sn (M + i) true⟩ := by simp [roadS, hpc, hsn, hop, hz, hM]
  rw [hRd]
  rw [← hM] at hsn
  have c1 : w.cell? ⟨sb, M + i, none⟩ = some (.bool (sn (M + i))) := hb.cell (by omega)
  rw [hsn] at c1
  have hsb := hb.lt
  have Hu : Hid _ := hu
  have HM : Hid _ := hM
  clear hu hN hM hRd
  rw [show capsV c = Value.agg #[.int .i64 (c 0), .int .i64 (c 1), .int .i64 (c 2), .int .i64 (c 3), .int .i64 (c 4), .int .i64 (c 5), .int .i64 (c 6), .int .i64 (c 7)] from rfl]
  have g1 := hb.frozen (M + i)
  have w0b : Blk (w.setCell ⟨sb, M + i, none⟩ (.bool true)) sb N (bools (upd sn (M + i) true)) := by have := hb.set (M + i) (.bool true); rwa [bools_upd] at this
  have w0f : Fr (fun b => b = sb) w (w.setCell ⟨sb, M + i, none⟩ (.bool true)) := (Fr.refl _ _).setC _ _ _ (fun _ => rfl)
  have hu1 : Hid (unseen (upd sn (M + i) true) N < fuel) := by have h1 := unseen_upd sn N (M + i) (by omega) hsn; have h2 := Hu.out; exact (by omega : unseen (upd sn (M + i) true) N < fuel)
  have hne2 : sb ≠ pb := fun e => hne e.symm
  have i0 := hp pc hpc 0 (by omega)
  have i1 := hp pc hpc 1 (by omega)
  have i2 := hp pc hpc 2 (by omega)
  have i3 := hp pc hpc 3 (by omega)
  have i4 := hp pc hpc 4 (by omega)
  have i5 := hp pc hpc 5 (by omega)
  have i6 := hp pc hpc 6 (by omega)
  simp only [inCell, Nat.add_zero, hop] at i0 i1 i2 i3 i4 i5 i6
  have hpl : pb < w.heap.size := World.block_lt_of_cell? w _ i0
  clear hsn
  have hzb : ((i : Int) == (str.size : Int)) = false := by simp; omega
  clear hop hu1 hz
  go_enter Tryz.func53, Tryz.ntmps53
  go_wp2_with fail
  refine wp_region_text (by kernel_rfl) (by kernel_rfl) ?_
  go_wp2_with fail
  refine ⟨by kernel_rfl, ?_⟩
  go_wp2_with fail
  refine bodyPost_ret (v := .tuple #[.bool false, capsV c, .int .i64 0]) (by simp [results, Tryz.results53, go_sem, capsV]) rfl ⟨rfl, ?_, ?_⟩
  · exact (((w0b.alloc _).alloc _).alloc _).drew
  · exact (((w0f.alloc _).alloc _).alloc _).drew
set_option maxRecDepth 100000 in
set_option maxHeartbeats 2000000 in
theorem road_char_end {p : List In} {pb cap : Nat} (hok : OkProg p) {str : ByteArray} (hsz : str.size ≤ 256) {fuel : Nat} {N : Nat} (hN : N = p.length * (str.size + 1)) (_ih : RoadC p pb cap str N fuel) (w : World) (pc i : Nat) (c : Nat → Int) (sb scap : Nat) (sn : Nat → Bool)
    (hp : PAt w pb p) (hne : pb ≠ sb) (hb : Blk w sb N (bools sn)) (hpc : pc < p.length) (hi : i ≤ str.size) (hu : unseen sn N < fuel + 1) (hsn : sn (pc * (str.size + 1) + i) = false) (hop : p[pc].op = 0) (hz : ¬ i < str.size) :
    Calls Tryz.prog 53 #[.slice (some ⟨pb, 0, none⟩) p.length cap, .string str, .int .i64 pc, .int .i64 i, capsV c, .slice (some ⟨sb, 0, none⟩) N scap] w fun e w' =>
      e = .returned (.tuple #[.bool (roadS p str (fuel + 1) pc i c sn).ok, capsV (roadS p str (fuel + 1) pc i c sn).c, .int .i64 (roadS p str (fuel + 1) pc i c sn).e]) ∧
      Blk w' sb N (bools (roadS p str (fuel + 1) pc i c sn).sn) ∧ Fr (fun b => b = sb) w w' := by
  have hm := hok.max
  obtain ⟨M, hM⟩ : ∃ M, M = pc * (str.size + 1) := ⟨_, rfl⟩
  have hMN : M + (str.size + 1) ≤ N := by rw [hM, hN, ← Nat.succ_mul]; exact Nat.mul_le_mul_right _ hpc
  have hN2 : N ≤ 64 * 257 := by rw [hN]; exact Nat.mul_le_mul hm (by omega)
  have hMi : (pc : Int) * ((str.size : Int) + 1) = (M : Int) := by rw [hM]; simp
  have hRd : roadS p str (fuel + 1) pc i c sn = ⟨false, c, 0, upd sn (M + i) true⟩ := by simp [roadS, hpc, hsn, hop, hz, hM]
  rw [hRd]
  rw [← hM] at hsn
  have c1 : w.cell? ⟨sb, M + i, none⟩ = some (.bool (sn (M + i))) := hb.cell (by omega)
  rw [hsn] at c1
  have hsb := hb.lt
  have Hu : Hid _ := hu
  have HM : Hid _ := hM
  clear hu hN hM hRd
  rw [show capsV c = Value.agg #[.int .i64 (c 0), .int .i64 (c 1), .int .i64 (c 2), .int .i64 (c 3), .int .i64 (c 4), .int .i64 (c 5), .int .i64 (c 6), .int .i64 (c 7)] from rfl]
  have g1 := hb.frozen (M + i)
  have w0b : Blk (w.setCell ⟨sb, M + i, none⟩ (.bool true)) sb N (bools (upd sn (M + i) true)) := by have := hb.set (M + i) (.bool true); rwa [bools_upd] at this
  have w0f : Fr (fun b => b = sb) w (w.setCell ⟨sb, M + i, none⟩ (.bool true)) := (Fr.refl _ _).setC _ _ _ (fun _ => rfl)
  have hu1 : Hid (unseen (upd sn (M + i) true) N < fuel) := by have h1 := unseen_upd sn N (M + i) (by omega) hsn; have h2 := Hu.out; exact (by omega : unseen (upd sn (M + i) true) N < fuel)
  have hne2 : sb ≠ pb := fun e => hne e.symm
  have i0 := hp pc hpc 0 (by omega)
  have i1 := hp pc hpc 1 (by omega)
  have i2 := hp pc hpc 2 (by omega)
  have i3 := hp pc hpc 3 (by omega)
  have i4 := hp pc hpc 4 (by omega)
  have i5 := hp pc hpc 5 (by omega)
  have i6 := hp pc hpc 6 (by omega)
  simp only [inCell, Nat.add_zero, hop] at i0 i1 i2 i3 i4 i5 i6
  have hpl : pb < w.heap.size := World.block_lt_of_cell? w _ i0
  clear hsn
  clear hop hu1
  go_enter Tryz.func53, Tryz.ntmps53
  go_wp2_with fail
  refine wp_region_text (by kernel_rfl) (by kernel_rfl) ?_
  go_wp2_with fail
  refine ⟨by kernel_rfl, ?_⟩
  go_wp2_with fail
  refine bodyPost_ret (v := .tuple #[.bool false, capsV c, .int .i64 0]) (by simp [results, Tryz.results53, go_sem, capsV]) rfl ⟨rfl, ?_, ?_⟩
  · exact (((w0b.alloc _).alloc _).alloc _).drew
  · exact (((w0f.alloc _).alloc _).alloc _).drew
set_option maxRecDepth 100000 in
set_option maxHeartbeats 2000000 in
theorem road_begin_yes {p : List In} {pb cap : Nat} (hok : OkProg p) {str : ByteArray} (hsz : str.size ≤ 256) {fuel : Nat} {N : Nat} (hN : N = p.length * (str.size + 1)) (ih : RoadC p pb cap str N fuel) (w : World) (pc i : Nat) (c : Nat → Int) (sb scap : Nat) (sn : Nat → Bool)
    (hp : PAt w pb p) (hne : pb ≠ sb) (hb : Blk w sb N (bools sn)) (hpc : pc < p.length) (hi : i ≤ str.size) (hu : unseen sn N < fuel + 1) (hsn : sn (pc * (str.size + 1) + i) = false) (hop : p[pc].op = 4) (hz : i = 0) (hq : pc + 1 < p.length) :
    Calls Tryz.prog 53 #[.slice (some ⟨pb, 0, none⟩) p.length cap, .string str, .int .i64 pc, .int .i64 i, capsV c, .slice (some ⟨sb, 0, none⟩) N scap] w fun e w' =>
      e = .returned (.tuple #[.bool (roadS p str (fuel + 1) pc i c sn).ok, capsV (roadS p str (fuel + 1) pc i c sn).c, .int .i64 (roadS p str (fuel + 1) pc i c sn).e]) ∧
      Blk w' sb N (bools (roadS p str (fuel + 1) pc i c sn).sn) ∧ Fr (fun b => b = sb) w w' := by
  have hm := hok.max
  obtain ⟨M, hM⟩ : ∃ M, M = pc * (str.size + 1) := ⟨_, rfl⟩
  have hMN : M + (str.size + 1) ≤ N := by rw [hM, hN, ← Nat.succ_mul]; exact Nat.mul_le_mul_right _ hpc
  have hN2 : N ≤ 64 * 257 := by rw [hN]; exact Nat.mul_le_mul hm (by omega)
  have hMi : (pc : Int) * ((str.size : Int) + 1) = (M : Int) := by rw [hM]; simp
  have hRd : roadS p str (fuel + 1) pc i c sn = roadS p str fuel (pc + 1) i c (upd sn (M + i) true) := by simp [roadS, hpc, hsn, hop, eq_true hz, hM]
  rw [hRd]
  rw [← hM] at hsn
  have c1 : w.cell? ⟨sb, M + i, none⟩ = some (.bool (sn (M + i))) := hb.cell (by omega)
  rw [hsn] at c1
  have hsb := hb.lt
  have Hu : Hid _ := hu
  have HM : Hid _ := hM
  clear hu hN hM hRd
  rw [show capsV c = Value.agg #[.int .i64 (c 0), .int .i64 (c 1), .int .i64 (c 2), .int .i64 (c 3), .int .i64 (c 4), .int .i64 (c 5), .int .i64 (c 6), .int .i64 (c 7)] from rfl]
  have g1 := hb.frozen (M + i)
  have w0b : Blk (w.setCell ⟨sb, M + i, none⟩ (.bool true)) sb N (bools (upd sn (M + i) true)) := by have := hb.set (M + i) (.bool true); rwa [bools_upd] at this
  have w0f : Fr (fun b => b = sb) w (w.setCell ⟨sb, M + i, none⟩ (.bool true)) := (Fr.refl _ _).setC _ _ _ (fun _ => rfl)
  have hu1 : Hid (unseen (upd sn (M + i) true) N < fuel) := by have h1 := unseen_upd sn N (M + i) (by omega) hsn; have h2 := Hu.out; exact (by omega : unseen (upd sn (M + i) true) N < fuel)
  have hne2 : sb ≠ pb := fun e => hne e.symm
  have i0 := hp pc hpc 0 (by omega)
  have i1 := hp pc hpc 1 (by omega)
  have i2 := hp pc hpc 2 (by omega)
  have i3 := hp pc hpc 3 (by omega)
  have i4 := hp pc hpc 4 (by omega)
  have i5 := hp pc hpc 5 (by omega)
  have i6 := hp pc hpc 6 (by omega)
  simp only [inCell, Nat.add_zero, hop] at i0 i1 i2 i3 i4 i5 i6
  have hpl : pb < w.heap.size := World.block_lt_of_cell? w _ i0
  clear hsn
  have hzb : ((i : Int) == 0) = true := by simp; omega
  clear hop hz
  go_enter Tryz.func53, Tryz.ntmps53
  go_wp2_with fail
  refine (ih _ (pc + 1) i c sb scap _ (hp.frame (((w0f.alloc _).alloc _).alloc _) (by simpa using hne)) hne (((w0b.alloc _).alloc _).alloc _) hq hi hu1.out).mono ?_
  rintro e w1 ⟨rfl, b1, f1⟩
  have hc := f1.cellAt (b := w.heap.size + 1) (by simp) (by omega)
  have hf := f1.frozenAt (b := w.heap.size + 1) (by simp) (by omega)
  simp [go_sem] at hc hf
  unfold capsV
  go_wp2_with fail
  refine bodyPost_ret (v := .tuple #[.bool (roadS p str fuel (pc + 1) i c (upd sn (M + i) true)).ok, capsV (roadS p str fuel (pc + 1) i c (upd sn (M + i) true)).c, .int .i64 (roadS p str fuel (pc + 1) i c (upd sn (M + i) true)).e]) (by simp [results, Tryz.results53, go_sem, capsV, hc]) rfl ⟨rfl, Blk.far8 b1 (by omega) _ _ _ _ _ _ _ _, ?_⟩
  repeat' refine Fr.setNew ?_ (by omega)
  exact (((w0f.alloc _).alloc _).alloc _).trans f1 (fun _ _ h => h)
set_option maxRecDepth 100000 in
set_option maxHeartbeats 2000000 in
theorem road_end_yes {p : List In} {pb cap : Nat} (hok : OkProg p) {str : ByteArray} (hsz : str.size ≤ 256) {fuel : Nat} {N : Nat} (hN : N = p.length * (str.size + 1)) (ih : RoadC p pb cap str N fuel) (w : World) (pc i : Nat) (c : Nat → Int) (sb scap : Nat) (sn : Nat → Bool)
    (hp : PAt w pb p) (hne : pb ≠ sb) (hb : Blk w sb N (bools sn)) (hpc : pc < p.length) (hi : i ≤ str.size) (hu : unseen sn N < fuel + 1) (hsn : sn (pc * (str.size + 1) + i) = false) (hop : p[pc].op = 5) (hz : i = str.size) (hq : pc + 1 < p.length) :
    Calls Tryz.prog 53 #[.slice (some ⟨pb, 0, none⟩) p.length cap, .string str, .int .i64 pc, .int .i64 i, capsV c, .slice (some ⟨sb, 0, none⟩) N scap] w fun e w' =>
      e = .returned (.tuple #[.bool (roadS p str (fuel + 1) pc i c sn).ok, capsV (roadS p str (fuel + 1) pc i c sn).c, .int .i64 (roadS p str (fuel + 1) pc i c sn).e]) ∧
      Blk w' sb N (bools (roadS p str (fuel + 1) pc i c sn).sn) ∧ Fr (fun b => b = sb) w w' := by
  have hm := hok.max
  obtain ⟨M, hM⟩ : ∃ M, M = pc * (str.size + 1) := ⟨_, rfl⟩
  have hMN : M + (str.size + 1) ≤ N := by rw [hM, hN, ← Nat.succ_mul]; exact Nat.mul_le_mul_right _ hpc
  have hN2 : N ≤ 64 * 257 := by rw [hN]; exact Nat.mul_le_mul hm (by omega)
  have hMi : (pc : Int) * ((str.size : Int) + 1) = (M : Int) := by rw [hM]; simp
  have hRd : roadS p str (fuel + 1) pc i c sn = roadS p str fuel (pc + 1) i c (upd sn (M + i) true) := by simp [roadS, hpc, hsn, hop, eq_true hz, hM]
  rw [hRd]
  rw [← hM] at hsn
  have c1 : w.cell? ⟨sb, M + i, none⟩ = some (.bool (sn (M + i))) := hb.cell (by omega)
  rw [hsn] at c1
  have hsb := hb.lt
  have Hu : Hid _ := hu
  have HM : Hid _ := hM
  clear hu hN hM hRd
  rw [show capsV c = Value.agg #[.int .i64 (c 0), .int .i64 (c 1), .int .i64 (c 2), .int .i64 (c 3), .int .i64 (c 4), .int .i64 (c 5), .int .i64 (c 6), .int .i64 (c 7)] from rfl]
  have g1 := hb.frozen (M + i)
  have w0b : Blk (w.setCell ⟨sb, M + i, none⟩ (.bool true)) sb N (bools (upd sn (M + i) true)) := by have := hb.set (M + i) (.bool true); rwa [bools_upd] at this
  have w0f : Fr (fun b => b = sb) w (w.setCell ⟨sb, M + i, none⟩ (.bool true)) := (Fr.refl _ _).setC _ _ _ (fun _ => rfl)
  have hu1 : Hid (unseen (upd sn (M + i) true) N < fuel) := by have h1 := unseen_upd sn N (M + i) (by omega) hsn; have h2 := Hu.out; exact (by omega : unseen (upd sn (M + i) true) N < fuel)
  have hne2 : sb ≠ pb := fun e => hne e.symm
  have i0 := hp pc hpc 0 (by omega)
  have i1 := hp pc hpc 1 (by omega)
  have i2 := hp pc hpc 2 (by omega)
  have i3 := hp pc hpc 3 (by omega)
  have i4 := hp pc hpc 4 (by omega)
  have i5 := hp pc hpc 5 (by omega)
  have i6 := hp pc hpc 6 (by omega)
  simp only [inCell, Nat.add_zero, hop] at i0 i1 i2 i3 i4 i5 i6
  have hpl : pb < w.heap.size := World.block_lt_of_cell? w _ i0
  clear hsn
  have hzb : ((i : Int) == (str.size : Int)) = true := by simp; omega
  clear hop hz
  go_enter Tryz.func53, Tryz.ntmps53
  go_wp2_with fail
  refine (ih _ (pc + 1) i c sb scap _ (hp.frame (((w0f.alloc _).alloc _).alloc _) (by simpa using hne)) hne (((w0b.alloc _).alloc _).alloc _) hq hi hu1.out).mono ?_
  rintro e w1 ⟨rfl, b1, f1⟩
  have hc := f1.cellAt (b := w.heap.size + 1) (by simp) (by omega)
  have hf := f1.frozenAt (b := w.heap.size + 1) (by simp) (by omega)
  simp [go_sem] at hc hf
  unfold capsV
  go_wp2_with fail
  refine bodyPost_ret (v := .tuple #[.bool (roadS p str fuel (pc + 1) i c (upd sn (M + i) true)).ok, capsV (roadS p str fuel (pc + 1) i c (upd sn (M + i) true)).c, .int .i64 (roadS p str fuel (pc + 1) i c (upd sn (M + i) true)).e]) (by simp [results, Tryz.results53, go_sem, capsV, hc]) rfl ⟨rfl, Blk.far8 b1 (by omega) _ _ _ _ _ _ _ _, ?_⟩
  repeat' refine Fr.setNew ?_ (by omega)
  exact (((w0f.alloc _).alloc _).alloc _).trans f1 (fun _ _ h => h)
set_option maxRecDepth 100000 in
set_option maxHeartbeats 2000000 in
theorem road_char_no {p : List In} {pb cap : Nat} (hok : OkProg p) {str : ByteArray} (hsz : str.size ≤ 256) {fuel : Nat} {N : Nat} (hN : N = p.length * (str.size + 1)) (_ih : RoadC p pb cap str N fuel) (w : World) (pc i : Nat) (c : Nat → Int) (sb scap : Nat) (sn : Nat → Bool)
    (hp : PAt w pb p) (hne : pb ≠ sb) (hb : Blk w sb N (bools sn)) (hpc : pc < p.length) (_hi : i ≤ str.size) (hu : unseen sn N < fuel + 1) (hsn : sn (pc * (str.size + 1) + i) = false) (hop : p[pc].op = 0) (hlt : i < str.size) (hh : hasB p[pc].s0 p[pc].s1 p[pc].s2 p[pc].s3 (bt str i) = false) :
    Calls Tryz.prog 53 #[.slice (some ⟨pb, 0, none⟩) p.length cap, .string str, .int .i64 pc, .int .i64 i, capsV c, .slice (some ⟨sb, 0, none⟩) N scap] w fun e w' =>
      e = .returned (.tuple #[.bool (roadS p str (fuel + 1) pc i c sn).ok, capsV (roadS p str (fuel + 1) pc i c sn).c, .int .i64 (roadS p str (fuel + 1) pc i c sn).e]) ∧
      Blk w' sb N (bools (roadS p str (fuel + 1) pc i c sn).sn) ∧ Fr (fun b => b = sb) w w' := by
  have hm := hok.max
  obtain ⟨M, hM⟩ : ∃ M, M = pc * (str.size + 1) := ⟨_, rfl⟩
  have hMN : M + (str.size + 1) ≤ N := by rw [hM, hN, ← Nat.succ_mul]; exact Nat.mul_le_mul_right _ hpc
  have hN2 : N ≤ 64 * 257 := by rw [hN]; exact Nat.mul_le_mul hm (by omega)
  have hMi : (pc : Int) * ((str.size : Int) + 1) = (M : Int) := by rw [hM]; simp
  have hRd : roadS p str (fuel + 1) pc i c sn = ⟨false, c, 0, upd sn (M + i) true⟩ := by simp [roadS, hpc, hsn, hop, hlt, hh, hM]
  rw [hRd]
  rw [← hM] at hsn
  have c1 : w.cell? ⟨sb, M + i, none⟩ = some (.bool (sn (M + i))) := hb.cell (by omega)
  rw [hsn] at c1
  have hsb := hb.lt
  have Hu : Hid _ := hu
  have HM : Hid _ := hM
  clear hu hN hM hRd
  rw [show capsV c = Value.agg #[.int .i64 (c 0), .int .i64 (c 1), .int .i64 (c 2), .int .i64 (c 3), .int .i64 (c 4), .int .i64 (c 5), .int .i64 (c 6), .int .i64 (c 7)] from rfl]
  have g1 := hb.frozen (M + i)
  have w0b : Blk (w.setCell ⟨sb, M + i, none⟩ (.bool true)) sb N (bools (upd sn (M + i) true)) := by have := hb.set (M + i) (.bool true); rwa [bools_upd] at this
  have w0f : Fr (fun b => b = sb) w (w.setCell ⟨sb, M + i, none⟩ (.bool true)) := (Fr.refl _ _).setC _ _ _ (fun _ => rfl)
  have hu1 : Hid (unseen (upd sn (M + i) true) N < fuel) := by have h1 := unseen_upd sn N (M + i) (by omega) hsn; have h2 := Hu.out; exact (by omega : unseen (upd sn (M + i) true) N < fuel)
  have hne2 : sb ≠ pb := fun e => hne e.symm
  have i0 := hp pc hpc 0 (by omega)
  have i1 := hp pc hpc 1 (by omega)
  have i2 := hp pc hpc 2 (by omega)
  have i3 := hp pc hpc 3 (by omega)
  have i4 := hp pc hpc 4 (by omega)
  have i5 := hp pc hpc 5 (by omega)
  have i6 := hp pc hpc 6 (by omega)
  simp only [inCell, Nat.add_zero, hop] at i0 i1 i2 i3 i4 i5 i6
  have hpl : pb < w.heap.size := World.block_lt_of_cell? w _ i0
  clear hsn
  have hbt : bt str i = str[i].toNat := by simp [bt, hlt]
  rw [hbt] at hh
  have Hh : Hid _ := hh
  clear hop hh hbt
  clear hu1
  go_enter Tryz.func53, Tryz.ntmps53
  go_wp2_with fail
  refine wp_region_text (by kernel_rfl) (by kernel_rfl) ?_
  go_wp2_with fail
  refine (has_set _ _ _ _ str[i].toNat (UInt8.toNat_lt _) _).mono ?_
  rintro e w5 ⟨rfl, f5⟩
  rw [Hh.out]
  have hp5 := hp.frame ((w0f.alloc _).alloc _ |>.alloc _ |>.drew |>.trans f5 (fun _ _ h => h.elim)) (by simpa using hne)
  have b5 := ((((w0b.alloc _).alloc _).alloc _).drew).frame f5 (by simp)
  have f5' := ((((w0f.alloc _).alloc _).alloc _).drew).trans f5 (fun _ _ h => h.elim)
  have hc5 := f5.cellAt (b := w.heap.size) (by simp; omega) (by simp)
  have hc6 := f5.cellAt (b := w.heap.size + 1) (by simp) (by simp)
  have hf6 := f5.frozenAt (b := w.heap.size + 1) (by simp) (by simp)
  simp [go_sem] at hc5 hc6 hf6
  have hz5 : w.heap.size + 1 < w5.heap.size := by have := f5.size; simp at this; omega
  go_wp2_with fail
  refine ⟨by kernel_rfl, ?_⟩
  go_wp2_with fail
  refine wp_region_text (by kernel_rfl) (by kernel_rfl) ?_
  go_wp2_with fail
  refine ⟨by kernel_rfl, ?_⟩
  go_wp2_with fail
  refine bodyPost_ret (v := .tuple #[.bool false, capsV c, .int .i64 0]) (by simp [results, Tryz.results53, go_sem, capsV, hc6]) rfl ⟨rfl, ?_, ?_⟩
  · exact (Blk.far8 b5 (by omega) _ _ _ _ _ _ _ _).drew
  · refine Fr.drew ?_
    repeat' refine Fr.setNew ?_ (by omega)
    exact f5'
set_option maxRecDepth 100000 in
set_option maxHeartbeats 2000000 in
theorem road_char_yes {p : List In} {pb cap : Nat} (hok : OkProg p) {str : ByteArray} (hsz : str.size ≤ 256) {fuel : Nat} {N : Nat} (hN : N = p.length * (str.size + 1)) (ih : RoadC p pb cap str N fuel) (w : World) (pc i : Nat) (c : Nat → Int) (sb scap : Nat) (sn : Nat → Bool)
    (hp : PAt w pb p) (hne : pb ≠ sb) (hb : Blk w sb N (bools sn)) (hpc : pc < p.length) (_hi : i ≤ str.size) (hu : unseen sn N < fuel + 1) (hsn : sn (pc * (str.size + 1) + i) = false) (hop : p[pc].op = 0) (hlt : i < str.size) (hh : hasB p[pc].s0 p[pc].s1 p[pc].s2 p[pc].s3 (bt str i) = true) (hq : pc + 1 < p.length) :
    Calls Tryz.prog 53 #[.slice (some ⟨pb, 0, none⟩) p.length cap, .string str, .int .i64 pc, .int .i64 i, capsV c, .slice (some ⟨sb, 0, none⟩) N scap] w fun e w' =>
      e = .returned (.tuple #[.bool (roadS p str (fuel + 1) pc i c sn).ok, capsV (roadS p str (fuel + 1) pc i c sn).c, .int .i64 (roadS p str (fuel + 1) pc i c sn).e]) ∧
      Blk w' sb N (bools (roadS p str (fuel + 1) pc i c sn).sn) ∧ Fr (fun b => b = sb) w w' := by
  have hm := hok.max
  obtain ⟨M, hM⟩ : ∃ M, M = pc * (str.size + 1) := ⟨_, rfl⟩
  have hMN : M + (str.size + 1) ≤ N := by rw [hM, hN, ← Nat.succ_mul]; exact Nat.mul_le_mul_right _ hpc
  have hN2 : N ≤ 64 * 257 := by rw [hN]; exact Nat.mul_le_mul hm (by omega)
  have hMi : (pc : Int) * ((str.size : Int) + 1) = (M : Int) := by rw [hM]; simp
  have hRd : roadS p str (fuel + 1) pc i c sn = roadS p str fuel (pc + 1) (i + 1) c (upd sn (M + i) true) := by simp [roadS, hpc, hsn, hop, hlt, hh, hM]
  rw [hRd]
  rw [← hM] at hsn
  have c1 : w.cell? ⟨sb, M + i, none⟩ = some (.bool (sn (M + i))) := hb.cell (by omega)
  rw [hsn] at c1
  have hsb := hb.lt
  have Hu : Hid _ := hu
  have HM : Hid _ := hM
  clear hu hN hM hRd
  rw [show capsV c = Value.agg #[.int .i64 (c 0), .int .i64 (c 1), .int .i64 (c 2), .int .i64 (c 3), .int .i64 (c 4), .int .i64 (c 5), .int .i64 (c 6), .int .i64 (c 7)] from rfl]
  have g1 := hb.frozen (M + i)
  have w0b : Blk (w.setCell ⟨sb, M + i, none⟩ (.bool true)) sb N (bools (upd sn (M + i) true)) := by have := hb.set (M + i) (.bool true); rwa [bools_upd] at this
  have w0f : Fr (fun b => b = sb) w (w.setCell ⟨sb, M + i, none⟩ (.bool true)) := (Fr.refl _ _).setC _ _ _ (fun _ => rfl)
  have hu1 : Hid (unseen (upd sn (M + i) true) N < fuel) := by have h1 := unseen_upd sn N (M + i) (by omega) hsn; have h2 := Hu.out; exact (by omega : unseen (upd sn (M + i) true) N < fuel)
  have hne2 : sb ≠ pb := fun e => hne e.symm
  have i0 := hp pc hpc 0 (by omega)
  have i1 := hp pc hpc 1 (by omega)
  have i2 := hp pc hpc 2 (by omega)
  have i3 := hp pc hpc 3 (by omega)
  have i4 := hp pc hpc 4 (by omega)
  have i5 := hp pc hpc 5 (by omega)
  have i6 := hp pc hpc 6 (by omega)
  simp only [inCell, Nat.add_zero, hop] at i0 i1 i2 i3 i4 i5 i6
  have hpl : pb < w.heap.size := World.block_lt_of_cell? w _ i0
  clear hsn
  have hbt : bt str i = str[i].toNat := by simp [bt, hlt]
  rw [hbt] at hh
  have Hh : Hid _ := hh
  clear hop hh hbt
  go_enter Tryz.func53, Tryz.ntmps53
  go_wp2_with fail
  refine wp_region_text (by kernel_rfl) (by kernel_rfl) ?_
  go_wp2_with fail
  refine (has_set _ _ _ _ str[i].toNat (UInt8.toNat_lt _) _).mono ?_
  rintro e w5 ⟨rfl, f5⟩
  rw [Hh.out]
  have hp5 := hp.frame ((w0f.alloc _).alloc _ |>.alloc _ |>.drew |>.trans f5 (fun _ _ h => h.elim)) (by simpa using hne)
  have b5 := ((((w0b.alloc _).alloc _).alloc _).drew).frame f5 (by simp)
  have f5' := ((((w0f.alloc _).alloc _).alloc _).drew).trans f5 (fun _ _ h => h.elim)
  have hc5 := f5.cellAt (b := w.heap.size) (by simp; omega) (by simp)
  have hc6 := f5.cellAt (b := w.heap.size + 1) (by simp) (by simp)
  have hf6 := f5.frozenAt (b := w.heap.size + 1) (by simp) (by simp)
  simp [go_sem] at hc5 hc6 hf6
  have hz5 : w.heap.size + 1 < w5.heap.size := by have := f5.size; simp at this; omega
  go_wp2_with fail
  refine ⟨by kernel_rfl, ?_⟩
  go_wp2_with fail
  refine (ih _ (pc + 1) (i + 1) c sb scap _ (hp.frame f5' (by simpa using hne)) hne b5 hq hlt hu1.out).mono ?_
  rintro e w1 ⟨rfl, b1, f1⟩
  have hc := f1.cellAt (b := w.heap.size + 1) hz5 (by omega)
  have hf := f1.frozenAt (b := w.heap.size + 1) hz5 (by omega)
  simp only [hc6, hf6] at hc hf
  unfold capsV
  go_wp2_with fail
  refine bodyPost_ret (v := .tuple #[.bool (roadS p str fuel (pc + 1) (i + 1) c (upd sn (M + i) true)).ok, capsV (roadS p str fuel (pc + 1) (i + 1) c (upd sn (M + i) true)).c, .int .i64 (roadS p str fuel (pc + 1) (i + 1) c (upd sn (M + i) true)).e]) (by simp [results, Tryz.results53, go_sem, capsV, hc]) rfl ⟨rfl, Blk.far8 b1 (by omega) _ _ _ _ _ _ _ _, ?_⟩
  repeat' refine Fr.setNew ?_ (by omega)
  exact f5'.trans f1 (fun _ _ h => h)
end Go.Proofs.Qxb6500285aGreat
