import Derived.Test.Qxb6500285aGreatPkWRoad3
namespace Go.Proofs.Qxb6500285aGreat
open Go Go.RowKit

set_option maxRecDepth 100000 in
set_option maxHeartbeats 2000000 in
theorem road_save2 {p : List In} {pb cap : Nat} (hok : OkProg p) {str : ByteArray} (hsz : str.size ≤ 256) {fuel : Nat} {N : Nat} (hN : N = p.length * (str.size + 1)) (ih : RoadC p pb cap str N fuel) (w : World) (pc i : Nat) (c : Nat → Int) (sb scap : Nat) (sn : Nat → Bool)
    (hp : PAt w pb p) (hne : pb ≠ sb) (hb : Blk w sb N (bools sn)) (hpc : pc < p.length) (hi : i ≤ str.size) (hu : unseen sn N < fuel + 1) (hsn : sn (pc * (str.size + 1) + i) = false) (hop : p[pc].op = 3) (hx : p[pc].x = 2) (hq : pc + 1 < p.length) :
    Calls Tryz.prog 53 #[.slice (some ⟨pb, 0, none⟩) p.length cap, .string str, .int .i64 pc, .int .i64 i, capsV c, .slice (some ⟨sb, 0, none⟩) N scap] w fun e w' =>
      e = .returned (.tuple #[.bool (roadS p str (fuel + 1) pc i c sn).ok, capsV (roadS p str (fuel + 1) pc i c sn).c, .int .i64 (roadS p str (fuel + 1) pc i c sn).e]) ∧
      Blk w' sb N (bools (roadS p str (fuel + 1) pc i c sn).sn) ∧ Fr (fun b => b = sb) w w' := by
  have hm := hok.max
  obtain ⟨M, hM⟩ : ∃ M, M = pc * (str.size + 1) := ⟨_, rfl⟩
  have hMN : M + (str.size + 1) ≤ N := by rw [hM, hN, ← Nat.succ_mul]; exact Nat.mul_le_mul_right _ hpc
  have hN2 : N ≤ 64 * 257 := by rw [hN]; exact Nat.mul_le_mul hm (by omega)
  have hMi : (pc : Int) * ((str.size : Int) + 1) = (M : Int) := by rw [hM]; simp
  have hRd : roadS p str (fuel + 1) pc i c sn = roadS p str fuel (pc + 1) i (upd c 2 i) (upd sn (M + i) true) := by simp [roadS, hpc, hsn, hop, hx, hM]
  rw [hRd]
  rw [← hM] at hsn
  have c1 : w.cell? ⟨sb, M + i, none⟩ = some (.bool (sn (M + i))) := hb.cell (by omega)
  rw [hsn] at c1
  have hsb := hb.lt
  have Hu : Hid _ := hu
  have HM : Hid _ := hM
  clear hu hN hM hRd
  rw [show capsV c = Value.agg #[.int .i64 (c 0), .int .i64 (c 1), .int .i64 (c 2), .int .i64 (c 3), .int .i64 (c 4), .int .i64 (c 5), .int .i64 (c 6), .int .i64 (c 7)] from rfl]
  have g1 := hb.frozen (M + i)
  have w0b : Blk (w.setCell ⟨sb, M + i, none⟩ (.bool true)) sb N (bools (upd sn (M + i) true)) := by have := hb.set (M + i) (.bool true); rwa [bools_upd] at this
  have w0f : Fr (fun b => b = sb) w (w.setCell ⟨sb, M + i, none⟩ (.bool true)) := (Fr.refl _ _).setC _ _ _ (fun _ => rfl)
  have hu1 : Hid (unseen (upd sn (M + i) true) N < fuel) := by have h1 := unseen_upd sn N (M + i) (by omega) hsn; have h2 := Hu.out; exact (by omega : unseen (upd sn (M + i) true) N < fuel)
  have hne2 : sb ≠ pb := fun e => hne e.symm
  have i0 := hp pc hpc 0 (by omega)
  have i1 := hp pc hpc 1 (by omega)
  have i2 := hp pc hpc 2 (by omega)
  have i3 := hp pc hpc 3 (by omega)
  have i4 := hp pc hpc 4 (by omega)
  have i5 := hp pc hpc 5 (by omega)
  have i6 := hp pc hpc 6 (by omega)
  simp only [inCell, Nat.add_zero, hop, hx] at i0 i1 i2 i3 i4 i5 i6
  have hpl : pb < w.heap.size := World.block_lt_of_cell? w _ i0
  clear hsn
  clear hop hx
  go_enter Tryz.func53, Tryz.ntmps53
  go_wp2_with fail
  rw [show Value.agg #[.int .i64 (c 0), .int .i64 (c 1), .int .i64 (i : Int), .int .i64 (c 3), .int .i64 (c 4), .int .i64 (c 5), .int .i64 (c 6), .int .i64 (c 7)] = capsV (upd c 2 i) from by simp [capsV, upd]]
  refine (ih _ (pc + 1) i (upd c 2 i) sb scap _ (hp.frame (((w0f.alloc _).alloc _).alloc _) (by simpa using hne)) hne (((w0b.alloc _).alloc _).alloc _) hq hi hu1.out).mono ?_
  rintro e w1 ⟨rfl, b1, f1⟩
  have hc := f1.cellAt (b := w.heap.size + 1) (by simp) (by omega)
  have hf := f1.frozenAt (b := w.heap.size + 1) (by simp) (by omega)
  simp [go_sem] at hc hf
  unfold capsV
  go_wp2_with fail
  refine bodyPost_ret (v := .tuple #[.bool (roadS p str fuel (pc + 1) i (upd c 2 i) (upd sn (M + i) true)).ok, capsV (roadS p str fuel (pc + 1) i (upd c 2 i) (upd sn (M + i) true)).c, .int .i64 (roadS p str fuel (pc + 1) i (upd c 2 i) (upd sn (M + i) true)).e]) (by simp [results, Tryz.results53, go_sem, capsV, hc]) rfl ⟨rfl, Blk.far8 b1 (by omega) _ _ _ _ _ _ _ _, ?_⟩
  repeat' refine Fr.setNew ?_ (by omega)
  exact (((w0f.alloc _).alloc _).alloc _).trans f1 (fun _ _ h => h)
set_option maxRecDepth 100000 in
set_option maxHeartbeats 2000000 in
theorem road_save3 {p : List In} {pb cap : Nat} (hok : OkProg p) {str : ByteArray} (hsz : str.size ≤ 256) {fuel : Nat} {N : Nat} (hN : N = p.length * (str.size + 1)) (ih : RoadC p pb cap str N fuel) (w : World) (pc i : Nat) (c : Nat → Int) (sb scap : Nat) (sn : Nat → Bool)
    (hp : PAt w pb p) (hne : pb ≠ sb) (hb : Blk w sb N (bools sn)) (hpc : pc < p.length) (hi : i ≤ str.size) (hu : unseen sn N < fuel + 1) (hsn : sn (pc * (str.size + 1) + i) = false) (hop : p[pc].op = 3) (hx : p[pc].x = 3) (hq : pc + 1 < p.length) :
    Calls Tryz.prog 53 #[.slice (some ⟨pb, 0, none⟩) p.length cap, .string str, .int .i64 pc, .int .i64 i, capsV c, .slice (some ⟨sb, 0, none⟩) N scap] w fun e w' =>
      e = .returned (.tuple #[.bool (roadS p str (fuel + 1) pc i c sn).ok, capsV (roadS p str (fuel + 1) pc i c sn).c, .int .i64 (roadS p str (fuel + 1) pc i c sn).e]) ∧
      Blk w' sb N (bools (roadS p str (fuel + 1) pc i c sn).sn) ∧ Fr (fun b => b = sb) w w' := by
  have hm := hok.max
  obtain ⟨M, hM⟩ : ∃ M, M = pc * (str.size + 1) := ⟨_, rfl⟩
  have hMN : M + (str.size + 1) ≤ N := by rw [hM, hN, ← Nat.succ_mul]; exact Nat.mul_le_mul_right _ hpc
  have hN2 : N ≤ 64 * 257 := by rw [hN]; exact Nat.mul_le_mul hm (by omega)
  have hMi : (pc : Int) * ((str.size : Int) + 1) = (M : Int) := by rw [hM]; simp
  have hRd : roadS p str (fuel + 1) pc i c sn = roadS p str fuel (pc + 1) i (upd c 3 i) (upd sn (M + i) true) := by simp [roadS, hpc, hsn, hop, hx, hM]
  rw [hRd]
  rw [← hM] at hsn
  have c1 : w.cell? ⟨sb, M + i, none⟩ = some (.bool (sn (M + i))) := hb.cell (by omega)
  rw [hsn] at c1
  have hsb := hb.lt
  have Hu : Hid _ := hu
  have HM : Hid _ := hM
  clear hu hN hM hRd
  rw [show capsV c = Value.agg #[.int .i64 (c 0), .int .i64 (c 1), .int .i64 (c 2), .int .i64 (c 3), .int .i64 (c 4), .int .i64 (c 5), .int .i64 (c 6), .int .i64 (c 7)] from rfl]
  have g1 := hb.frozen (M + i)
  have w0b : Blk (w.setCell ⟨sb, M + i, none⟩ (.bool true)) sb N (bools (upd sn (M + i) true)) := by have := hb.set (M + i) (.bool true); rwa [bools_upd] at this
  have w0f : Fr (fun b => b = sb) w (w.setCell ⟨sb, M + i, none⟩ (.bool true)) := (Fr.refl _ _).setC _ _ _ (fun _ => rfl)
  have hu1 : Hid (unseen (upd sn (M + i) true) N < fuel) := by have h1 := unseen_upd sn N (M + i) (by omega) hsn; have h2 := Hu.out; exact (by omega : unseen (upd sn (M + i) true) N < fuel)
  have hne2 : sb ≠ pb := fun e => hne e.symm
  have i0 := hp pc hpc 0 (by omega)
  have i1 := hp pc hpc 1 (by omega)
  have i2 := hp pc hpc 2 (by omega)
  have i3 := hp pc hpc 3 (by omega)
  have i4 := hp pc hpc 4 (by omega)
  have i5 := hp pc hpc 5 (by omega)
  have i6 := hp pc hpc 6 (by omega)
  simp only [inCell, Nat.add_zero, hop, hx] at i0 i1 i2 i3 i4 i5 i6
  have hpl : pb < w.heap.size := World.block_lt_of_cell? w _ i0
  clear hsn
  clear hop hx
  go_enter Tryz.func53, Tryz.ntmps53
  go_wp2_with fail
  rw [show Value.agg #[.int .i64 (c 0), .int .i64 (c 1), .int .i64 (c 2), .int .i64 (i : Int), .int .i64 (c 4), .int .i64 (c 5), .int .i64 (c 6), .int .i64 (c 7)] = capsV (upd c 3 i) from by simp [capsV, upd]]
  refine (ih _ (pc + 1) i (upd c 3 i) sb scap _ (hp.frame (((w0f.alloc _).alloc _).alloc _) (by simpa using hne)) hne (((w0b.alloc _).alloc _).alloc _) hq hi hu1.out).mono ?_
  rintro e w1 ⟨rfl, b1, f1⟩
  have hc := f1.cellAt (b := w.heap.size + 1) (by simp) (by omega)
  have hf := f1.frozenAt (b := w.heap.size + 1) (by simp) (by omega)
  simp [go_sem] at hc hf
  unfold capsV
  go_wp2_with fail
  refine bodyPost_ret (v := .tuple #[.bool (roadS p str fuel (pc + 1) i (upd c 3 i) (upd sn (M + i) true)).ok, capsV (roadS p str fuel (pc + 1) i (upd c 3 i) (upd sn (M + i) true)).c, .int .i64 (roadS p str fuel (pc + 1) i (upd c 3 i) (upd sn (M + i) true)).e]) (by simp [results, Tryz.results53, go_sem, capsV, hc]) rfl ⟨rfl, Blk.far8 b1 (by omega) _ _ _ _ _ _ _ _, ?_⟩
  repeat' refine Fr.setNew ?_ (by omega)
  exact (((w0f.alloc _).alloc _).alloc _).trans f1 (fun _ _ h => h)
set_option maxRecDepth 100000 in
set_option maxHeartbeats 2000000 in
theorem road_save4 {p : List In} {pb cap : Nat} (hok : OkProg p) {str : ByteArray} (hsz : str.size ≤ 256) {fuel : Nat} {N : Nat} (hN : N = p.length * (str.size + 1)) (ih : RoadC p pb cap str N fuel) (w : World) (pc i : Nat) (c : Nat → Int) (sb scap : Nat) (sn : Nat → Bool)
    (hp : PAt w pb p) (hne : pb ≠ sb) (hb : Blk w sb N (bools sn)) (hpc : pc < p.length) (hi : i ≤ str.size) (hu : unseen sn N < fuel + 1) (hsn : sn (pc * (str.size + 1) + i) = false) (hop : p[pc].op = 3) (hx : p[pc].x = 4) (hq : pc + 1 < p.length) :
    Calls Tryz.prog 53 #[.slice (some ⟨pb, 0, none⟩) p.length cap, .string str, .int .i64 pc, .int .i64 i, capsV c, .slice (some ⟨sb, 0, none⟩) N scap] w fun e w' =>
      e = .returned (.tuple #[.bool (roadS p str (fuel + 1) pc i c sn).ok, capsV (roadS p str (fuel + 1) pc i c sn).c, .int .i64 (roadS p str (fuel + 1) pc i c sn).e]) ∧
      Blk w' sb N (bools (roadS p str (fuel + 1) pc i c sn).sn) ∧ Fr (fun b => b = sb) w w' := by
  have hm := hok.max
  obtain ⟨M, hM⟩ : ∃ M, M = pc * (str.size + 1) := ⟨_, rfl⟩
  have hMN : M + (str.size + 1) ≤ N := by rw [hM, hN, ← Nat.succ_mul]; exact Nat.mul_le_mul_right _ hpc
  have hN2 : N ≤ 64 * 257 := by rw [hN]; exact Nat.mul_le_mul hm (by omega)
  have hMi : (pc : Int) * ((str.size : Int) + 1) = (M : Int) := by rw [hM]; simp
  have hRd : roadS p str (fuel + 1) pc i c sn = roadS p str fuel (pc + 1) i (upd c 4 i) (upd sn (M + i) true) := by simp [roadS, hpc, hsn, hop, hx, hM]
  rw [hRd]
  rw [← hM] at hsn
  have c1 : w.cell? ⟨sb, M + i, none⟩ = some (.bool (sn (M + i))) := hb.cell (by omega)
  rw [hsn] at c1
  have hsb := hb.lt
  have Hu : Hid _ := hu
  have HM : Hid _ := hM
  clear hu hN hM hRd
  rw [show capsV c = Value.agg #[.int .i64 (c 0), .int .i64 (c 1), .int .i64 (c 2), .int .i64 (c 3), .int .i64 (c 4), .int .i64 (c 5), .int .i64 (c 6), .int .i64 (c 7)] from rfl]
  have g1 := hb.frozen (M + i)
  have w0b : Blk (w.setCell ⟨sb, M + i, none⟩ (.bool true)) sb N (bools (upd sn (M + i) true)) := by have := hb.set (M + i) (.bool true); rwa [bools_upd] at this
  have w0f : Fr (fun b => b = sb) w (w.setCell ⟨sb, M + i, none⟩ (.bool true)) := (Fr.refl _ _).setC _ _ _ (fun _ => rfl)
  have hu1 : Hid (unseen (upd sn (M + i) true) N < fuel) := by have h1 := unseen_upd sn N (M + i) (by omega) hsn; have h2 := Hu.out; exact (by omega : unseen (upd sn (M + i) true) N < fuel)
  have hne2 : sb ≠ pb := fun e => hne e.symm
  have i0 := hp pc hpc 0 (by omega)
  have i1 := hp pc hpc 1 (by omega)
  have i2 := hp pc hpc 2 (by omega)
  have i3 := hp pc hpc 3 (by omega)
  have i4 := hp pc hpc 4 (by omega)
  have i5 := hp pc hpc 5 (by omega)
  have i6 := hp pc hpc 6 (by omega)
  simp only [inCell, Nat.add_zero, hop, hx] at i0 i1 i2 i3 i4 i5 i6
  have hpl : pb < w.heap.size := World.block_lt_of_cell? w _ i0
  clear hsn
  clear hop hx
  go_enter Tryz.func53, Tryz.ntmps53
  go_wp2_with fail
  rw [show Value.agg #[.int .i64 (c 0), .int .i64 (c 1), .int .i64 (c 2), .int .i64 (c 3), .int .i64 (i : Int), .int .i64 (c 5), .int .i64 (c 6), .int .i64 (c 7)] = capsV (upd c 4 i) from by simp [capsV, upd]]
  refine (ih _ (pc + 1) i (upd c 4 i) sb scap _ (hp.frame (((w0f.alloc _).alloc _).alloc _) (by simpa using hne)) hne (((w0b.alloc _).alloc _).alloc _) hq hi hu1.out).mono ?_
  rintro e w1 ⟨rfl, b1, f1⟩
  have hc := f1.cellAt (b := w.heap.size + 1) (by simp) (by omega)
  have hf := f1.frozenAt (b := w.heap.size + 1) (by simp) (by omega)
  simp [go_sem] at hc hf
  unfold capsV
  go_wp2_with fail
  refine bodyPost_ret (v := .tuple #[.bool (roadS p str fuel (pc + 1) i (upd c 4 i) (upd sn (M + i) true)).ok, capsV (roadS p str fuel (pc + 1) i (upd c 4 i) (upd sn (M + i) true)).c, .int .i64 (roadS p str fuel (pc + 1) i (upd c 4 i) (upd sn (M + i) true)).e]) (by simp [results, Tryz.results53, go_sem, capsV, hc]) rfl ⟨rfl, Blk.far8 b1 (by omega) _ _ _ _ _ _ _ _, ?_⟩
  repeat' refine Fr.setNew ?_ (by omega)
  exact (((w0f.alloc _).alloc _).alloc _).trans f1 (fun _ _ h => h)
set_option maxRecDepth 100000 in
set_option maxHeartbeats 2000000 in
theorem road_save5 {p : List In} {pb cap : Nat} (hok : OkProg p) {str : ByteArray} (hsz : str.size ≤ 256) {fuel : Nat} {N : Nat} (hN : N = p.length * (str.size + 1)) (ih : RoadC p pb cap str N fuel) (w : World) (pc i : Nat) (c : Nat → Int) (sb scap : Nat) (sn : Nat → Bool)
    (hp : PAt w pb p) (hne : pb ≠ sb) (hb : Blk w sb N (bools sn)) (hpc : pc < p.length) (hi : i ≤ str.size) (hu : unseen sn N < fuel + 1) (hsn : sn (pc * (str.size + 1) + i) = false) (hop : p[pc].op = 3) (hx : p[pc].x = 5) (hq : pc + 1 < p.length) :
    Calls Tryz.prog 53 #[.slice (some ⟨pb, 0, none⟩) p.length cap, .string str, .int .i64 pc, .int .i64 i, capsV c, .slice (some ⟨sb, 0, none⟩) N scap] w fun e w' =>
      e = .returned (.tuple #[.bool (roadS p str (fuel + 1) pc i c sn).ok, capsV (roadS p str (fuel + 1) pc i c sn).c, .int .i64 (roadS p str (fuel + 1) pc i c sn).e]) ∧
      Blk w' sb N (bools (roadS p str (fuel + 1) pc i c sn).sn) ∧ Fr (fun b => b = sb) w w' := by
  have hm := hok.max
  obtain ⟨M, hM⟩ : ∃ M, M = pc * (str.size + 1) := ⟨_, rfl⟩
  have hMN : M + (str.size + 1) ≤ N := by rw [hM, hN, ← Nat.succ_mul]; exact Nat.mul_le_mul_right _ hpc
  have hN2 : N ≤ 64 * 257 := by rw [hN]; exact Nat.mul_le_mul hm (by omega)
  have hMi : (pc : Int) * ((str.size : Int) + 1) = (M : Int) := by rw [hM]; simp
  have hRd : roadS p str (fuel + 1) pc i c sn = roadS p str fuel (pc + 1) i (upd c 5 i) (upd sn (M + i) true) := by simp [roadS, hpc, hsn, hop, hx, hM]
  rw [hRd]
  rw [← hM] at hsn
  have c1 : w.cell? ⟨sb, M + i, none⟩ = some (.bool (sn (M + i))) := hb.cell (by omega)
  rw [hsn] at c1
  have hsb := hb.lt
  have Hu : Hid _ := hu
  have HM : Hid _ := hM
  clear hu hN hM hRd
  rw [show capsV c = Value.agg #[.int .i64 (c 0), .int .i64 (c 1), .int .i64 (c 2), .int .i64 (c 3), .int .i64 (c 4), .int .i64 (c 5), .int .i64 (c 6), .int .i64 (c 7)] from rfl]
  have g1 := hb.frozen (M + i)
  have w0b : Blk (w.setCell ⟨sb, M + i, none⟩ (.bool true)) sb N (bools (upd sn (M + i) true)) := by have := hb.set (M + i) (.bool true); rwa [bools_upd] at this
  have w0f : Fr (fun b => b = sb) w (w.setCell ⟨sb, M + i, none⟩ (.bool true)) := (Fr.refl _ _).setC _ _ _ (fun _ => rfl)
  have hu1 : Hid (unseen (upd sn (M + i) true) N < fuel) := by have h1 := unseen_upd sn N (M + i) (by omega) hsn; have h2 := Hu.out; exact (by omega : unseen (upd sn (M + i) true) N < fuel)
  have hne2 : sb ≠ pb := fun e => hne e.symm
  have i0 := hp pc hpc 0 (by omega)
  have i1 := hp pc hpc 1 (by omega)
  have i2 := hp pc hpc 2 (by omega)
  have i3 := hp pc hpc 3 (by omega)
  have i4 := hp pc hpc 4 (by omega)
  have i5 := hp pc hpc 5 (by omega)
  have i6 := hp pc hpc 6 (by omega)
  simp only [inCell, Nat.add_zero, hop, hx] at i0 i1 i2 i3 i4 i5 i6
  have hpl : pb < w.heap.size := World.block_lt_of_cell? w _ i0
  clear hsn
  clear hop hx
  go_enter Tryz.func53, Tryz.ntmps53
  go_wp2_with fail
  rw [show Value.agg #[.int .i64 (c 0), .int .i64 (c 1), .int .i64 (c 2), .int .i64 (c 3), .int .i64 (c 4), .int .i64 (i : Int), .int .i64 (c 6), .int .i64 (c 7)] = capsV (upd c 5 i) from by simp [capsV, upd]]
  refine (ih _ (pc + 1) i (upd c 5 i) sb scap _ (hp.frame (((w0f.alloc _).alloc _).alloc _) (by simpa using hne)) hne (((w0b.alloc _).alloc _).alloc _) hq hi hu1.out).mono ?_
  rintro e w1 ⟨rfl, b1, f1⟩
  have hc := f1.cellAt (b := w.heap.size + 1) (by simp) (by omega)
  have hf := f1.frozenAt (b := w.heap.size + 1) (by simp) (by omega)
  simp [go_sem] at hc hf
  unfold capsV
  go_wp2_with fail
  refine bodyPost_ret (v := .tuple #[.bool (roadS p str fuel (pc + 1) i (upd c 5 i) (upd sn (M + i) true)).ok, capsV (roadS p str fuel (pc + 1) i (upd c 5 i) (upd sn (M + i) true)).c, .int .i64 (roadS p str fuel (pc + 1) i (upd c 5 i) (upd sn (M + i) true)).e]) (by simp [results, Tryz.results53, go_sem, capsV, hc]) rfl ⟨rfl, Blk.far8 b1 (by omega) _ _ _ _ _ _ _ _, ?_⟩
  repeat' refine Fr.setNew ?_ (by omega)
  exact (((w0f.alloc _).alloc _).alloc _).trans f1 (fun _ _ h => h)
set_option maxRecDepth 100000 in
set_option maxHeartbeats 2000000 in
theorem road_save6 {p : List In} {pb cap : Nat} (hok : OkProg p) {str : ByteArray} (hsz : str.size ≤ 256) {fuel : Nat} {N : Nat} (hN : N = p.length * (str.size + 1)) (ih : RoadC p pb cap str N fuel) (w : World) (pc i : Nat) (c : Nat → Int) (sb scap : Nat) (sn : Nat → Bool)
    (hp : PAt w pb p) (hne : pb ≠ sb) (hb : Blk w sb N (bools sn)) (hpc : pc < p.length) (hi : i ≤ str.size) (hu : unseen sn N < fuel + 1) (hsn : sn (pc * (str.size + 1) + i) = false) (hop : p[pc].op = 3) (hx : p[pc].x = 6) (hq : pc + 1 < p.length) :
    Calls Tryz.prog 53 #[.slice (some ⟨pb, 0, none⟩) p.length cap, .string str, .int .i64 pc, .int .i64 i, capsV c, .slice (some ⟨sb, 0, none⟩) N scap] w fun e w' =>
      e = .returned (.tuple #[.bool (roadS p str (fuel + 1) pc i c sn).ok, capsV (roadS p str (fuel + 1) pc i c sn).c, .int .i64 (roadS p str (fuel + 1) pc i c sn).e]) ∧
      Blk w' sb N (bools (roadS p str (fuel + 1) pc i c sn).sn) ∧ Fr (fun b => b = sb) w w' := by
  have hm := hok.max
  obtain ⟨M, hM⟩ : ∃ M, M = pc * (str.size + 1) := ⟨_, rfl⟩
  have hMN : M + (str.size + 1) ≤ N := by rw [hM, hN, ← Nat.succ_mul]; exact Nat.mul_le_mul_right _ hpc
  have hN2 : N ≤ 64 * 257 := by rw [hN]; exact Nat.mul_le_mul hm (by omega)
  have hMi : (pc : Int) * ((str.size : Int) + 1) = (M : Int) := by rw [hM]; simp
  have hRd : roadS p str (fuel + 1) pc i c sn = roadS p str fuel (pc + 1) i (upd c 6 i) (upd sn (M + i) true) := by simp [roadS, hpc, hsn, hop, hx, hM]
  rw [hRd]
  rw [← hM] at hsn
  have c1 : w.cell? ⟨sb, M + i, none⟩ = some (.bool (sn (M + i))) := hb.cell (by omega)
  rw [hsn] at c1
  have hsb := hb.lt
  have Hu : Hid _ := hu
  have HM : Hid _ := hM
  clear hu hN hM hRd
  rw [show capsV c = Value.agg #[.int .i64 (c 0), .int .i64 (c 1), .int .i64 (c 2), .int .i64 (c 3), .int .i64 (c 4), .int .i64 (c 5), .int .i64 (c 6), .int .i64 (c 7)] from rfl]
  have g1 := hb.frozen (M + i)
  have w0b : Blk (w.setCell ⟨sb, M + i, none⟩ (.bool true)) sb N (bools (upd sn (M + i) true)) := by have := hb.set (M + i) (.bool true); rwa [bools_upd] at this
  have w0f : Fr (fun b => b = sb) w (w.setCell ⟨sb, M + i, none⟩ (.bool true)) := (Fr.refl _ _).setC _ _ _ (fun _ => rfl)
  have hu1 : Hid (unseen (upd sn (M + i) true) N < fuel) := by have h1 := unseen_upd sn N (M + i) (by omega) hsn; have h2 := Hu.out; exact (by omega : unseen (upd sn (M + i) true) N < fuel)
  have hne2 : sb ≠ pb := fun e => hne e.symm
  have i0 := hp pc hpc 0 (by omega)
  have i1 := hp pc hpc 1 (by omega)
  have i2 := hp pc hpc 2 (by omega)
  have i3 := hp pc hpc 3 (by omega)
  have i4 := hp pc hpc 4 (by omega)
  have i5 := hp pc hpc 5 (by omega)
  have i6 := hp pc hpc 6 (by omega)
  simp only [inCell, Nat.add_zero, hop, hx] at i0 i1 i2 i3 i4 i5 i6
  have hpl : pb < w.heap.size := World.block_lt_of_cell? w _ i0
  clear hsn
  clear hop hx
  go_enter Tryz.func53, Tryz.ntmps53
  go_wp2_with fail
  rw [show Value.agg #[.int .i64 (c 0), .int .i64 (c 1), .int .i64 (c 2), .int .i64 (c 3), .int .i64 (c 4), .int .i64 (c 5), .int .i64 (i : Int), .int .i64 (c 7)] = capsV (upd c 6 i) from by simp [capsV, upd]]
  refine (ih _ (pc + 1) i (upd c 6 i) sb scap _ (hp.frame (((w0f.alloc _).alloc _).alloc _) (by simpa using hne)) hne (((w0b.alloc _).alloc _).alloc _) hq hi hu1.out).mono ?_
  rintro e w1 ⟨rfl, b1, f1⟩
  have hc := f1.cellAt (b := w.heap.size + 1) (by simp) (by omega)
  have hf := f1.frozenAt (b := w.heap.size + 1) (by simp) (by omega)
  simp [go_sem] at hc hf
  unfold capsV
  go_wp2_with fail
  refine bodyPost_ret (v := .tuple #[.bool (roadS p str fuel (pc + 1) i (upd c 6 i) (upd sn (M + i) true)).ok, capsV (roadS p str fuel (pc + 1) i (upd c 6 i) (upd sn (M + i) true)).c, .int .i64 (roadS p str fuel (pc + 1) i (upd c 6 i) (upd sn (M + i) true)).e]) (by simp [results, Tryz.results53, go_sem, capsV, hc]) rfl ⟨rfl, Blk.far8 b1 (by omega) _ _ _ _ _ _ _ _, ?_⟩
  repeat' refine Fr.setNew ?_ (by omega)
  exact (((w0f.alloc _).alloc _).alloc _).trans f1 (fun _ _ h => h)
set_option maxRecDepth 100000 in
set_option maxHeartbeats 2000000 in
theorem road_save7 {p : List In} {pb cap : Nat} (hok : OkProg p) {str : ByteArray} (hsz : str.size ≤ 256) {fuel : Nat} {N : Nat} (hN : N = p.length * (str.size + 1)) (ih : RoadC p pb cap str N fuel) (w : World) (pc i : Nat) (c : Nat → Int) (sb scap : Nat) (sn : Nat → Bool)
    (hp : PAt w pb p) (hne : pb ≠ sb) (hb : Blk w sb N (bools sn)) (hpc : pc < p.length) (hi : i ≤ str.size) (hu : unseen sn N < fuel + 1) (hsn : sn (pc * (str.size + 1) + i) = false) (hop : p[pc].op = 3) (hx : p[pc].x = 7) (hq : pc + 1 < p.length) :
    Calls Tryz.prog 53 #[.slice (some ⟨pb, 0, none⟩) p.length cap, .string str, .int .i64 pc, .int .i64 i, capsV c, .slice (some ⟨sb, 0, none⟩) N scap] w fun e w' =>
      e = .returned (.tuple #[.bool (roadS p str (fuel + 1) pc i c sn).ok, capsV (roadS p str (fuel + 1) pc i c sn).c, .int .i64 (roadS p str (fuel + 1) pc i c sn).e]) ∧
      Blk w' sb N (bools (roadS p str (fuel + 1) pc i c sn).sn) ∧ Fr (fun b => b = sb) w w' := by
  have hm := hok.max
  obtain ⟨M, hM⟩ : ∃ M, M = pc * (str.size + 1) := ⟨_, rfl⟩
  have hMN : M + (str.size + 1) ≤ N := by rw [hM, hN, ← Nat.succ_mul]; exact Nat.mul_le_mul_right _ hpc
  have hN2 : N ≤ 64 * 257 := by rw [hN]; exact Nat.mul_le_mul hm (by omega)
  have hMi : (pc : Int) * ((str.size : Int) + 1) = (M : Int) := by rw [hM]; simp
  have hRd : roadS p str (fuel + 1) pc i c sn = roadS p str fuel (pc + 1) i (upd c 7 i) (upd sn (M + i) true) := by simp [roadS, hpc, hsn, hop, hx, hM]
  rw [hRd]
  rw [← hM] at hsn
  have c1 : w.cell? ⟨sb, M + i, none⟩ = some (.bool (sn (M + i))) := hb.cell (by omega)
  rw [hsn] at c1
  have hsb := hb.lt
  have Hu : Hid _ := hu
  have HM : Hid _ := hM
  clear hu hN hM hRd
  rw [show capsV c = Value.agg #[.int .i64 (c 0), .int .i64 (c 1), .int .i64 (c 2), .int .i64 (c 3), .int .i64 (c 4), .int .i64 (c 5), .int .i64 (c 6), .int .i64 (c 7)] from rfl]
  have g1 := hb.frozen (M + i)
  have w0b : Blk (w.setCell ⟨sb, M + i, none⟩ (.bool true)) sb N (bools (upd sn (M + i) true)) := by have := hb.set (M + i) (.bool true); rwa [bools_upd] at this
  have w0f : Fr (fun b => b = sb) w (w.setCell ⟨sb, M + i, none⟩ (.bool true)) := (Fr.refl _ _).setC _ _ _ (fun _ => rfl)
  have hu1 : Hid (unseen (upd sn (M + i) true) N < fuel) := by have h1 := unseen_upd sn N (M + i) (by omega) hsn; have h2 := Hu.out; exact (by omega : unseen (upd sn (M + i) true) N < fuel)
  have hne2 : sb ≠ pb := fun e => hne e.symm
  have i0 := hp pc hpc 0 (by omega)
  have i1 := hp pc hpc 1 (by omega)
  have i2 := hp pc hpc 2 (by omega)
  have i3 := hp pc hpc 3 (by omega)
  have i4 := hp pc hpc 4 (by omega)
  have i5 := hp pc hpc 5 (by omega)
  have i6 := hp pc hpc 6 (by omega)
  simp only [inCell, Nat.add_zero, hop, hx] at i0 i1 i2 i3 i4 i5 i6
  have hpl : pb < w.heap.size := World.block_lt_of_cell? w _ i0
  clear hsn
  clear hop hx
  go_enter Tryz.func53, Tryz.ntmps53
  go_wp2_with fail
  rw [show Value.agg #[.int .i64 (c 0), .int .i64 (c 1), .int .i64 (c 2), .int .i64 (c 3), .int .i64 (c 4), .int .i64 (c 5), .int .i64 (c 6), .int .i64 (i : Int)] = capsV (upd c 7 i) from by simp [capsV, upd]]
  refine (ih _ (pc + 1) i (upd c 7 i) sb scap _ (hp.frame (((w0f.alloc _).alloc _).alloc _) (by simpa using hne)) hne (((w0b.alloc _).alloc _).alloc _) hq hi hu1.out).mono ?_
  rintro e w1 ⟨rfl, b1, f1⟩
  have hc := f1.cellAt (b := w.heap.size + 1) (by simp) (by omega)
  have hf := f1.frozenAt (b := w.heap.size + 1) (by simp) (by omega)
  simp [go_sem] at hc hf
  unfold capsV
  go_wp2_with fail
  refine bodyPost_ret (v := .tuple #[.bool (roadS p str fuel (pc + 1) i (upd c 7 i) (upd sn (M + i) true)).ok, capsV (roadS p str fuel (pc + 1) i (upd c 7 i) (upd sn (M + i) true)).c, .int .i64 (roadS p str fuel (pc + 1) i (upd c 7 i) (upd sn (M + i) true)).e]) (by simp [results, Tryz.results53, go_sem, capsV, hc]) rfl ⟨rfl, Blk.far8 b1 (by omega) _ _ _ _ _ _ _ _, ?_⟩
  repeat' refine Fr.setNew ?_ (by omega)
  exact (((w0f.alloc _).alloc _).alloc _).trans f1 (fun _ _ h => h)

theorem road_all {p : List In} {pb cap : Nat} (hok : OkProg p) {str : ByteArray} (hsz : str.size ≤ 256) {N : Nat} (hN : N = p.length * (str.size + 1)) : ∀ fuel, RoadC p pb cap str N fuel
  | 0 => fun w pc i c sb scap sn hp hne hb hpc hi hu => absurd hu (Nat.not_lt_zero _)
  | fuel + 1 => fun w pc i c sb scap sn hp hne hb hpc hi hu => by
    have ih := road_all (pb := pb) (cap := cap) hok hsz hN fuel
    have hin := hok.all pc hpc
    unfold okIn at hin
    cases hsn : sn (pc * (str.size + 1) + i) with
    | true => exact road_seen hok hsz hN ih w pc i c sb scap sn hp hne hb hpc hi hu hsn
    | false =>
      by_cases o0 : p[pc].op = 0
      · by_cases hlt : i < str.size
        · cases hh : hasB p[pc].s0 p[pc].s1 p[pc].s2 p[pc].s3 (bt str i) with
          | false => exact road_char_no hok hsz hN ih w pc i c sb scap sn hp hne hb hpc hi hu hsn o0 hlt hh
          | true => exact road_char_yes hok hsz hN ih w pc i c sb scap sn hp hne hb hpc hi hu hsn o0 hlt hh (by omega)
        · exact road_char_end hok hsz hN ih w pc i c sb scap sn hp hne hb hpc hi hu hsn o0 hlt
      by_cases o1 : p[pc].op = 1
      · cases hk : (roadS p str fuel p[pc].x.toNat i c (upd sn (pc * (str.size + 1) + i) true)).ok with
        | true => exact road_split_yes hok hsz hN ih w pc i c sb scap sn hp hne hb hpc hi hu hsn o1 p[pc].x.toNat p[pc].y.toNat (by omega) (by omega) (by omega) (by omega) hk
        | false => exact road_split_no hok hsz hN ih w pc i c sb scap sn hp hne hb hpc hi hu hsn o1 p[pc].x.toNat p[pc].y.toNat (by omega) (by omega) (by omega) (by omega) hk
      by_cases o2 : p[pc].op = 2
      · exact road_jmp hok hsz hN ih w pc i c sb scap sn hp hne hb hpc hi hu hsn o2 p[pc].x.toNat (by omega) (by omega)
      by_cases o3 : p[pc].op = 3
      · rcases (show p[pc].x = 2 ∨ p[pc].x = 3 ∨ p[pc].x = 4 ∨ p[pc].x = 5 ∨ p[pc].x = 6 ∨ p[pc].x = 7 by omega) with hx | hx | hx | hx | hx | hx
        · exact road_save2 hok hsz hN ih w pc i c sb scap sn hp hne hb hpc hi hu hsn o3 hx (by omega)
        · exact road_save3 hok hsz hN ih w pc i c sb scap sn hp hne hb hpc hi hu hsn o3 hx (by omega)
        · exact road_save4 hok hsz hN ih w pc i c sb scap sn hp hne hb hpc hi hu hsn o3 hx (by omega)
        · exact road_save5 hok hsz hN ih w pc i c sb scap sn hp hne hb hpc hi hu hsn o3 hx (by omega)
        · exact road_save6 hok hsz hN ih w pc i c sb scap sn hp hne hb hpc hi hu hsn o3 hx (by omega)
        · exact road_save7 hok hsz hN ih w pc i c sb scap sn hp hne hb hpc hi hu hsn o3 hx (by omega)
      by_cases o4 : p[pc].op = 4
      · by_cases hz : i = 0
        · exact road_begin_yes hok hsz hN ih w pc i c sb scap sn hp hne hb hpc hi hu hsn o4 hz (by omega)
        · exact road_begin_no hok hsz hN ih w pc i c sb scap sn hp hne hb hpc hi hu hsn o4 hz
      by_cases o5 : p[pc].op = 5
      · by_cases hz : i = str.size
        · exact road_end_yes hok hsz hN ih w pc i c sb scap sn hp hne hb hpc hi hu hsn o5 hz (by omega)
        · exact road_end_no hok hsz hN ih w pc i c sb scap sn hp hne hb hpc hi hu hsn o5 hz
      exact road_match hok hsz hN ih w pc i c sb scap sn hp hne hb hpc hi hu hsn (by omega)
end Go.Proofs.Qxb6500285aGreat
