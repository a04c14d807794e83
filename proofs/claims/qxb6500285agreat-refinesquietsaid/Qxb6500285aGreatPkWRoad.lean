import Derived.Test.Qxb6500285aGreatPkRoad
namespace Go.Proofs.Qxb6500285aGreat
open Go Go.RowKit


theorem Fr.cellAt {S : Nat → Prop} {w w1 : World} (k : Fr S w w1) {b : Nat} (hl : b < w.heap.size) (hS : ¬ S b) (o : Nat) : w1.cell? ⟨b, o, none⟩ = w.cell? ⟨b, o, none⟩ := k.cell (p := ⟨b, o, none⟩) hl hS
theorem Fr.frozenAt {S : Nat → Prop} {w w1 : World} (k : Fr S w w1) {b : Nat} (hl : b < w.heap.size) (hS : ¬ S b) (o : Nat) : w1.frozen? ⟨b, o, none⟩ = w.frozen? ⟨b, o, none⟩ := k.frozen (p := ⟨b, o, none⟩) hl hS
theorem Blk.far8 {w : World} {b n b' : Nat} {f : Nat → Value} (h : Blk w b n f) (hb : b ≠ b') (v0 v1 v2 v3 v4 v5 v6 v7 : Value) : Blk ((((((((w.setCell ⟨b', 0, none⟩ v0).setCell ⟨b', 1, none⟩ v1).setCell ⟨b', 2, none⟩ v2).setCell ⟨b', 3, none⟩ v3).setCell ⟨b', 4, none⟩ v4).setCell ⟨b', 5, none⟩ v5).setCell ⟨b', 6, none⟩ v6).setCell ⟨b', 7, none⟩ v7) b n f :=
  (((((((h.setOther _ v0 hb).setOther _ v1 hb).setOther _ v2 hb).setOther _ v3 hb).setOther _ v4 hb).setOther _ v5 hb).setOther _ v6 hb).setOther _ v7 hb

def RoadC (p : List In) (pb cap : Nat) (str : ByteArray) (N fuel : Nat) : Prop :=
  ∀ (w : World) (pc i : Nat) (c : Nat → Int) (sb scap : Nat) (sn : Nat → Bool), PAt w pb p → pb ≠ sb → Blk w sb N (bools sn) → pc < p.length → i ≤ str.size → unseen sn N < fuel →
    Calls Tryz.prog 53 #[.slice (some ⟨pb, 0, none⟩) p.length cap, .string str, .int .i64 pc, .int .i64 i, capsV c, .slice (some ⟨sb, 0, none⟩) N scap] w fun e w' =>
      e = .returned (.tuple #[.bool (roadS p str fuel pc i c sn).ok, capsV (roadS p str fuel pc i c sn).c, .int .i64 (roadS p str fuel pc i c sn).e]) ∧
      Blk w' sb N (bools (roadS p str fuel pc i c sn).sn) ∧ Fr (fun b => b = sb) w w'

set_option maxRecDepth 100000 in
set_option maxHeartbeats 2000000 in
theorem road_seen {p : List In} {pb cap : Nat} (hok : OkProg p) {str : ByteArray} (hsz : str.size ≤ 256) {fuel : Nat} {N : Nat} (hN : N = p.length * (str.size + 1)) (_ih : RoadC p pb cap str N fuel) (w : World) (pc i : Nat) (c : Nat → Int) (sb scap : Nat) (sn : Nat → Bool)
    (_hp : PAt w pb p) (_hne : pb ≠ sb) (hb : Blk w sb N (bools sn)) (hpc : pc < p.length) (hi : i ≤ str.size) (hu : unseen sn N < fuel + 1) (hsn : sn (pc * (str.size + 1) + i) = true) :
    Calls Tryz.prog 53 #[.slice (some ⟨pb, 0, none⟩) p.length cap, .string str, .int .i64 pc, .int .i64 i, capsV c, .slice (some ⟨sb, 0, none⟩) N scap] w fun e w' =>
      e = .returned (.tuple #[.bool (roadS p str (fuel + 1) pc i c sn).ok, capsV (roadS p str (fuel + 1) pc i c sn).c, .int .i64 (roadS p str (fuel + 1) pc i c sn).e]) ∧
      Blk w' sb N (bools (roadS p str (fuel + 1) pc i c sn).sn) ∧ Fr (fun b => b = sb) w w' := by
  have hm := hok.max
  obtain ⟨M, hM⟩ : ∃ M, M = pc * (str.size + 1) := ⟨_, rfl⟩
  have hMN : M + (str.size + 1) ≤ N := by rw [hM, hN, ← Nat.succ_mul]; exact Nat.mul_le_mul_right _ hpc
  have hN2 : N ≤ 64 * 257 := by rw [hN]; exact Nat.mul_le_mul hm (by omega)
  have hMi : (pc : Int) * ((str.size : Int) + 1) = (M : Int) := by rw [hM]; simp
  have hRd : roadS p str (fuel + 1) pc i c sn = ⟨false, c, 0, sn⟩ := by simp [roadS, hsn]
  rw [hRd]
  rw [← hM] at hsn
  have c1 : w.cell? ⟨sb, M + i, none⟩ = some (.bool (sn (M + i))) := hb.cell (by omega)
  rw [hsn] at c1
  have hsb := hb.lt
  have Hu : Hid _ := hu
  have HM : Hid _ := hM
  clear hu hN hM hRd
  rw [show capsV c = Value.agg #[.int .i64 (c 0), .int .i64 (c 1), .int .i64 (c 2), .int .i64 (c 3), .int .i64 (c 4), .int .i64 (c 5), .int .i64 (c 6), .int .i64 (c 7)] from rfl]
  clear hsn
  go_enter Tryz.func53, Tryz.ntmps53
  go_wp2_with fail
  refine wp_region_text (by kernel_rfl) (by kernel_rfl) ?_
  go_wp2_with fail
  refine ⟨by kernel_rfl, ?_⟩
  go_wp2_with fail
  refine bodyPost_ret (v := .tuple #[.bool false, capsV c, .int .i64 0]) (by simp [results, Tryz.results53, go_sem, capsV]) rfl ⟨rfl, ?_, ?_⟩
  · exact ((hb.alloc _).alloc _).drew
  · exact (((Fr.refl _ _).alloc _).alloc _).drew
set_option maxRecDepth 100000 in
set_option maxHeartbeats 2000000 in
theorem road_jmp {p : List In} {pb cap : Nat} (hok : OkProg p) {str : ByteArray} (hsz : str.size ≤ 256) {fuel : Nat} {N : Nat} (hN : N = p.length * (str.size + 1)) (ih : RoadC p pb cap str N fuel) (w : World) (pc i : Nat) (c : Nat → Int) (sb scap : Nat) (sn : Nat → Bool)
    (hp : PAt w pb p) (hne : pb ≠ sb) (hb : Blk w sb N (bools sn)) (hpc : pc < p.length) (hi : i ≤ str.size) (hu : unseen sn N < fuel + 1) (hsn : sn (pc * (str.size + 1) + i) = false) (hop : p[pc].op = 2) (q : Nat) (hx : p[pc].x = q) (hq : q < p.length) :
    Calls Tryz.prog 53 #[.slice (some ⟨pb, 0, none⟩) p.length cap, .string str, .int .i64 pc, .int .i64 i, capsV c, .slice (some ⟨sb, 0, none⟩) N scap] w fun e w' =>
      e = .returned (.tuple #[.bool (roadS p str (fuel + 1) pc i c sn).ok, capsV (roadS p str (fuel + 1) pc i c sn).c, .int .i64 (roadS p str (fuel + 1) pc i c sn).e]) ∧
      Blk w' sb N (bools (roadS p str (fuel + 1) pc i c sn).sn) ∧ Fr (fun b => b = sb) w w' := by
  have hm := hok.max
  obtain ⟨M, hM⟩ : ∃ M, M = pc * (str.size + 1) := ⟨_, rfl⟩
  have hMN : M + (str.size + 1) ≤ N := by rw [hM, hN, ← Nat.succ_mul]; exact Nat.mul_le_mul_right _ hpc
  have hN2 : N ≤ 64 * 257 := by rw [hN]; exact Nat.mul_le_mul hm (by omega)
  have hMi : (pc : Int) * ((str.size : Int) + 1) = (M : Int) := by rw [hM]; simp
  have hRd : roadS p str (fuel + 1) pc i c sn = roadS p str fuel q i c (upd sn (M + i) true) := by simp [roadS, hpc, hsn, hop, hx, hM]
  rw [hRd]
  rw [← hM] at hsn
  have c1 : w.cell? ⟨sb, M + i, none⟩ = some (.bool (sn (M + i))) := hb.cell (by omega)
  rw [hsn] at c1
  have hsb := hb.lt
  have Hu : Hid _ := hu
  have HM : Hid _ := hM
  clear hu hN hM hRd
  rw [show capsV c = Value.agg #[.int .i64 (c 0), .int .i64 (c 1), .int .i64 (c 2), .int .i64 (c 3), .int .i64 (c 4), .int .i64 (c 5), .int .i64 (c 6), .int .i64 (c 7)] from rfl]
  have g1 := hb.frozen (M + i)
  have w0b : Blk (w.setCell ⟨sb, M + i, none⟩ (.bool true)) sb N (bools (upd sn (M + i) true)) := by have := hb.set (M + i) (.bool true); rwa [bools_upd] at this
  have w0f : Fr (fun b => b = sb) w (w.setCell ⟨sb, M + i, none⟩ (.bool true)) := (Fr.refl _ _).setC _ _ _ (fun _ => rfl)
  have hu1 : Hid (unseen (upd sn (M + i) true) N < fuel) := by have h1 := unseen_upd sn N (M + i) (by omega) hsn; have h2 := Hu.out; exact (by omega : unseen (upd sn (M + i) true) N < fuel)
  have hne2 : sb ≠ pb := fun e => hne e.symm
  have i0 := hp pc hpc 0 (by omega)
  have i1 := hp pc hpc 1 (by omega)
  have i2 := hp pc hpc 2 (by omega)
  have i3 := hp pc hpc 3 (by omega)
  have i4 := hp pc hpc 4 (by omega)
  have i5 := hp pc hpc 5 (by omega)
  have i6 := hp pc hpc 6 (by omega)
  simp only [inCell, Nat.add_zero, hop, hx] at i0 i1 i2 i3 i4 i5 i6
  have hpl : pb < w.heap.size := World.block_lt_of_cell? w _ i0
  clear hsn
  clear hop hx
  go_enter Tryz.func53, Tryz.ntmps53
  go_wp2_with fail
  refine (ih _ q i c sb scap _ (hp.frame (((w0f.alloc _).alloc _).alloc _) (by simpa using hne)) hne (((w0b.alloc _).alloc _).alloc _) hq hi hu1.out).mono ?_
  rintro e w1 ⟨rfl, b1, f1⟩
  have hc := f1.cellAt (b := w.heap.size + 1) (by simp) (by omega)
  have hf := f1.frozenAt (b := w.heap.size + 1) (by simp) (by omega)
  simp [go_sem] at hc hf
  unfold capsV
  go_wp2_with fail
  refine bodyPost_ret (v := .tuple #[.bool (roadS p str fuel q i c (upd sn (M + i) true)).ok, capsV (roadS p str fuel q i c (upd sn (M + i) true)).c, .int .i64 (roadS p str fuel q i c (upd sn (M + i) true)).e]) (by simp [results, Tryz.results53, go_sem, capsV, hc]) rfl ⟨rfl, Blk.far8 b1 (by omega) _ _ _ _ _ _ _ _, ?_⟩
  repeat' refine Fr.setNew ?_ (by omega)
  exact (((w0f.alloc _).alloc _).alloc _).trans f1 (fun _ _ h => h)
end Go.Proofs.Qxb6500285aGreat
