/- One member of a class: both sides. -/
import Derived.Test.Qxb6500283aGreatA5
import Derived.Test.Qxb6500283aGreatA7
namespace Go.Proofs.Qxb6500283aGreat
open Go Go.RowKit

theorem item_esc {p : ByteArray} {i : Nat} (h : bt p i = 92) : item p i = esc p i := by unfold item; rw [if_pos h]
theorem item_one {p : ByteArray} {i : Nat} (h : bt p i ≠ 92) : item p i = some (btw (bt p i) (bt p i), true, bt p i, i + 1) := by unfold item; rw [if_neg h]; rfl
set_option maxRecDepth 100000 in
set_option maxHeartbeats 2000000 in
theorem itemR_any {w : World} {x : Nat} {f : Nat → Value} {p : ByteArray} {i : Nat} (hb : Blk w x 325 f) (h0 : f 0 = .string p) (h1 : f 1 = .int .i64 (i : Nat)) (hsz : p.size ≤ 129) (hi : i < p.size) :
    Calls Tryz.prog 155 #[.pointer (some ⟨x, 0, none⟩)] w (EscPost w x 325 323 324 f (item p i) i) := by
  have c0 := hb.cell (o := 0) (by omega)
  have c1 := hb.cell (o := 1) (by omega)
  rw [h0] at c0
  rw [h1] at c1
  have z := hb.frozen
  have hxl := hb.lt
  have hbt := bt_at p i hi
  have hcl := bt_lt p i
  have Hbt : Hid _ := hbt
  clear hbt
  have hb1 := (hb.alloc (.cells #[.int .u64 0, .int .u64 0, .int .u64 0, .int .u64 0] 95)).drew
  have hR1 := (Blk.zero4 w).drew
  have F1 := ((Fr.refl (fun b => b = x) w).alloc (.cells #[.int .u64 0, .int .u64 0, .int .u64 0, .int .u64 0] 95)).drew
  go_enter Tryz.func155, Tryz.ntmps155
  by_cases h92 : bt p i = 92
  · rw [item_esc h92]
    have t92 : ((p[i].toNat : Int) == 92) = true := by have := Hbt.out; simp; omega
    have t92' : (p[i].toNat == 92) = true := by have := Hbt.out; simp; omega
    go_wp2_with fail
    refine wp_region_text (by kernel_rfl) (by kernel_rfl) ?_
    go_wp2_with fail
    refine ⟨by kernel_rfl, ?_⟩
    go_wp2_with fail
    refine (escR_any hb1 h0 h1 hsz hi).mono ?_
    intro e w2 hE
    generalize esc p i = o at *
    have lR1 := hR1.lt
    cases o with
    | none =>
      obtain ⟨rfl, ⟨iv, hiv, hb2⟩, f2⟩ := hE
      have hR2 := hR1.frame f2 (by omega)
      obtain ⟨m0, m1, m2, m3⟩ := hR2.four
      have zR := hR2.frozen
      have lR2 := hR2.lt
      rw [show setV noP = .agg #[.int .u64 0, .int .u64 0, .int .u64 0, .int .u64 0] by rfl]
      go_wp2_with fail
      obtain ⟨r0, r1, r2, r3⟩ := hR2.zset.four
      exact bodyPost_ret (v := .tuple #[setV noP, .bool false, .int .u8 0]) (by simp [results, Tryz.results155, go_sem, setV, r0, r1, r2, r3]) rfl ⟨rfl, ⟨iv, hiv, hb2.frame (S := fun b => b = w.heap.size) (Fr.zset (Fr.refl (fun b => b = w.heap.size) w2) (fun _ => rfl)) (by omega)⟩, Fr.zset (F1.trans f2 (fun _ _ h => h)) (fun h => by omega)⟩
    | some v =>
      obtain ⟨P, sg, b, j⟩ := v
      obtain ⟨rfl, hb2, f2⟩ := hE
      have hR2 := hR1.frame f2 (by omega)
      obtain ⟨m0, m1, m2, m3⟩ := hR2.four
      have zR := hR2.frozen
      have lR2 := hR2.lt
      unfold setV
      go_wp2_with fail
      obtain ⟨r0, r1, r2, r3⟩ := (hR2.pset P).four
      exact bodyPost_ret (v := .tuple #[setV P, .bool sg, .int .u8 b]) (by simp [results, Tryz.results155, go_sem, setV, r0, r1, r2, r3]) rfl ⟨rfl, hb2.frame (S := fun b => b = w.heap.size) (Fr.pset (Fr.refl (fun b => b = w.heap.size) w2) (fun _ => rfl) P) (by omega), Fr.pset (F1.trans f2 (fun _ _ h => h)) (fun h => by omega) P⟩
  · rw [item_one h92]
    have t92 : ((p[i].toNat : Int) == 92) = false := by have := Hbt.out; simp; omega
    have t92' : (p[i].toNat == 92) = false := by have := Hbt.out; simp; omega
    have hb2 := ((hb.set 1 (.int .i64 ((i : Int) + 1))).alloc (.cells #[.int .u64 0, .int .u64 0, .int .u64 0, .int .u64 0] 95)).drew
    have hR2 := (Blk.zero4 (w.setCell ⟨x, 1, none⟩ (.int .i64 ((i : Int) + 1)))).drew
    simp only [World.size_setCell] at hR2
    have F2 := (((Fr.refl (fun b => b = x) w).setC x 1 (.int .i64 ((i : Int) + 1)) (fun _ => rfl)).alloc (.cells #[.int .u64 0, .int .u64 0, .int .u64 0, .int .u64 0] 95)).drew
    go_wp2_with fail
    refine wp_region_text (by kernel_rfl) (by kernel_rfl) ?_
    go_wp2_with fail
    refine ⟨by kernel_rfl, ?_⟩
    go_wp2_with fail
    rw [← Hbt.out]
    refine (between_any (bt p i) (bt p i) hcl hcl _).mono ?_
    rintro e w3 ⟨rfl, f3⟩
    have hb3 := hb2.frame f3 (by simp)
    have hR3 := hR2.frame f3 (by simp)
    have F3 := F2.trans f3 (fun _ _ h => h.elim)
    obtain ⟨m0, m1, m2, m3⟩ := hR3.four
    have zR3 := hR3.frozen
    have l3 := hR3.lt
    have l3x := hb3.lt
    unfold setV
    go_wp2_with fail
    obtain ⟨r0, r1, r2, r3⟩ := (hR3.pset (btw (bt p i) (bt p i))).four
    exact bodyPost_ret (v := .tuple #[setV (btw (bt p i) (bt p i)), .bool true, .int .u8 (bt p i)]) (by simp [results, Tryz.results155, go_sem, setV, r0, r1, r2, r3]) rfl ⟨rfl, hb3.frame (S := fun b => b = w.heap.size) (Fr.pset (Fr.refl (fun b => b = w.heap.size) w3) (fun _ => rfl) (btw (bt p i) (bt p i))) (by omega), Fr.pset F3 (fun h => by omega) (btw (bt p i) (bt p i))⟩
set_option maxRecDepth 100000 in
set_option maxHeartbeats 2000000 in
theorem itemM_any {w : World} {x : Nat} {f : Nat → Value} {p : ByteArray} {i : Nat} (hb : Blk w x 6 f) (h0 : f 0 = .string p) (h1 : f 1 = .int .i64 (i : Nat)) (h4 : f 4 = .int .i64 0) (hsz : p.size ≤ 129) (hi : i < p.size) :
    Calls Tryz.prog 170 #[.pointer (some ⟨x, 0, none⟩)] w (EscPost w x 6 4 5 f (item p i) i) := by
  have c0 := hb.cell (o := 0) (by omega)
  have c1 := hb.cell (o := 1) (by omega)
  rw [h0] at c0
  rw [h1] at c1
  have z := hb.frozen
  have hxl := hb.lt
  have hbt := bt_at p i hi
  have hcl := bt_lt p i
  have Hbt : Hid _ := hbt
  clear hbt
  have hb1 := (hb.alloc (.cells #[.int .u64 0, .int .u64 0, .int .u64 0, .int .u64 0] 95)).drew
  have hR1 := (Blk.zero4 w).drew
  have F1 := ((Fr.refl (fun b => b = x) w).alloc (.cells #[.int .u64 0, .int .u64 0, .int .u64 0, .int .u64 0] 95)).drew
  go_enter Tryz.func170, Tryz.ntmps170
  by_cases h92 : bt p i = 92
  · rw [item_esc h92]
    have t92 : ((p[i].toNat : Int) == 92) = true := by have := Hbt.out; simp; omega
    have t92' : (p[i].toNat == 92) = true := by have := Hbt.out; simp; omega
    go_wp2_with fail
    refine wp_region_text (by kernel_rfl) (by kernel_rfl) ?_
    go_wp2_with fail
    refine ⟨by kernel_rfl, ?_⟩
    go_wp2_with fail
    refine (escM_any hb1 h0 h1 h4 hsz hi).mono ?_
    intro e w2 hE
    generalize esc p i = o at *
    have lR1 := hR1.lt
    cases o with
    | none =>
      obtain ⟨rfl, ⟨iv, hiv, hb2⟩, f2⟩ := hE
      have hR2 := hR1.frame f2 (by omega)
      obtain ⟨m0, m1, m2, m3⟩ := hR2.four
      have zR := hR2.frozen
      have lR2 := hR2.lt
      rw [show setV noP = .agg #[.int .u64 0, .int .u64 0, .int .u64 0, .int .u64 0] by rfl]
      go_wp2_with fail
      obtain ⟨r0, r1, r2, r3⟩ := hR2.zset.four
      exact bodyPost_ret (v := .tuple #[setV noP, .bool false, .int .u8 0]) (by simp [results, Tryz.results170, go_sem, setV, r0, r1, r2, r3]) rfl ⟨rfl, ⟨iv, hiv, hb2.frame (S := fun b => b = w.heap.size) (Fr.zset (Fr.refl (fun b => b = w.heap.size) w2) (fun _ => rfl)) (by omega)⟩, Fr.zset (F1.trans f2 (fun _ _ h => h)) (fun h => by omega)⟩
    | some v =>
      obtain ⟨P, sg, b, j⟩ := v
      obtain ⟨rfl, hb2, f2⟩ := hE
      have hR2 := hR1.frame f2 (by omega)
      obtain ⟨m0, m1, m2, m3⟩ := hR2.four
      have zR := hR2.frozen
      have lR2 := hR2.lt
      unfold setV
      go_wp2_with fail
      obtain ⟨r0, r1, r2, r3⟩ := (hR2.pset P).four
      exact bodyPost_ret (v := .tuple #[setV P, .bool sg, .int .u8 b]) (by simp [results, Tryz.results170, go_sem, setV, r0, r1, r2, r3]) rfl ⟨rfl, hb2.frame (S := fun b => b = w.heap.size) (Fr.pset (Fr.refl (fun b => b = w.heap.size) w2) (fun _ => rfl) P) (by omega), Fr.pset (F1.trans f2 (fun _ _ h => h)) (fun h => by omega) P⟩
  · rw [item_one h92]
    have t92 : ((p[i].toNat : Int) == 92) = false := by have := Hbt.out; simp; omega
    have t92' : (p[i].toNat == 92) = false := by have := Hbt.out; simp; omega
    have hb2 := ((hb.set 1 (.int .i64 ((i : Int) + 1))).alloc (.cells #[.int .u64 0, .int .u64 0, .int .u64 0, .int .u64 0] 95)).drew.drew
    have hR2 := (Blk.zero4 (w.setCell ⟨x, 1, none⟩ (.int .i64 ((i : Int) + 1)))).drew.drew
    simp only [World.size_setCell] at hR2
    have F2 := (((Fr.refl (fun b => b = x) w).setC x 1 (.int .i64 ((i : Int) + 1)) (fun _ => rfl)).alloc (.cells #[.int .u64 0, .int .u64 0, .int .u64 0, .int .u64 0] 95)).drew.drew
    go_wp2_with fail
    refine wp_region_text (by kernel_rfl) (by kernel_rfl) ?_
    go_wp2_with fail
    refine ⟨by kernel_rfl, ?_⟩
    go_wp2_with fail
    refine wp_region_text (by kernel_rfl) (by kernel_rfl) ?_
    go_wp2_with fail
    refine ⟨by kernel_rfl, ?_⟩
    go_wp2_with fail
    rw [← Hbt.out]
    refine (one_any (bt p i) hcl _).mono ?_
    rintro e w3 ⟨rfl, f3⟩
    have hb3 := hb2.frame f3 (by simp)
    have hR3 := hR2.frame f3 (by simp)
    have F3 := F2.trans f3 (fun _ _ h => h.elim)
    obtain ⟨m0, m1, m2, m3⟩ := hR3.four
    have zR3 := hR3.frozen
    have l3 := hR3.lt
    have l3x := hb3.lt
    unfold setV
    go_wp2_with fail
    obtain ⟨r0, r1, r2, r3⟩ := (hR3.pset (btw (bt p i) (bt p i))).four
    exact bodyPost_ret (v := .tuple #[setV (btw (bt p i) (bt p i)), .bool true, .int .u8 (bt p i)]) (by simp [results, Tryz.results170, go_sem, setV, r0, r1, r2, r3]) rfl ⟨rfl, hb3.frame (S := fun b => b = w.heap.size) (Fr.pset (Fr.refl (fun b => b = w.heap.size) w3) (fun _ => rfl) (btw (bt p i) (bt p i))) (by omega), Fr.pset F3 (fun h => by omega) (btw (bt p i) (bt p i))⟩
end Go.Proofs.Qxb6500283aGreat
