import Derived.Test.Qxb6500282aG1
namespace Go.Proofs.Qxb6500282a
open Go Go.RowKit

structure HeldH (u0 b0 f0 k0 u1 b1 f1 k1 room kinds d db tl M : Nat) (tw an : Bool) : Prop where
  hu0 : u0 ≤ 6
  hu : u1 ≤ 6
  hub : u1 ≤ b1
  h1 : 1 ≤ u1
  ef : f1 = f0 + d
  eb : b1 = b0 + db
  ek : k1 = k0 + tl
  ld : d ≤ 1000
  lt : tl ≤ 1000
  hr : db ≤ room
  lr : room ≤ 1000
  lkn : kinds ≤ 256
  led : an = false → db + u0 = d * 6 + u1
  led2 : an = true → 1 ≤ d ∧ db + 6 = d * 6 + u1
  t1 : 1 ≤ tl
  dt : db ≤ tl
  hM : M = (d + 1) * 6 * kinds
  htl : tl ≤ 2 + d + M
  htw : tw = true → d = 0 → db = 0 ∧ tl ≤ 2
theorem HeldH.lM {u0 b0 f0 k0 u1 b1 f1 k1 room kinds d db tl M : Nat} {tw an : Bool} (h : HeldH u0 b0 f0 k0 u1 b1 f1 k1 room kinds d db tl M tw an) : M < 10000000 := by
  have h1 := h.ld
  have h2 := h.lkn
  have h3 := Nat.mul_le_mul (show (d + 1) * 6 ≤ 6006 by omega) h2
  rw [← h.hM] at h3
  omega
def gF (u b f k : Nat) (o : Nat) : Value :=
  match o with
  | 0 => .int .i64 u
  | 1 => .int .i64 b
  | 2 => .int .i64 f
  | _ => .int .i64 k
theorem Blk.g (w : World) (u b f k : Nat) : Blk (w.alloc (.cells #[.int .i64 u, .int .i64 b, .int .i64 f, .int .i64 k] 38)) w.heap.size 4 (gF u b f k) :=
  Blk.new w _ _ _ fun o ho => by
    rcases (show o = 0 ∨ o = 1 ∨ o = 2 ∨ o = 3 by simp at ho; omega) with rfl | rfl | rfl | rfl <;> rfl
/-- The two boxes of Held, behind Bounded. -/
theorem held_cells {w w1 : World} {u0 b0 f0 k0 u1 b1 f1 k1 : Nat} (f : Fr (fun _ => False) ((w.alloc (.cells #[.int .i64 u0, .int .i64 b0, .int .i64 f0, .int .i64 k0] 38)).alloc (.cells #[.int .i64 u1, .int .i64 b1, .int .i64 f1, .int .i64 k1] 38)) w1) :
    Blk w1 w.heap.size 4 (gF u0 b0 f0 k0) ∧ Blk w1 (w.heap.size + 1) 4 (gF u1 b1 f1 k1) := by
  have h1 := (Blk.g w u0 b0 f0 k0).alloc (.cells #[.int .i64 u1, .int .i64 b1, .int .i64 f1, .int .i64 k1] 38)
  have h2 := Blk.g (w.alloc (.cells #[.int .i64 u0, .int .i64 b0, .int .i64 f0, .int .i64 k0] 38)) u1 b1 f1 k1
  rw [World.size_alloc] at h2
  exact ⟨h1.frame f (by simp), h2.frame f (by simp)⟩

set_option maxRecDepth 100000 in
set_option maxHeartbeats 4000000 in
theorem held_ff {u0 b0 f0 k0 u1 b1 f1 k1 room kinds d db tl M : Nat} (h : HeldH u0 b0 f0 k0 u1 b1 f1 k1 room kinds d db tl M false false) (w : World) :
    Calls Try.prog 20 #[gV u0 b0 f0 k0, gV u1 b1 f1 k1, .int .i64 0, .int .i64 room, .int .i64 kinds, .bool false, .bool false] w fun e w' => e = .returned (.bool true) ∧ Fr (fun _ => False) w w' := by
  have lM := h.lM
  obtain ⟨hu0, hu, hub, h1, ef, eb, ek, ld, lt, hr, lr, lkn, led, led2, t1, dt, hM, htl, htw⟩ := h
  replace led := led rfl
  clear led2
  clear htw
  have x1 : (b1 : Int) - b0 = db := by omega
  have x2 : (f1 : Int) - f0 = d := by omega
  have x3 : (k1 : Int) - k0 = tl := by omega
  have x4 : ((d : Int) + 1) * 6 * kinds = M := by rw [hM]; simp
  have x5 : (d : Int) * 6 - u0 + u1 = db := by omega
  have y1 : decide ((b1 : Int) < b0) = false := by simp; omega
  have y2 : decide ((f1 : Int) < f0) = false := by simp; omega
  have y3 : decide ((k1 : Int) < k0) = false := by simp; omega
  have y4 : decide ((room : Int) < db) = false := by simp; omega
  have y5 : decide ((u1 : Int) < 1) = false := by simp; omega
  have y6 : decide ((tl : Int) < 1) = false := by simp; omega
  have y7 : decide ((tl : Int) < db) = false := by simp; omega
  have y8 : decide ((2 : Int) + d + M < tl) = false := by simp; omega
  have i1 : (u0 : Int) ≤ 6 := by omega
  have i2 : (u1 : Int) ≤ 6 := by omega
  have i3 : (d : Int) ≤ 1000 := by omega
  have i4 : (tl : Int) ≤ 1000 := by omega
  have i5 : (room : Int) ≤ 1000 := by omega
  have i6 : (kinds : Int) ≤ 256 := by omega
  have i7 : (M : Int) ≤ 10000000 := by omega
  have i8 : (db : Int) ≤ 1000 := by omega
  have Hu : Hid _ := hu
  have Hub : Hid _ := hub
  clear hM ef eb ek htl led hu0 hu hub h1 ld lt lr lkn t1 lM
  have fa := (((Fr.refl (fun _ => False) w).alloc (.cells #[.int .i64 u0, .int .i64 b0, .int .i64 f0, .int .i64 k0] 38)).alloc (.cells #[.int .i64 u1, .int .i64 b1, .int .i64 f1, .int .i64 k1] 38))
  unfold gV
  go_enter Try.func20, Try.ntmps20
  go_wp2_with fail
  refine (bounded_any u1 b1 f1 k1 Hu.out Hub.out _).mono ?_
  rintro e w1 ⟨rfl, f1'⟩
  obtain ⟨hA, hB⟩ := held_cells f1'
  have a0 : w1.cell? ⟨w.heap.size, 0, none⟩ = some (.int .i64 (u0 : Nat)) := hA.cell (by omega)
  have a1 : w1.cell? ⟨w.heap.size, 1, none⟩ = some (.int .i64 (b0 : Nat)) := hA.cell (by omega)
  have a2 : w1.cell? ⟨w.heap.size, 2, none⟩ = some (.int .i64 (f0 : Nat)) := hA.cell (by omega)
  have a3 : w1.cell? ⟨w.heap.size, 3, none⟩ = some (.int .i64 (k0 : Nat)) := hA.cell (by omega)
  have c0 : w1.cell? ⟨w.heap.size + 1, 0, none⟩ = some (.int .i64 (u1 : Nat)) := hB.cell (by omega)
  have c1 : w1.cell? ⟨w.heap.size + 1, 1, none⟩ = some (.int .i64 (b1 : Nat)) := hB.cell (by omega)
  have c2 : w1.cell? ⟨w.heap.size + 1, 2, none⟩ = some (.int .i64 (f1 : Nat)) := hB.cell (by omega)
  have c3 : w1.cell? ⟨w.heap.size + 1, 3, none⟩ = some (.int .i64 (k1 : Nat)) := hB.cell (by omega)
  go_wp2_with fail
  go_ret
  exact ⟨rfl, fa.trans f1' (fun _ _ h => h)⟩
set_option maxRecDepth 100000 in
set_option maxHeartbeats 4000000 in
theorem held_ft {u0 b0 f0 k0 u1 b1 f1 k1 room kinds d db tl M : Nat} (h : HeldH u0 b0 f0 k0 u1 b1 f1 k1 room kinds d db tl M false true) (w : World) :
    Calls Try.prog 20 #[gV u0 b0 f0 k0, gV u1 b1 f1 k1, .int .i64 0, .int .i64 room, .int .i64 kinds, .bool false, .bool true] w fun e w' => e = .returned (.bool true) ∧ Fr (fun _ => False) w w' := by
  have lM := h.lM
  obtain ⟨hu0, hu, hub, h1, ef, eb, ek, ld, lt, hr, lr, lkn, led, led2, t1, dt, hM, htl, htw⟩ := h
  obtain ⟨led, led3⟩ := led2 rfl
  clear led2
  clear htw
  have x1 : (b1 : Int) - b0 = db := by omega
  have x2 : (f1 : Int) - f0 = d := by omega
  have x3 : (k1 : Int) - k0 = tl := by omega
  have x4 : ((d : Int) + 1) * 6 * kinds = M := by rw [hM]; simp
  have x5 : ((d : Int) - 1) * 6 + u1 = db := by omega
  have y9 : decide ((d : Int) < 1) = false := by simp; omega
  have y1 : decide ((b1 : Int) < b0) = false := by simp; omega
  have y2 : decide ((f1 : Int) < f0) = false := by simp; omega
  have y3 : decide ((k1 : Int) < k0) = false := by simp; omega
  have y4 : decide ((room : Int) < db) = false := by simp; omega
  have y5 : decide ((u1 : Int) < 1) = false := by simp; omega
  have y6 : decide ((tl : Int) < 1) = false := by simp; omega
  have y7 : decide ((tl : Int) < db) = false := by simp; omega
  have y8 : decide ((2 : Int) + d + M < tl) = false := by simp; omega
  have i1 : (u0 : Int) ≤ 6 := by omega
  have i2 : (u1 : Int) ≤ 6 := by omega
  have i3 : (d : Int) ≤ 1000 := by omega
  have i4 : (tl : Int) ≤ 1000 := by omega
  have i5 : (room : Int) ≤ 1000 := by omega
  have i6 : (kinds : Int) ≤ 256 := by omega
  have i7 : (M : Int) ≤ 10000000 := by omega
  have i8 : (db : Int) ≤ 1000 := by omega
  have Hu : Hid _ := hu
  have Hub : Hid _ := hub
  clear hM ef eb ek htl led hu0 hu hub h1 ld lt lr lkn t1 lM led3
  have fa := (((Fr.refl (fun _ => False) w).alloc (.cells #[.int .i64 u0, .int .i64 b0, .int .i64 f0, .int .i64 k0] 38)).alloc (.cells #[.int .i64 u1, .int .i64 b1, .int .i64 f1, .int .i64 k1] 38))
  unfold gV
  go_enter Try.func20, Try.ntmps20
  go_wp2_with fail
  refine (bounded_any u1 b1 f1 k1 Hu.out Hub.out _).mono ?_
  rintro e w1 ⟨rfl, f1'⟩
  obtain ⟨hA, hB⟩ := held_cells f1'
  have a0 : w1.cell? ⟨w.heap.size, 0, none⟩ = some (.int .i64 (u0 : Nat)) := hA.cell (by omega)
  have a1 : w1.cell? ⟨w.heap.size, 1, none⟩ = some (.int .i64 (b0 : Nat)) := hA.cell (by omega)
  have a2 : w1.cell? ⟨w.heap.size, 2, none⟩ = some (.int .i64 (f0 : Nat)) := hA.cell (by omega)
  have a3 : w1.cell? ⟨w.heap.size, 3, none⟩ = some (.int .i64 (k0 : Nat)) := hA.cell (by omega)
  have c0 : w1.cell? ⟨w.heap.size + 1, 0, none⟩ = some (.int .i64 (u1 : Nat)) := hB.cell (by omega)
  have c1 : w1.cell? ⟨w.heap.size + 1, 1, none⟩ = some (.int .i64 (b1 : Nat)) := hB.cell (by omega)
  have c2 : w1.cell? ⟨w.heap.size + 1, 2, none⟩ = some (.int .i64 (f1 : Nat)) := hB.cell (by omega)
  have c3 : w1.cell? ⟨w.heap.size + 1, 3, none⟩ = some (.int .i64 (k1 : Nat)) := hB.cell (by omega)
  go_wp2_with fail
  go_ret
  exact ⟨rfl, fa.trans f1' (fun _ _ h => h)⟩
set_option maxRecDepth 100000 in
set_option maxHeartbeats 4000000 in
theorem held_tf {u0 b0 f0 k0 u1 b1 f1 k1 room kinds d db tl M : Nat} (h : HeldH u0 b0 f0 k0 u1 b1 f1 k1 room kinds d db tl M true false) (hd : d ≠ 0) (w : World) :
    Calls Try.prog 20 #[gV u0 b0 f0 k0, gV u1 b1 f1 k1, .int .i64 0, .int .i64 room, .int .i64 kinds, .bool true, .bool false] w fun e w' => e = .returned (.bool true) ∧ Fr (fun _ => False) w w' := by
  have lM := h.lM
  obtain ⟨hu0, hu, hub, h1, ef, eb, ek, ld, lt, hr, lr, lkn, led, led2, t1, dt, hM, htl, htw⟩ := h
  replace led := led rfl
  clear led2
  clear htw
  have x1 : (b1 : Int) - b0 = db := by omega
  have x2 : (f1 : Int) - f0 = d := by omega
  have x3 : (k1 : Int) - k0 = tl := by omega
  have x4 : ((d : Int) + 1) * 6 * kinds = M := by rw [hM]; simp
  have x5 : (d : Int) * 6 - u0 + u1 = db := by omega
  have z1 : ((d : Int) == 0) = false := by simp; omega
  have y1 : decide ((b1 : Int) < b0) = false := by simp; omega
  have y2 : decide ((f1 : Int) < f0) = false := by simp; omega
  have y3 : decide ((k1 : Int) < k0) = false := by simp; omega
  have y4 : decide ((room : Int) < db) = false := by simp; omega
  have y5 : decide ((u1 : Int) < 1) = false := by simp; omega
  have y6 : decide ((tl : Int) < 1) = false := by simp; omega
  have y7 : decide ((tl : Int) < db) = false := by simp; omega
  have y8 : decide ((2 : Int) + d + M < tl) = false := by simp; omega
  have i1 : (u0 : Int) ≤ 6 := by omega
  have i2 : (u1 : Int) ≤ 6 := by omega
  have i3 : (d : Int) ≤ 1000 := by omega
  have i4 : (tl : Int) ≤ 1000 := by omega
  have i5 : (room : Int) ≤ 1000 := by omega
  have i6 : (kinds : Int) ≤ 256 := by omega
  have i7 : (M : Int) ≤ 10000000 := by omega
  have i8 : (db : Int) ≤ 1000 := by omega
  have Hu : Hid _ := hu
  have Hub : Hid _ := hub
  clear hM ef eb ek htl led hu0 hu hub h1 ld lt lr lkn t1 lM
  have fa := (((Fr.refl (fun _ => False) w).alloc (.cells #[.int .i64 u0, .int .i64 b0, .int .i64 f0, .int .i64 k0] 38)).alloc (.cells #[.int .i64 u1, .int .i64 b1, .int .i64 f1, .int .i64 k1] 38))
  unfold gV
  go_enter Try.func20, Try.ntmps20
  go_wp2_with fail
  refine (bounded_any u1 b1 f1 k1 Hu.out Hub.out _).mono ?_
  rintro e w1 ⟨rfl, f1'⟩
  obtain ⟨hA, hB⟩ := held_cells f1'
  have a0 : w1.cell? ⟨w.heap.size, 0, none⟩ = some (.int .i64 (u0 : Nat)) := hA.cell (by omega)
  have a1 : w1.cell? ⟨w.heap.size, 1, none⟩ = some (.int .i64 (b0 : Nat)) := hA.cell (by omega)
  have a2 : w1.cell? ⟨w.heap.size, 2, none⟩ = some (.int .i64 (f0 : Nat)) := hA.cell (by omega)
  have a3 : w1.cell? ⟨w.heap.size, 3, none⟩ = some (.int .i64 (k0 : Nat)) := hA.cell (by omega)
  have c0 : w1.cell? ⟨w.heap.size + 1, 0, none⟩ = some (.int .i64 (u1 : Nat)) := hB.cell (by omega)
  have c1 : w1.cell? ⟨w.heap.size + 1, 1, none⟩ = some (.int .i64 (b1 : Nat)) := hB.cell (by omega)
  have c2 : w1.cell? ⟨w.heap.size + 1, 2, none⟩ = some (.int .i64 (f1 : Nat)) := hB.cell (by omega)
  have c3 : w1.cell? ⟨w.heap.size + 1, 3, none⟩ = some (.int .i64 (k1 : Nat)) := hB.cell (by omega)
  go_wp2_with fail
  go_ret
  exact ⟨rfl, fa.trans f1' (fun _ _ h => h)⟩
set_option maxRecDepth 100000 in
set_option maxHeartbeats 4000000 in
theorem held_tt {u0 b0 f0 k0 u1 b1 f1 k1 room kinds d db tl M : Nat} (h : HeldH u0 b0 f0 k0 u1 b1 f1 k1 room kinds d db tl M true true) (hd : d ≠ 0) (w : World) :
    Calls Try.prog 20 #[gV u0 b0 f0 k0, gV u1 b1 f1 k1, .int .i64 0, .int .i64 room, .int .i64 kinds, .bool true, .bool true] w fun e w' => e = .returned (.bool true) ∧ Fr (fun _ => False) w w' := by
  have lM := h.lM
  obtain ⟨hu0, hu, hub, h1, ef, eb, ek, ld, lt, hr, lr, lkn, led, led2, t1, dt, hM, htl, htw⟩ := h
  obtain ⟨led, led3⟩ := led2 rfl
  clear led2
  clear htw
  have x1 : (b1 : Int) - b0 = db := by omega
  have x2 : (f1 : Int) - f0 = d := by omega
  have x3 : (k1 : Int) - k0 = tl := by omega
  have x4 : ((d : Int) + 1) * 6 * kinds = M := by rw [hM]; simp
  have x5 : ((d : Int) - 1) * 6 + u1 = db := by omega
  have y9 : decide ((d : Int) < 1) = false := by simp; omega
  have z1 : ((d : Int) == 0) = false := by simp; omega
  have y1 : decide ((b1 : Int) < b0) = false := by simp; omega
  have y2 : decide ((f1 : Int) < f0) = false := by simp; omega
  have y3 : decide ((k1 : Int) < k0) = false := by simp; omega
  have y4 : decide ((room : Int) < db) = false := by simp; omega
  have y5 : decide ((u1 : Int) < 1) = false := by simp; omega
  have y6 : decide ((tl : Int) < 1) = false := by simp; omega
  have y7 : decide ((tl : Int) < db) = false := by simp; omega
  have y8 : decide ((2 : Int) + d + M < tl) = false := by simp; omega
  have i1 : (u0 : Int) ≤ 6 := by omega
  have i2 : (u1 : Int) ≤ 6 := by omega
  have i3 : (d : Int) ≤ 1000 := by omega
  have i4 : (tl : Int) ≤ 1000 := by omega
  have i5 : (room : Int) ≤ 1000 := by omega
  have i6 : (kinds : Int) ≤ 256 := by omega
  have i7 : (M : Int) ≤ 10000000 := by omega
  have i8 : (db : Int) ≤ 1000 := by omega
  have Hu : Hid _ := hu
  have Hub : Hid _ := hub
  clear hM ef eb ek htl led hu0 hu hub h1 ld lt lr lkn t1 lM led3
  have fa := (((Fr.refl (fun _ => False) w).alloc (.cells #[.int .i64 u0, .int .i64 b0, .int .i64 f0, .int .i64 k0] 38)).alloc (.cells #[.int .i64 u1, .int .i64 b1, .int .i64 f1, .int .i64 k1] 38))
  unfold gV
  go_enter Try.func20, Try.ntmps20
  go_wp2_with fail
  refine (bounded_any u1 b1 f1 k1 Hu.out Hub.out _).mono ?_
  rintro e w1 ⟨rfl, f1'⟩
  obtain ⟨hA, hB⟩ := held_cells f1'
  have a0 : w1.cell? ⟨w.heap.size, 0, none⟩ = some (.int .i64 (u0 : Nat)) := hA.cell (by omega)
  have a1 : w1.cell? ⟨w.heap.size, 1, none⟩ = some (.int .i64 (b0 : Nat)) := hA.cell (by omega)
  have a2 : w1.cell? ⟨w.heap.size, 2, none⟩ = some (.int .i64 (f0 : Nat)) := hA.cell (by omega)
  have a3 : w1.cell? ⟨w.heap.size, 3, none⟩ = some (.int .i64 (k0 : Nat)) := hA.cell (by omega)
  have c0 : w1.cell? ⟨w.heap.size + 1, 0, none⟩ = some (.int .i64 (u1 : Nat)) := hB.cell (by omega)
  have c1 : w1.cell? ⟨w.heap.size + 1, 1, none⟩ = some (.int .i64 (b1 : Nat)) := hB.cell (by omega)
  have c2 : w1.cell? ⟨w.heap.size + 1, 2, none⟩ = some (.int .i64 (f1 : Nat)) := hB.cell (by omega)
  have c3 : w1.cell? ⟨w.heap.size + 1, 3, none⟩ = some (.int .i64 (k1 : Nat)) := hB.cell (by omega)
  go_wp2_with fail
  go_ret
  exact ⟨rfl, fa.trans f1' (fun _ _ h => h)⟩
set_option maxRecDepth 100000 in
set_option maxHeartbeats 4000000 in
theorem held_twin {u b f k0 k1 room kinds tl : Nat} (hu : u ≤ 6) (hub : u ≤ b) (h1 : 1 ≤ u) (ek : k1 = k0 + tl) (lr : room ≤ 1000) (lkn : kinds ≤ 256) (t1 : 1 ≤ tl) (t2 : tl ≤ 2) (w : World) :
    Calls Try.prog 20 #[gV u b f k0, gV u b f k1, .int .i64 0, .int .i64 room, .int .i64 kinds, .bool true, .bool false] w fun e w' => e = .returned (.bool true) ∧ Fr (fun _ => False) w w' := by
  have x3 : (k1 : Int) - k0 = tl := by omega
  have y3 : decide ((k1 : Int) < k0) = false := by simp; omega
  have y4 : decide ((room : Int) < 0) = false := by simp
  have y5 : decide ((u : Int) < 1) = false := by simp; omega
  have y6 : decide ((tl : Int) < 1) = false := by simp; omega
  have y7 : decide ((tl : Int) < 0) = false := by simp
  have y8 : decide ((2 : Int) + 6 * kinds < tl) = false := by simp; omega
  have y9 : decide ((2 : Int) < tl) = false := by simp; omega
  have i1 : (u : Int) ≤ 6 := by omega
  have i4 : (tl : Int) ≤ 2 := by omega
  have i5 : (room : Int) ≤ 1000 := by omega
  have i6 : (kinds : Int) ≤ 256 := by omega
  have Hu : Hid _ := hu
  have Hub : Hid _ := hub
  clear ek hu hub h1 lr lkn t1 t2
  have fa := (((Fr.refl (fun _ => False) w).alloc (.cells #[.int .i64 u, .int .i64 b, .int .i64 f, .int .i64 k0] 38)).alloc (.cells #[.int .i64 u, .int .i64 b, .int .i64 f, .int .i64 k1] 38))
  unfold gV
  go_enter Try.func20, Try.ntmps20
  go_wp2_with fail
  refine (bounded_any u b f k1 Hu.out Hub.out _).mono ?_
  rintro e w1 ⟨rfl, f1'⟩
  obtain ⟨hA, hB⟩ := held_cells f1'
  have a0 : w1.cell? ⟨w.heap.size, 0, none⟩ = some (.int .i64 (u : Nat)) := hA.cell (by omega)
  have a1 : w1.cell? ⟨w.heap.size, 1, none⟩ = some (.int .i64 (b : Nat)) := hA.cell (by omega)
  have a2 : w1.cell? ⟨w.heap.size, 2, none⟩ = some (.int .i64 (f : Nat)) := hA.cell (by omega)
  have a3 : w1.cell? ⟨w.heap.size, 3, none⟩ = some (.int .i64 (k0 : Nat)) := hA.cell (by omega)
  have c0 : w1.cell? ⟨w.heap.size + 1, 0, none⟩ = some (.int .i64 (u : Nat)) := hB.cell (by omega)
  have c1 : w1.cell? ⟨w.heap.size + 1, 1, none⟩ = some (.int .i64 (b : Nat)) := hB.cell (by omega)
  have c2 : w1.cell? ⟨w.heap.size + 1, 2, none⟩ = some (.int .i64 (f : Nat)) := hB.cell (by omega)
  have c3 : w1.cell? ⟨w.heap.size + 1, 3, none⟩ = some (.int .i64 (k1 : Nat)) := hB.cell (by omega)
  go_wp2_with fail
  go_ret
  exact ⟨rfl, fa.trans f1' (fun _ _ h => h)⟩
set_option maxRecDepth 100000 in
set_option maxHeartbeats 4000000 in
theorem held_err {u b f k : Nat} (hu : u ≤ 6) (hub : u ≤ b) (e : Int) (he : e ≠ 0) (room kinds : Int) (tw an : Bool) (w : World) :
    Calls Try.prog 20 #[gV u b f k, gV u b f k, .int .i64 e, .int .i64 room, .int .i64 kinds, .bool tw, .bool an] w fun e w' => e = .returned (.bool true) ∧ Fr (fun _ => False) w w' := by
  have te : (e != 0) = true := by simpa using he
  have fa := (((Fr.refl (fun _ => False) w).alloc (.cells #[.int .i64 u, .int .i64 b, .int .i64 f, .int .i64 k] 38)).alloc (.cells #[.int .i64 u, .int .i64 b, .int .i64 f, .int .i64 k] 38))
  unfold gV
  go_enter Try.func20, Try.ntmps20
  go_wp2_with fail
  refine (bounded_any u b f k hu hub _).mono ?_
  rintro e w1 ⟨rfl, f1'⟩
  obtain ⟨hA, hB⟩ := held_cells f1'
  have a0 : w1.cell? ⟨w.heap.size, 0, none⟩ = some (.int .i64 (u : Nat)) := hA.cell (by omega)
  have a1 : w1.cell? ⟨w.heap.size, 1, none⟩ = some (.int .i64 (b : Nat)) := hA.cell (by omega)
  have a2 : w1.cell? ⟨w.heap.size, 2, none⟩ = some (.int .i64 (f : Nat)) := hA.cell (by omega)
  have a3 : w1.cell? ⟨w.heap.size, 3, none⟩ = some (.int .i64 (k : Nat)) := hA.cell (by omega)
  have c0 : w1.cell? ⟨w.heap.size + 1, 0, none⟩ = some (.int .i64 (u : Nat)) := hB.cell (by omega)
  have c1 : w1.cell? ⟨w.heap.size + 1, 1, none⟩ = some (.int .i64 (b : Nat)) := hB.cell (by omega)
  have c2 : w1.cell? ⟨w.heap.size + 1, 2, none⟩ = some (.int .i64 (f : Nat)) := hB.cell (by omega)
  have c3 : w1.cell? ⟨w.heap.size + 1, 3, none⟩ = some (.int .i64 (k : Nat)) := hB.cell (by omega)
  go_wp2_with fail
  go_ret
  exact ⟨rfl, fa.trans f1' (fun _ _ h => h)⟩
/-- Held, over a call that was not refused. -/
theorem held_ok {u0 b0 f0 k0 u1 b1 f1 k1 room kinds d db tl M : Nat} {tw an : Bool} (h : HeldH u0 b0 f0 k0 u1 b1 f1 k1 room kinds d db tl M tw an) (w : World) :
    Calls Try.prog 20 #[gV u0 b0 f0 k0, gV u1 b1 f1 k1, .int .i64 0, .int .i64 room, .int .i64 kinds, .bool tw, .bool an] w fun e w' => e = .returned (.bool true) ∧ Fr (fun _ => False) w w' := by
  by_cases hd : d = 0
  · subst hd
    cases an
    · cases tw
      · exact held_ff h w
      · obtain ⟨e1, e2⟩ := h.htw rfl rfl
        have e3 := h.led rfl
        have e4 := h.ef; have e5 := h.eb
        obtain rfl : f1 = f0 := by omega
        obtain rfl : b1 = b0 := by omega
        obtain rfl : u1 = u0 := by omega
        exact held_twin h.hu h.hub h.h1 h.ek h.lr h.lkn h.t1 e2 w
    · exact absurd (h.led2 rfl).1 (by omega)
  · cases an <;> cases tw
    · exact held_ff h w
    · exact held_tf h hd w
    · exact held_ft h w
    · exact held_tt h hd w
end Go.Proofs.Qxb6500282a
