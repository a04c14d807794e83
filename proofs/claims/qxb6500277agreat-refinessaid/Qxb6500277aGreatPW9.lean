/- The real parser: primary: leaves. -/
import Derived.Test.Qxb6500277aGreatPW6
namespace Go.Proofs.Qxb6500277aGreat
open Go Go.RowKit

section
variable {w w' : World} {A : Pa} {T : List Tok} {i j : Nat} {ns ms : List Nd} {fl : Bool} {er q : Int} {S : Nat → Prop}
/-- A token's box. -/
def boxT (t : Tok) : Obj := .cells #[.int .i64 t.kind, .int .i64 t.pos, .int .i64 t.val, .string t.text] 182
theorem boxT_blk (w : World) (t : Tok) : Blk (w.alloc (boxT t)) w.heap.size 4 (tokCell t) := Blk.new w _ _ _ fun o ho => by
  obtain rfl | rfl | rfl | rfl : o = 0 ∨ o = 1 ∨ o = 2 ∨ o = 3 := by have : o < 4 := ho; omega
  all_goals rfl
theorem tokX {b : Nat} (X : Blk w b 4 (tokCell (tk T i))) : w.cell? ⟨b, 0, none⟩ = some (.int .i64 (kd T i)) ∧ w.cell? ⟨b, 1, none⟩ = some (.int .i64 (ps T i)) ∧ w.cell? ⟨b, 2, none⟩ = some (.int .i64 (tk T i).val) ∧ w.cell? ⟨b, 3, none⟩ = some (.string (tk T i).text) ∧ b < w.heap.size :=
  ⟨X.cell (by omega), X.cell (by omega), X.cell (by omega), X.cell (by omega), X.lt⟩
set_option maxRecDepth 100000 in
set_option maxHeartbeats 8000000 in
theorem prim2 {n : Nat} (_H : LvC T n) (P : PM w A T i ns false 0 0) (hi : T.length ≤ i + n + 1) (d : Nat) (hd : d ≤ 8) {l : Int} (hl : l = 8 - (d : Int)) (k0 : kd T i = 2) :
    Calls Tryz.prog 245 #[.pointer (some ⟨A.p, 0, none⟩), .int .i64 l] w (PPost w A T i ns (.prim d)) := by
  have Hl : Hid _ := hl
  have Hi : Hid _ := hi
  have l1 : -1 < l := by omega
  have l2 : l < 9 := by omega
  clear hl hi
  have F0 : Fr (PS A) w w := Fr.refl _ _
  obtain ⟨r1, r2, r3, r4, r5⟩ := P.r15
  obtain ⟨b1, b2, b3⟩ := P.blt
  obtain ⟨q0, q1, q2, q3⟩ := P.cellK
  obtain ⟨i1, i2⟩ := P.ib
  have hlt : decide ((i : Int) < (T.length : Nat)) = true := decide_eq_true (by have := P.lt; omega)
  have hl0 := P.lt
  have C0 : Hid _ := Im.of_eq (T := T) (M := body T (.prim d) i ns) (if_pos k0)
  have Hs : Hid _ := P.nxt (by omega)
  have z2 : (kd T i == 2) = true := by simp [k0]
  clear k0
  go_enter Tryz.func245, Tryz.ntmps245
  go_wp2_with fail
  refine wp_region_text (by kernel_rfl) (by kernel_rfl) ?_
  go_wp2_with fail
  refine ⟨by kernel_rfl, ?_⟩
  generalize hw0 : World.drew _ = w0
  have f0 : Fr (fun _ => False) w w0 := by rw [← hw0]; exact ((Fr.refl _ _).alloc _).drew
  have X0 : Blk w0 w.heap.size 4 (tokCell (tk T i)) := by rw [← hw0]; exact (boxT_blk w (tk T i)).drew
  have P0 := P.same f0
  have G0 := f0.mono (S' := PS A) (fun _ _ h => h.elim)
  have tne : w.heap.size ≠ A.p ∧ w.heap.size ≠ A.tb ∧ w.heap.size ≠ A.ab := by have := P.blt; omega
  clear hw0
  clear r1 r2 r3 r4 r5 b1 b2 b3 q0 q1 q2 q3 i1 i2 hlt hl0
  obtain ⟨r1, r2, r3, r4, r5⟩ := P0.r15
  obtain ⟨b1, b2, b3⟩ := P0.blt
  obtain ⟨t0, t1, t2, t3, t4⟩ := tokX X0
  go_wp2_with fail
  refine (stepFp P0).mono ?_
  rintro v w1 ⟨rfl, P1, f1⟩
  have X1 := X0.frame f1 (by unfold PS; omega)
  have F1 := G0.trans f1 (fun _ _ h => h)
  clear r1 r2 r3 r4 r5 b1 b2 b3 t0 t1 t2 t3 t4
  obtain ⟨r1, r2, r3, r4, r5⟩ := P1.r15
  obtain ⟨b1, b2, b3⟩ := P1.blt
  obtain ⟨t0, t1, t2, t3, t4⟩ := tokX X1
  go_wp2_with fail
  refine (freshF 10 (ps T i) _).mono ?_
  rintro v w2 ⟨rfl, f2⟩
  have P2 := P1.same f2
  have F2 := F1.trans f2 (fun _ _ h => h.elim)
  unfold ndV fre
  have X2 := X1.frame f2 (fun h => h)
  clear r1 r2 r3 r4 r5 b1 b2 b3 t0 t1 t2 t3 t4
  obtain ⟨r1, r2, r3, r4, r5⟩ := P2.r15
  obtain ⟨b1, b2, b3⟩ := P2.blt
  obtain ⟨t0, t1, t2, t3, t4⟩ := tokX X2
  go_wp2_with fail
  have B2 := BM.new P2 (⟨10, -1, -1, -1, -1, (tk T i).val, ps T i, ⟨#[]⟩⟩)
  have G2 := F2.alloc (boxN (⟨10, -1, -1, -1, -1, (tk T i).val, ps T i, ⟨#[]⟩⟩))
  have Hn2 : w.heap.size ≤ w2.heap.size := F2.size
  refine (addC B2.P (⟨10, -1, -1, -1, -1, (tk T i).val, ps T i, ⟨#[]⟩⟩) ⟨by simp, P.psn, by simp; omega, by simp; omega, by simp; omega, .inl rfl⟩ C0.out).mono ?_
  rintro v w3 ⟨f3, ⟨n3, hn3, rfl, P3, hb3, c3⟩ | ⟨rfl, D3⟩⟩
  · have C3 : Hid _ := c3
    have Hn_3 : Hid _ := hn3
    clear c3 hn3
    have B3 := B2.go f3 P3
    have F3 := G2.trans f3 (fun _ _ h => h)
    clear r1 r2 r3 r4 r5 b1 b2 b3 t0 t1 t2 t3 t4
    obtain ⟨r1, r2, r3, r4, r5⟩ := B3.P.r15
    obtain ⟨b1, b2, b3⟩ := B3.P.blt
    obtain ⟨x0, x1, x2, x3, x4, x5, x6, x7, xz, xl, xn1, xn2, xn3⟩ := B3.fx
    go_wp2_with fail
    go_ret
    exact .done F3 B3.P C3.out (by have := Hs.out; omega) (by have := Hn_3.out; simp; omega) (by have := Hn_3.out; omega)
  · obtain ⟨er3, q3, jd3, md3, h03, P3, hE3⟩ := D3
    have HE3 : Hid _ := hE3
    clear hE3
    have B3 := B2.go f3 P3
    have F3 := G2.trans f3 (fun _ _ h => h)
    clear r1 r2 r3 r4 r5 b1 b2 b3 t0 t1 t2 t3 t4
    obtain ⟨r1, r2, r3, r4, r5⟩ := B3.P.r15
    obtain ⟨b1, b2, b3⟩ := B3.P.blt
    obtain ⟨x0, x1, x2, x3, x4, x5, x6, x7, xz, xl, xn1, xn2, xn3⟩ := B3.fx
    go_wp2_with fail
    go_ret
    exact .dead F3 ⟨_, _, _, _, h03, B3.P, HE3.out⟩
set_option maxRecDepth 100000 in
set_option maxHeartbeats 8000000 in
theorem prim10 {n : Nat} (_H : LvC T n) (P : PM w A T i ns false 0 0) (hi : T.length ≤ i + n + 1) (d : Nat) (hd : d ≤ 8) {l : Int} (hl : l = 8 - (d : Int)) (k0 : kd T i = 10) :
    Calls Tryz.prog 245 #[.pointer (some ⟨A.p, 0, none⟩), .int .i64 l] w (PPost w A T i ns (.prim d)) := by
  have Hl : Hid _ := hl
  have Hi : Hid _ := hi
  have l1 : -1 < l := by omega
  have l2 : l < 9 := by omega
  clear hl hi
  have F0 : Fr (PS A) w w := Fr.refl _ _
  obtain ⟨r1, r2, r3, r4, r5⟩ := P.r15
  obtain ⟨b1, b2, b3⟩ := P.blt
  obtain ⟨q0, q1, q2, q3⟩ := P.cellK
  obtain ⟨i1, i2⟩ := P.ib
  have hlt : decide ((i : Int) < (T.length : Nat)) = true := decide_eq_true (by have := P.lt; omega)
  have hl0 := P.lt
  have C0 : Hid _ := Im.of_eq (T := T) (M := body T (.prim d) i ns) ((if_neg (by omega)).trans (if_pos k0))
  have Hs : Hid _ := P.nxt (by omega)
  have z2 : (kd T i == 2) = false := by simp [k0]
  have z10 : (kd T i == 10) = true := by simp [k0]
  clear k0
  go_enter Tryz.func245, Tryz.ntmps245
  go_wp2_with fail
  refine wp_region_text (by kernel_rfl) (by kernel_rfl) ?_
  go_wp2_with fail
  refine ⟨by kernel_rfl, ?_⟩
  generalize hw0 : World.drew _ = w0
  have f0 : Fr (fun _ => False) w w0 := by rw [← hw0]; exact ((Fr.refl _ _).alloc _).drew
  have X0 : Blk w0 w.heap.size 4 (tokCell (tk T i)) := by rw [← hw0]; exact (boxT_blk w (tk T i)).drew
  have P0 := P.same f0
  have G0 := f0.mono (S' := PS A) (fun _ _ h => h.elim)
  have tne : w.heap.size ≠ A.p ∧ w.heap.size ≠ A.tb ∧ w.heap.size ≠ A.ab := by have := P.blt; omega
  clear hw0
  clear r1 r2 r3 r4 r5 b1 b2 b3 q0 q1 q2 q3 i1 i2 hlt hl0
  obtain ⟨r1, r2, r3, r4, r5⟩ := P0.r15
  obtain ⟨b1, b2, b3⟩ := P0.blt
  obtain ⟨t0, t1, t2, t3, t4⟩ := tokX X0
  go_wp2_with fail
  refine (stepFp P0).mono ?_
  rintro v w4 ⟨rfl, P4, f4⟩
  have X4 := X0.frame f4 (by unfold PS; omega)
  have F4 := G0.trans f4 (fun _ _ h => h)
  clear r1 r2 r3 r4 r5 b1 b2 b3 t0 t1 t2 t3 t4
  obtain ⟨r1, r2, r3, r4, r5⟩ := P4.r15
  obtain ⟨b1, b2, b3⟩ := P4.blt
  obtain ⟨t0, t1, t2, t3, t4⟩ := tokX X4
  go_wp2_with fail
  refine (freshF 11 (ps T i) _).mono ?_
  rintro v w5 ⟨rfl, f5⟩
  have P5 := P4.same f5
  have F5 := F4.trans f5 (fun _ _ h => h.elim)
  unfold ndV fre
  have X5 := X4.frame f5 (fun h => h)
  clear r1 r2 r3 r4 r5 b1 b2 b3 t0 t1 t2 t3 t4
  obtain ⟨r1, r2, r3, r4, r5⟩ := P5.r15
  obtain ⟨b1, b2, b3⟩ := P5.blt
  obtain ⟨t0, t1, t2, t3, t4⟩ := tokX X5
  go_wp2_with fail
  have B5 := BM.new P5 (⟨11, -1, -1, -1, -1, 1, ps T i, ⟨#[]⟩⟩)
  have G5 := F5.alloc (boxN (⟨11, -1, -1, -1, -1, 1, ps T i, ⟨#[]⟩⟩))
  have Hn5 : w.heap.size ≤ w5.heap.size := F5.size
  refine (addC B5.P (⟨11, -1, -1, -1, -1, 1, ps T i, ⟨#[]⟩⟩) ⟨by simp, P.psn, by simp; omega, by simp; omega, by simp; omega, .inl rfl⟩ C0.out).mono ?_
  rintro v w6 ⟨f6, ⟨n6, hn6, rfl, P6, hb6, c6⟩ | ⟨rfl, D6⟩⟩
  · have C6 : Hid _ := c6
    have Hn_6 : Hid _ := hn6
    clear c6 hn6
    have B6 := B5.go f6 P6
    have F6 := G5.trans f6 (fun _ _ h => h)
    clear r1 r2 r3 r4 r5 b1 b2 b3 t0 t1 t2 t3 t4
    obtain ⟨r1, r2, r3, r4, r5⟩ := B6.P.r15
    obtain ⟨b1, b2, b3⟩ := B6.P.blt
    obtain ⟨x0, x1, x2, x3, x4, x5, x6, x7, xz, xl, xn1, xn2, xn3⟩ := B6.fx
    go_wp2_with fail
    go_ret
    exact .done F6 B6.P C6.out (by have := Hs.out; omega) (by have := Hn_6.out; simp; omega) (by have := Hn_6.out; omega)
  · obtain ⟨er6, q6, jd6, md6, h06, P6, hE6⟩ := D6
    have HE6 : Hid _ := hE6
    clear hE6
    have B6 := B5.go f6 P6
    have F6 := G5.trans f6 (fun _ _ h => h)
    clear r1 r2 r3 r4 r5 b1 b2 b3 t0 t1 t2 t3 t4
    obtain ⟨r1, r2, r3, r4, r5⟩ := B6.P.r15
    obtain ⟨b1, b2, b3⟩ := B6.P.blt
    obtain ⟨x0, x1, x2, x3, x4, x5, x6, x7, xz, xl, xn1, xn2, xn3⟩ := B6.fx
    go_wp2_with fail
    go_ret
    exact .dead F6 ⟨_, _, _, _, h06, B6.P, HE6.out⟩
set_option maxRecDepth 100000 in
set_option maxHeartbeats 8000000 in
theorem prim11 {n : Nat} (_H : LvC T n) (P : PM w A T i ns false 0 0) (hi : T.length ≤ i + n + 1) (d : Nat) (hd : d ≤ 8) {l : Int} (hl : l = 8 - (d : Int)) (k0 : kd T i = 11) :
    Calls Tryz.prog 245 #[.pointer (some ⟨A.p, 0, none⟩), .int .i64 l] w (PPost w A T i ns (.prim d)) := by
  have Hl : Hid _ := hl
  have Hi : Hid _ := hi
  have l1 : -1 < l := by omega
  have l2 : l < 9 := by omega
  clear hl hi
  have F0 : Fr (PS A) w w := Fr.refl _ _
  obtain ⟨r1, r2, r3, r4, r5⟩ := P.r15
  obtain ⟨b1, b2, b3⟩ := P.blt
  obtain ⟨q0, q1, q2, q3⟩ := P.cellK
  obtain ⟨i1, i2⟩ := P.ib
  have hlt : decide ((i : Int) < (T.length : Nat)) = true := decide_eq_true (by have := P.lt; omega)
  have hl0 := P.lt
  have C0 : Hid _ := Im.of_eq (T := T) (M := body T (.prim d) i ns) ((if_neg (by omega)).trans ((if_neg (by omega)).trans (if_pos k0)))
  have Hs : Hid _ := P.nxt (by omega)
  have z2 : (kd T i == 2) = false := by simp [k0]
  have z10 : (kd T i == 10) = false := by simp [k0]
  have z11 : (kd T i == 11) = true := by simp [k0]
  clear k0
  go_enter Tryz.func245, Tryz.ntmps245
  go_wp2_with fail
  refine wp_region_text (by kernel_rfl) (by kernel_rfl) ?_
  go_wp2_with fail
  refine ⟨by kernel_rfl, ?_⟩
  generalize hw0 : World.drew _ = w0
  have f0 : Fr (fun _ => False) w w0 := by rw [← hw0]; exact ((Fr.refl _ _).alloc _).drew
  have X0 : Blk w0 w.heap.size 4 (tokCell (tk T i)) := by rw [← hw0]; exact (boxT_blk w (tk T i)).drew
  have P0 := P.same f0
  have G0 := f0.mono (S' := PS A) (fun _ _ h => h.elim)
  have tne : w.heap.size ≠ A.p ∧ w.heap.size ≠ A.tb ∧ w.heap.size ≠ A.ab := by have := P.blt; omega
  clear hw0
  clear r1 r2 r3 r4 r5 b1 b2 b3 q0 q1 q2 q3 i1 i2 hlt hl0
  obtain ⟨r1, r2, r3, r4, r5⟩ := P0.r15
  obtain ⟨b1, b2, b3⟩ := P0.blt
  obtain ⟨t0, t1, t2, t3, t4⟩ := tokX X0
  go_wp2_with fail
  refine (stepFp P0).mono ?_
  rintro v w7 ⟨rfl, P7, f7⟩
  have X7 := X0.frame f7 (by unfold PS; omega)
  have F7 := G0.trans f7 (fun _ _ h => h)
  clear r1 r2 r3 r4 r5 b1 b2 b3 t0 t1 t2 t3 t4
  obtain ⟨r1, r2, r3, r4, r5⟩ := P7.r15
  obtain ⟨b1, b2, b3⟩ := P7.blt
  obtain ⟨t0, t1, t2, t3, t4⟩ := tokX X7
  go_wp2_with fail
  refine (freshF 11 (ps T i) _).mono ?_
  rintro v w8 ⟨rfl, f8⟩
  have P8 := P7.same f8
  have F8 := F7.trans f8 (fun _ _ h => h.elim)
  unfold ndV fre
  have X8 := X7.frame f8 (fun h => h)
  clear r1 r2 r3 r4 r5 b1 b2 b3 t0 t1 t2 t3 t4
  obtain ⟨r1, r2, r3, r4, r5⟩ := P8.r15
  obtain ⟨b1, b2, b3⟩ := P8.blt
  obtain ⟨t0, t1, t2, t3, t4⟩ := tokX X8
  go_wp2_with fail
  have B8 := BM.new P8 (⟨11, -1, -1, -1, -1, 0, ps T i, ⟨#[]⟩⟩)
  have G8 := F8.alloc (boxN (⟨11, -1, -1, -1, -1, 0, ps T i, ⟨#[]⟩⟩))
  have Hn8 : w.heap.size ≤ w8.heap.size := F8.size
  refine (addC B8.P (⟨11, -1, -1, -1, -1, 0, ps T i, ⟨#[]⟩⟩) ⟨by simp, P.psn, by simp; omega, by simp; omega, by simp; omega, .inl rfl⟩ C0.out).mono ?_
  rintro v w9 ⟨f9, ⟨n9, hn9, rfl, P9, hb9, c9⟩ | ⟨rfl, D9⟩⟩
  · have C9 : Hid _ := c9
    have Hn_9 : Hid _ := hn9
    clear c9 hn9
    have B9 := B8.go f9 P9
    have F9 := G8.trans f9 (fun _ _ h => h)
    clear r1 r2 r3 r4 r5 b1 b2 b3 t0 t1 t2 t3 t4
    obtain ⟨r1, r2, r3, r4, r5⟩ := B9.P.r15
    obtain ⟨b1, b2, b3⟩ := B9.P.blt
    obtain ⟨x0, x1, x2, x3, x4, x5, x6, x7, xz, xl, xn1, xn2, xn3⟩ := B9.fx
    go_wp2_with fail
    go_ret
    exact .done F9 B9.P C9.out (by have := Hs.out; omega) (by have := Hn_9.out; simp; omega) (by have := Hn_9.out; omega)
  · obtain ⟨er9, q9, jd9, md9, h09, P9, hE9⟩ := D9
    have HE9 : Hid _ := hE9
    clear hE9
    have B9 := B8.go f9 P9
    have F9 := G8.trans f9 (fun _ _ h => h)
    clear r1 r2 r3 r4 r5 b1 b2 b3 t0 t1 t2 t3 t4
    obtain ⟨r1, r2, r3, r4, r5⟩ := B9.P.r15
    obtain ⟨b1, b2, b3⟩ := B9.P.blt
    obtain ⟨x0, x1, x2, x3, x4, x5, x6, x7, xz, xl, xn1, xn2, xn3⟩ := B9.fx
    go_wp2_with fail
    go_ret
    exact .dead F9 ⟨_, _, _, _, h09, B9.P, HE9.out⟩
set_option maxRecDepth 100000 in
set_option maxHeartbeats 8000000 in
theorem prim17 {n : Nat} (H : LvC T n) (P : PM w A T i ns false 0 0) (hi : T.length ≤ i + n + 1) (d : Nat) (hd : d ≤ 8) {l : Int} (hl : l = 8 - (d : Int)) (k0 : kd T i = 17) :
    Calls Tryz.prog 245 #[.pointer (some ⟨A.p, 0, none⟩), .int .i64 l] w (PPost w A T i ns (.prim d)) := by
  have Hl : Hid _ := hl
  have Hi : Hid _ := hi
  have l1 : -1 < l := by omega
  have l2 : l < 9 := by omega
  clear hl hi
  have F0 : Fr (PS A) w w := Fr.refl _ _
  obtain ⟨r1, r2, r3, r4, r5⟩ := P.r15
  obtain ⟨b1, b2, b3⟩ := P.blt
  obtain ⟨q0, q1, q2, q3⟩ := P.cellK
  obtain ⟨i1, i2⟩ := P.ib
  have hlt : decide ((i : Int) < (T.length : Nat)) = true := decide_eq_true (by have := P.lt; omega)
  have hl0 := P.lt
  have C0 : Hid _ := Im.of_eq (T := T) (M := body T (.prim d) i ns) ((if_neg (by omega)).trans ((if_neg (by omega)).trans ((if_neg (by omega)).trans (if_pos k0))))
  have Hs : Hid _ := P.nxt (by omega)
  have z2 : (kd T i == 2) = false := by simp [k0]
  have z10 : (kd T i == 10) = false := by simp [k0]
  have z11 : (kd T i == 11) = false := by simp [k0]
  have z17 : (kd T i == 17) = true := by simp [k0]
  clear k0
  go_enter Tryz.func245, Tryz.ntmps245
  go_wp2_with fail
  refine wp_region_text (by kernel_rfl) (by kernel_rfl) ?_
  go_wp2_with fail
  refine ⟨by kernel_rfl, ?_⟩
  generalize hw0 : World.drew _ = w0
  have f0 : Fr (fun _ => False) w w0 := by rw [← hw0]; exact ((Fr.refl _ _).alloc _).drew
  have X0 : Blk w0 w.heap.size 4 (tokCell (tk T i)) := by rw [← hw0]; exact (boxT_blk w (tk T i)).drew
  have P0 := P.same f0
  have G0 := f0.mono (S' := PS A) (fun _ _ h => h.elim)
  have tne : w.heap.size ≠ A.p ∧ w.heap.size ≠ A.tb ∧ w.heap.size ≠ A.ab := by have := P.blt; omega
  clear hw0
  clear r1 r2 r3 r4 r5 b1 b2 b3 q0 q1 q2 q3 i1 i2 hlt hl0
  obtain ⟨r1, r2, r3, r4, r5⟩ := P0.r15
  obtain ⟨b1, b2, b3⟩ := P0.blt
  obtain ⟨t0, t1, t2, t3, t4⟩ := tokX X0
  go_wp2_with fail
  refine ((bracketF H P0 Hi.out d hd Hl.out).mono fun _ _ h => h.use C0.out).mono ?_
  rintro v w10 ⟨f10, ⟨x10_, j10, m10, rfl, P10, hj10, hx10, hn10, c10⟩ | ⟨rfl, D10⟩⟩
  · have C10 : Hid _ := c10
    have Hx10 : Hid _ := hx10
    have xb10 : x10_ < 200 := by have := P10.le; omega
    have xc10 : -1 < x10_ := by omega
    clear c10 hx10
    have X10 := X0.frame f10 (by unfold PS; omega)
    have F10 := G0.trans f10 (fun _ _ h => h)
    clear r1 r2 r3 r4 r5 b1 b2 b3 t0 t1 t2 t3 t4
    obtain ⟨r1, r2, r3, r4, r5⟩ := P10.r15
    obtain ⟨b1, b2, b3⟩ := P10.blt
    obtain ⟨t0, t1, t2, t3, t4⟩ := tokX X10
    go_wp2_with fail
    go_ret
    exact .done F10 P10 C10.out hj10 Hx10.out hn10
  · obtain ⟨er10, q10, jd10, md10, h010, P10, hE10⟩ := D10
    have HE10 : Hid _ := hE10
    clear hE10
    have X10 := X0.frame f10 (by unfold PS; omega)
    have F10 := G0.trans f10 (fun _ _ h => h)
    clear r1 r2 r3 r4 r5 b1 b2 b3 t0 t1 t2 t3 t4
    obtain ⟨r1, r2, r3, r4, r5⟩ := P10.r15
    obtain ⟨b1, b2, b3⟩ := P10.blt
    obtain ⟨t0, t1, t2, t3, t4⟩ := tokX X10
    go_wp2_with fail
    go_ret
    exact .dead F10 ⟨_, _, _, _, h010, P10, HE10.out⟩
set_option maxRecDepth 100000 in
set_option maxHeartbeats 8000000 in
theorem prim14 {n : Nat} (_H : LvC T n) (P : PM w A T i ns false 0 0) (hi : T.length ≤ i + n + 1) (d : Nat) (hd : d ≤ 8) {l : Int} (hl : l = 8 - (d : Int)) (k0 : kd T i = 14) :
    Calls Tryz.prog 245 #[.pointer (some ⟨A.p, 0, none⟩), .int .i64 l] w (PPost w A T i ns (.prim d)) := by
  have Hl : Hid _ := hl
  have Hi : Hid _ := hi
  have l1 : -1 < l := by omega
  have l2 : l < 9 := by omega
  clear hl hi
  have F0 : Fr (PS A) w w := Fr.refl _ _
  obtain ⟨r1, r2, r3, r4, r5⟩ := P.r15
  obtain ⟨b1, b2, b3⟩ := P.blt
  obtain ⟨q0, q1, q2, q3⟩ := P.cellK
  obtain ⟨i1, i2⟩ := P.ib
  have hlt : decide ((i : Int) < (T.length : Nat)) = true := decide_eq_true (by have := P.lt; omega)
  have hl0 := P.lt
  have C0 : Hid _ := Im.of_eq (T := T) (M := body T (.prim d) i ns) ((if_neg (by omega)).trans ((if_neg (by omega)).trans ((if_neg (by omega)).trans ((if_neg (by omega)).trans ((if_neg (by omega)).trans ((if_neg (by omega)).trans (if_pos k0)))))))
  have Hs : Hid _ := P.nxt (by omega)
  have z2 : (kd T i == 2) = false := by simp [k0]
  have z10 : (kd T i == 10) = false := by simp [k0]
  have z11 : (kd T i == 11) = false := by simp [k0]
  have z17 : (kd T i == 17) = false := by simp [k0]
  have z12 : (kd T i == 12) = false := by simp [k0]
  have z13 : (kd T i == 13) = false := by simp [k0]
  have z14 : (kd T i == 14) = true := by simp [k0]
  clear k0
  go_enter Tryz.func245, Tryz.ntmps245
  go_wp2_with fail
  refine wp_region_text (by kernel_rfl) (by kernel_rfl) ?_
  go_wp2_with fail
  refine ⟨by kernel_rfl, ?_⟩
  generalize hw0 : World.drew _ = w0
  have f0 : Fr (fun _ => False) w w0 := by rw [← hw0]; exact ((Fr.refl _ _).alloc _).drew
  have X0 : Blk w0 w.heap.size 4 (tokCell (tk T i)) := by rw [← hw0]; exact (boxT_blk w (tk T i)).drew
  have P0 := P.same f0
  have G0 := f0.mono (S' := PS A) (fun _ _ h => h.elim)
  have tne : w.heap.size ≠ A.p ∧ w.heap.size ≠ A.tb ∧ w.heap.size ≠ A.ab := by have := P.blt; omega
  clear hw0
  clear r1 r2 r3 r4 r5 b1 b2 b3 q0 q1 q2 q3 i1 i2 hlt hl0
  obtain ⟨r1, r2, r3, r4, r5⟩ := P0.r15
  obtain ⟨b1, b2, b3⟩ := P0.blt
  obtain ⟨t0, t1, t2, t3, t4⟩ := tokX X0
  go_wp2_with fail
  refine (stepFp P0).mono ?_
  rintro v w11 ⟨rfl, P11, f11⟩
  have X11 := X0.frame f11 (by unfold PS; omega)
  have F11 := G0.trans f11 (fun _ _ h => h)
  clear r1 r2 r3 r4 r5 b1 b2 b3 t0 t1 t2 t3 t4
  obtain ⟨r1, r2, r3, r4, r5⟩ := P11.r15
  obtain ⟨b1, b2, b3⟩ := P11.blt
  obtain ⟨t0, t1, t2, t3, t4⟩ := tokX X11
  go_wp2_with fail
  refine (takeC P11 17 (by decide) C0.out).mono ?_
  rintro v w12 ⟨f12, ⟨k12, rfl, P12, hs12, c12⟩ | ⟨rfl, D12⟩⟩
  · have C12 : Hid _ := c12
    have Hk12 : Hid _ := k12
    clear c12 k12
    have X12 := X11.frame f12 (by unfold PS; omega)
    have F12 := F11.trans f12 (fun _ _ h => h)
    clear r1 r2 r3 r4 r5 b1 b2 b3 t0 t1 t2 t3 t4
    obtain ⟨r1, r2, r3, r4, r5⟩ := P12.r15
    obtain ⟨b1, b2, b3⟩ := P12.blt
    obtain ⟨t0, t1, t2, t3, t4⟩ := tokX X12
    go_wp2_with fail
    refine (takeC P12 18 (by decide) C12.out).mono ?_
    rintro v w13 ⟨f13, ⟨k13, rfl, P13, hs13, c13⟩ | ⟨rfl, D13⟩⟩
    · have C13 : Hid _ := c13
      have Hk13 : Hid _ := k13
      clear c13 k13
      have X13 := X12.frame f13 (by unfold PS; omega)
      have F13 := F12.trans f13 (fun _ _ h => h)
      clear r1 r2 r3 r4 r5 b1 b2 b3 t0 t1 t2 t3 t4
      obtain ⟨r1, r2, r3, r4, r5⟩ := P13.r15
      obtain ⟨b1, b2, b3⟩ := P13.blt
      obtain ⟨t0, t1, t2, t3, t4⟩ := tokX X13
      go_wp2_with fail
      refine (freshF 17 (ps T i) _).mono ?_
      rintro v w14 ⟨rfl, f14⟩
      have P14 := P13.same f14
      have F14 := F13.trans f14 (fun _ _ h => h.elim)
      unfold ndV fre
      have X14 := X13.frame f14 (fun h => h)
      clear r1 r2 r3 r4 r5 b1 b2 b3 t0 t1 t2 t3 t4
      obtain ⟨r1, r2, r3, r4, r5⟩ := P14.r15
      obtain ⟨b1, b2, b3⟩ := P14.blt
      obtain ⟨t0, t1, t2, t3, t4⟩ := tokX X14
      go_wp2_with fail
      have B14 := BM.new P14 (⟨17, -1, -1, -1, -1, 0, ps T i, ⟨#[]⟩⟩)
      have G14 := F14.alloc (boxN (⟨17, -1, -1, -1, -1, 0, ps T i, ⟨#[]⟩⟩))
      have Hn14 : w.heap.size ≤ w14.heap.size := F14.size
      refine (addC B14.P (⟨17, -1, -1, -1, -1, 0, ps T i, ⟨#[]⟩⟩) ⟨by simp, P.psn, by simp; omega, by simp; omega, by simp; omega, .inl rfl⟩ C13.out).mono ?_
      rintro v w15 ⟨f15, ⟨n15, hn15, rfl, P15, hb15, c15⟩ | ⟨rfl, D15⟩⟩
      · have C15 : Hid _ := c15
        have Hn_15 : Hid _ := hn15
        clear c15 hn15
        have B15 := B14.go f15 P15
        have F15 := G14.trans f15 (fun _ _ h => h)
        clear r1 r2 r3 r4 r5 b1 b2 b3 t0 t1 t2 t3 t4
        obtain ⟨r1, r2, r3, r4, r5⟩ := B15.P.r15
        obtain ⟨b1, b2, b3⟩ := B15.P.blt
        obtain ⟨x0, x1, x2, x3, x4, x5, x6, x7, xz, xl, xn1, xn2, xn3⟩ := B15.fx
        go_wp2_with fail
        go_ret
        exact .done F15 B15.P C15.out (by have := Hs.out; omega) (by have := Hn_15.out; simp; omega) (by have := Hn_15.out; omega)
      · obtain ⟨er15, q15, jd15, md15, h015, P15, hE15⟩ := D15
        have HE15 : Hid _ := hE15
        clear hE15
        have B15 := B14.go f15 P15
        have F15 := G14.trans f15 (fun _ _ h => h)
        clear r1 r2 r3 r4 r5 b1 b2 b3 t0 t1 t2 t3 t4
        obtain ⟨r1, r2, r3, r4, r5⟩ := B15.P.r15
        obtain ⟨b1, b2, b3⟩ := B15.P.blt
        obtain ⟨x0, x1, x2, x3, x4, x5, x6, x7, xz, xl, xn1, xn2, xn3⟩ := B15.fx
        go_wp2_with fail
        go_ret
        exact .dead F15 ⟨_, _, _, _, h015, B15.P, HE15.out⟩
    · obtain ⟨er13, q13, jd13, md13, h013, P13, hE13⟩ := D13
      have HE13 : Hid _ := hE13
      clear hE13
      have X13 := X12.frame f13 (by unfold PS; omega)
      have F13 := F12.trans f13 (fun _ _ h => h)
      clear r1 r2 r3 r4 r5 b1 b2 b3 t0 t1 t2 t3 t4
      obtain ⟨r1, r2, r3, r4, r5⟩ := P13.r15
      obtain ⟨b1, b2, b3⟩ := P13.blt
      obtain ⟨t0, t1, t2, t3, t4⟩ := tokX X13
      go_wp2_with fail
      go_ret
      exact .dead F13 ⟨_, _, _, _, h013, P13, HE13.out⟩
  · obtain ⟨er12, q12, jd12, md12, h012, P12, hE12⟩ := D12
    have HE12 : Hid _ := hE12
    clear hE12
    have X12 := X11.frame f12 (by unfold PS; omega)
    have F12 := F11.trans f12 (fun _ _ h => h)
    clear r1 r2 r3 r4 r5 b1 b2 b3 t0 t1 t2 t3 t4
    obtain ⟨r1, r2, r3, r4, r5⟩ := P12.r15
    obtain ⟨b1, b2, b3⟩ := P12.blt
    obtain ⟨t0, t1, t2, t3, t4⟩ := tokX X12
    go_wp2_with fail
    go_ret
    exact .dead F12 ⟨_, _, _, _, h012, P12, HE12.out⟩
set_option maxRecDepth 100000 in
set_option maxHeartbeats 8000000 in
theorem primX {n : Nat} (_H : LvC T n) (P : PM w A T i ns false 0 0) (hi : T.length ≤ i + n + 1) (d : Nat) (hd : d ≤ 8) {l : Int} (hl : l = 8 - (d : Int)) (k2 : kd T i ≠ 2) (k10 : kd T i ≠ 10) (k11 : kd T i ≠ 11) (k17 : kd T i ≠ 17) (k12 : kd T i ≠ 12) (k13 : kd T i ≠ 13) (k14 : kd T i ≠ 14) (k1 : kd T i ≠ 1) :
    Calls Tryz.prog 245 #[.pointer (some ⟨A.p, 0, none⟩), .int .i64 l] w (PPost w A T i ns (.prim d)) := by
  have Hl : Hid _ := hl
  have Hi : Hid _ := hi
  have l1 : -1 < l := by omega
  have l2 : l < 9 := by omega
  clear hl hi
  have F0 : Fr (PS A) w w := Fr.refl _ _
  obtain ⟨r1, r2, r3, r4, r5⟩ := P.r15
  obtain ⟨b1, b2, b3⟩ := P.blt
  obtain ⟨q0, q1, q2, q3⟩ := P.cellK
  obtain ⟨i1, i2⟩ := P.ib
  have hlt : decide ((i : Int) < (T.length : Nat)) = true := decide_eq_true (by have := P.lt; omega)
  have hl0 := P.lt
  have C0 : Hid _ := Im.of_eq (T := T) (M := body T (.prim d) i ns) ((if_neg k2).trans ((if_neg k10).trans ((if_neg k11).trans ((if_neg k17).trans ((if_neg k12).trans ((if_neg k13).trans ((if_neg k14).trans (if_neg k1))))))))
  have z2 : (kd T i == 2) = false := by simpa using k2
  have z10 : (kd T i == 10) = false := by simpa using k10
  have z11 : (kd T i == 11) = false := by simpa using k11
  have z17 : (kd T i == 17) = false := by simpa using k17
  have z12 : (kd T i == 12) = false := by simpa using k12
  have z13 : (kd T i == 13) = false := by simpa using k13
  have z14 : (kd T i == 14) = false := by simpa using k14
  have z1 : (kd T i == 1) = false := by simpa using k1
  clear k2 k10 k11 k17 k12 k13 k14 k1
  go_enter Tryz.func245, Tryz.ntmps245
  go_wp2_with fail
  refine wp_region_text (by kernel_rfl) (by kernel_rfl) ?_
  go_wp2_with fail
  refine ⟨by kernel_rfl, ?_⟩
  generalize hw0 : World.drew _ = w0
  have f0 : Fr (fun _ => False) w w0 := by rw [← hw0]; exact ((Fr.refl _ _).alloc _).drew
  have X0 : Blk w0 w.heap.size 4 (tokCell (tk T i)) := by rw [← hw0]; exact (boxT_blk w (tk T i)).drew
  have P0 := P.same f0
  have G0 := f0.mono (S' := PS A) (fun _ _ h => h.elim)
  have tne : w.heap.size ≠ A.p ∧ w.heap.size ≠ A.tb ∧ w.heap.size ≠ A.ab := by have := P.blt; omega
  clear hw0
  clear r1 r2 r3 r4 r5 b1 b2 b3 q0 q1 q2 q3 i1 i2 hlt hl0
  obtain ⟨r1, r2, r3, r4, r5⟩ := P0.r15
  obtain ⟨b1, b2, b3⟩ := P0.blt
  obtain ⟨t0, t1, t2, t3, t4⟩ := tokX X0
  go_wp2_with fail
  refine (failF P0 10 (ps T i)).mono ?_
  rintro v w9 ⟨rfl, P9, f9⟩
  go_wp2_with fail
  go_ret
  exact .dead (G0.trans f9 (fun _ _ h => h)) ⟨_, _, _, _, by decide, P9, C0.out _ (.ret _)⟩
end
end Go.Proofs.Qxb6500277aGreat
