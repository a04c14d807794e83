/- The model parser: primary: leaves. -/
import Derived.Test.Qxb6500277aGreatQM7
namespace Go.Proofs.Qxb6500277aGreat
open Go Go.RowKit

section
variable {w w' w1 w2 : World} {s tb : Nat} {T : List Tok} {i : Nat} {ns : List Nd} {er q : Int} {nv nv' nv1 nv2 : Value} {S : Nat → Prop} {M : Mo} {K K' : Nat → List Nd → Prop} {g g' : Nat → List Nd → Mo}
structure MP (w : World) (s tb : Nat) (T : List Tok) (i : Nat) (ns : List Nd) (nv : Value) (b : Nat) (nd : Nd) : Prop where
  P : SM w s tb T i ns 0 0 nv
  X : Blk w b 8 (ndCell nd)
  ne : b ≠ s ∧ b ≠ tb ∧ ¬ isBlk nv b
theorem MP.fx {b : Nat} {nd : Nd} (h : MP w s tb T i ns nv b nd) : w.cell? ⟨b, 0, none⟩ = some (.int .i64 nd.kind) ∧ w.cell? ⟨b, 1, none⟩ = some (.int .i64 nd.a) ∧ w.cell? ⟨b, 2, none⟩ = some (.int .i64 nd.b) ∧ w.cell? ⟨b, 3, none⟩ = some (.int .i64 nd.c) ∧ w.cell? ⟨b, 4, none⟩ = some (.int .i64 nd.nx) ∧ w.cell? ⟨b, 5, none⟩ = some (.int .i64 nd.val) ∧ w.cell? ⟨b, 6, none⟩ = some (.int .i64 nd.pos) ∧ w.cell? ⟨b, 7, none⟩ = some (.string nd.name) ∧ (∀ o, w.frozen? ⟨b, o, none⟩ = false) ∧ b < w.heap.size ∧ b ≠ s ∧ s < w.heap.size :=
  ⟨h.X.cell (by omega), h.X.cell (by omega), h.X.cell (by omega), h.X.cell (by omega), h.X.cell (by omega), h.X.cell (by omega), h.X.cell (by omega), h.X.cell (by omega), h.X.frozen, h.X.lt, h.ne.1, h.P.blt.1⟩
theorem MP.new (P : SM w s tb T i ns 0 0 nv) (nd : Nd) : MP (w.alloc (boxN nd)) s tb T i ns nv w.heap.size nd := by
  have := P.blt
  exact ⟨P.same ((Fr.refl _ _).alloc _), boxN_blk w nd, by omega, by omega, fun h => by have := P.arr.lt h; omega⟩
theorem MP.go {b j : Nat} {nd : Nd} {ms : List Nd} (h : MP w s tb T i ns nv b nd) (G : Gm s w nv w' nv') (P' : SM w' s tb T j ms 0 0 nv') : MP w' s tb T j ms nv' b nd :=
  ⟨P', h.X.frame G.fr (fun e => e.elim h.ne.1 h.ne.2.2), h.ne.1, h.ne.2.1, fun e => (G.up b e).elim h.ne.2.2 (fun e => by have := h.X.lt; omega)⟩
theorem MP.same {b : Nat} {nd : Nd} (h : MP w s tb T i ns nv b nd) (f : Fr (fun _ => False) w w') : MP w' s tb T i ns nv b nd := ⟨h.P.same f, h.X.frame f (fun h => h), h.ne⟩
theorem MP.mb {b : Nat} {nd : Nd} (h : MP w s tb T i ns nv b nd) (hK : K i ns) (C : Im T (g i ns) M) : MB w s tb T nv M K g b nd := ⟨.inl ⟨i, ns, h.P, hK, C⟩, h.X, h.ne⟩
theorem MP.set {b : Nat} {nd : Nd} (h : MP w s tb T i ns nv b nd) {o : Nat} {v : Value} {nd' : Nd} (e : ∀ c, c < 8 → upd (ndCell nd) o v c = ndCell nd' c) : MP (w.setCell ⟨b, o, none⟩ v) s tb T i ns nv b nd' := by
  have k := (Fr.refl (fun c => c = b) w).setC b o v (fun _ => rfl)
  exact ⟨h.P.frame k (Ne.symm h.ne.1) (Ne.symm h.ne.2.1) (fun c hc e => h.ne.2.2 (e ▸ hc)), (h.X.set o v).congr e, h.ne⟩
theorem MP.setK {b : Nat} {k a c2 c3 n v p : Int} {t : ByteArray} (h : MP w s tb T i ns nv b ⟨k, a, c2, c3, n, v, p, t⟩) (x : Int) : MP (w.setCell ⟨b, 0, none⟩ (.int .i64 x)) s tb T i ns nv b ⟨x, a, c2, c3, n, v, p, t⟩ := h.set fun c hc => by
  rcases lt8c hc with rfl | rfl | rfl | rfl | rfl | rfl | rfl | rfl <;> rfl
theorem MP.setS {b : Nat} {k a c2 c3 n v p : Int} {t : ByteArray} (h : MP w s tb T i ns nv b ⟨k, a, c2, c3, n, v, p, t⟩) (x : ByteArray) : MP (w.setCell ⟨b, 7, none⟩ (.string x)) s tb T i ns nv b ⟨k, a, c2, c3, n, v, p, x⟩ := h.set fun c hc => by
  rcases lt8c hc with rfl | rfl | rfl | rfl | rfl | rfl | rfl | rfl <;> rfl
set_option maxRecDepth 100000 in
set_option maxHeartbeats 8000000 in
theorem pm2 {n : Nat} (_H : LxC T n) (P : SM w s tb T i ns 0 0 nv) (hi : T.length ≤ i + n + 1) (d : Nat) (hd : d ≤ 8) {dv : Int} (hdv : dv = d) (k0 : kd T i = 2) :
    Calls Tryz.prog 246 #[.pointer (some ⟨s, 0, none⟩), .int .i64 dv] w (MPM w s tb T nv i ns (.prim d)) := by
  have Hd : Hid _ := hdv
  have Hi : Hid _ := hi
  have l1 : -1 < dv := by omega
  have l2 : dv < 9 := by omega
  clear hdv hi
  have G0 : Gm s w nv w nv := .refl
  obtain ⟨r0, r1, r2, r3, r4⟩ := P.regs
  obtain ⟨b1, b2⟩ := P.blt
  obtain ⟨q0, q1, q2, q3⟩ := P.cellK
  obtain ⟨i1, i2⟩ := P.ib
  have hlt : decide ((i : Int) < (T.length : Nat)) = true := decide_eq_true (by have := P.lt; omega)
  have hl0 := P.lt
  have C0 : Hid _ := Im.of_eq (T := T) (M := body T (.prim d) i ns) (if_pos k0)
  have Hs : Hid _ := P.nxt (by omega)
  have z2 : (kd T i == 2) = true := by simp [k0]
  clear k0
  go_enter Tryz.func246, Tryz.ntmps246
  go_wp2_with fail
  refine wp_region_text (by kernel_rfl) (by kernel_rfl) ?_
  go_wp2_with fail
  refine ⟨by kernel_rfl, ?_⟩
  generalize hw0 : World.drew _ = w0
  have f0 : Fr (fun _ => False) w w0 := by rw [← hw0]; exact ((Fr.refl _ _).alloc _).drew
  have X0 : Blk w0 w.heap.size 4 (tokCell (tk T i)) := by rw [← hw0]; exact (boxT_blk w (tk T i)).drew
  have P0 := P.same f0
  have GA := G0.trans (.same f0)
  have tne : w.heap.size ≠ s ∧ w.heap.size ≠ tb ∧ ¬ isBlk nv w.heap.size := ⟨by have := P.blt; omega, by have := P.blt; omega, fun h => by have := P.arr.lt h; omega⟩
  clear hw0
  clear r0 r1 r2 r3 r4 b1 b2 q0 q1 q2 q3 i1 i2 hlt hl0
  obtain ⟨t0, t1, t2, t3, t4⟩ := tokX X0
  go_wp2_with fail
  refine (nodeM 0 (ps T i) _).mono ?_
  rintro v w1 ⟨rfl, f1⟩
  have G1 := GA.trans (.same f1)
  unfold ndV
  have P1 := P0.same f1
  have X1 := X0.frame f1 (fun h => h)
  clear t0 t1 t2 t3 t4
  obtain ⟨t0, t1, t2, t3, t4⟩ := tokX X1
  go_wp2_with fail
  go_region
  go_wp2_with fail
  generalize hw2 : World.drew _ = w2
  have B2 : MP w2 s tb T i ns nv w1.heap.size ⟨10, -1, -1, -1, -1, (tk T i).val, ps T i, ⟨#[]⟩⟩ := by rw [← hw2]; exact (MP.new P1 ⟨10, -1, -1, -1, -1, (tk T i).val, ps T i, ⟨#[]⟩⟩).same (Fr.refl _ _).drew
  have Hn2 : w.heap.size ≤ w1.heap.size := G1.fr.size
  have G2 : Gm s w nv w2 nv := by rw [← hw2]; exact (G1.alloc _).trans (.same (Fr.refl _ _).drew)
  clear hw2
  clear t0 t1 t2 t3 t4
  go_wp2_with fail
  refine (nextM B2.P).mono ?_
  rintro v w3 ⟨rfl, P3, g3⟩
  have B3 := B2.go g3 P3
  have G3 := G2.trans g3
  obtain ⟨x0, x1, x2, x3, x4, x5, x6, x7, xz, xl, xn, xs⟩ := B3.fx
  go_wp2_with fail
  have B4 := B3.mb (M := body T (.prim d) i ns) (K := KK (i + 1) ns.length) (g := fun j ms => put ⟨10, -1, -1, -1, -1, (tk T i).val, ps T i, ⟨#[]⟩⟩ j ms fin) (by have := Hs.out; unfold KK; omega) C0.out
  refine (addCM (nd := ⟨10, -1, -1, -1, -1, (tk T i).val, ps T i, ⟨#[]⟩⟩) (K' := fun x j ms => i < j ∧ ns.length ≤ ms.length ∧ 0 ≤ x ∧ x < ms.length) B4.S (fun j ms h => by unfold KK at *; simp; omega)).mono ?_
  rintro v w5 ⟨x5_, v5, rfl, S5, g5⟩
  have G5 := G3.trans g5
  have B5 := B4.go g5 S5
  clear x0 x1 x2 x3 x4 x5 x6 x7 xz xl xn xs
  obtain ⟨x0, x1, x2, x3, x4, x5, x6, x7, xz, xl, xn, xs⟩ := B5.fx
  go_wp2_with fail
  go_ret
  exact .done B5.S (fun _ _ h => h) G5
set_option maxRecDepth 100000 in
set_option maxHeartbeats 8000000 in
theorem pm10 {n : Nat} (_H : LxC T n) (P : SM w s tb T i ns 0 0 nv) (hi : T.length ≤ i + n + 1) (d : Nat) (hd : d ≤ 8) {dv : Int} (hdv : dv = d) (k0 : kd T i = 10) :
    Calls Tryz.prog 246 #[.pointer (some ⟨s, 0, none⟩), .int .i64 dv] w (MPM w s tb T nv i ns (.prim d)) := by
  have Hd : Hid _ := hdv
  have Hi : Hid _ := hi
  have l1 : -1 < dv := by omega
  have l2 : dv < 9 := by omega
  clear hdv hi
  have G0 : Gm s w nv w nv := .refl
  obtain ⟨r0, r1, r2, r3, r4⟩ := P.regs
  obtain ⟨b1, b2⟩ := P.blt
  obtain ⟨q0, q1, q2, q3⟩ := P.cellK
  obtain ⟨i1, i2⟩ := P.ib
  have hlt : decide ((i : Int) < (T.length : Nat)) = true := decide_eq_true (by have := P.lt; omega)
  have hl0 := P.lt
  have C0 : Hid _ := Im.of_eq (T := T) (M := body T (.prim d) i ns) ((if_neg (by omega)).trans (if_pos k0))
  have Hs : Hid _ := P.nxt (by omega)
  have z2 : (kd T i == 2) = false := by simp [k0]
  have z10 : (kd T i == 10) = true := by simp [k0]
  have z11 : (kd T i == 11) = false := by simp [k0]
  clear k0
  go_enter Tryz.func246, Tryz.ntmps246
  go_wp2_with fail
  refine wp_region_text (by kernel_rfl) (by kernel_rfl) ?_
  go_wp2_with fail
  refine ⟨by kernel_rfl, ?_⟩
  generalize hw0 : World.drew _ = w0
  have f0 : Fr (fun _ => False) w w0 := by rw [← hw0]; exact ((Fr.refl _ _).alloc _).drew
  have X0 : Blk w0 w.heap.size 4 (tokCell (tk T i)) := by rw [← hw0]; exact (boxT_blk w (tk T i)).drew
  have P0 := P.same f0
  have GA := G0.trans (.same f0)
  have tne : w.heap.size ≠ s ∧ w.heap.size ≠ tb ∧ ¬ isBlk nv w.heap.size := ⟨by have := P.blt; omega, by have := P.blt; omega, fun h => by have := P.arr.lt h; omega⟩
  clear hw0
  clear r0 r1 r2 r3 r4 b1 b2 q0 q1 q2 q3 i1 i2 hlt hl0
  obtain ⟨t0, t1, t2, t3, t4⟩ := tokX X0
  go_wp2_with fail
  refine (nodeM 0 (ps T i) _).mono ?_
  rintro v w6 ⟨rfl, f6⟩
  have G6 := GA.trans (.same f6)
  unfold ndV
  have P6 := P0.same f6
  have X6 := X0.frame f6 (fun h => h)
  clear t0 t1 t2 t3 t4
  obtain ⟨t0, t1, t2, t3, t4⟩ := tokX X6
  go_wp2_with fail
  have B7 := MP.new P6 (⟨11, -1, -1, -1, -1, 1, ps T i, ⟨#[]⟩⟩)
  have Hn7 : w.heap.size ≤ w6.heap.size := G6.fr.size
  have G7 := G6.alloc (boxN (⟨11, -1, -1, -1, -1, 1, ps T i, ⟨#[]⟩⟩))
  refine (nextM B7.P).mono ?_
  rintro v w8 ⟨rfl, P8, g8⟩
  have B8 := B7.go g8 P8
  have G8 := G7.trans g8
  clear t0 t1 t2 t3 t4
  obtain ⟨x0, x1, x2, x3, x4, x5, x6, x7, xz, xl, xn, xs⟩ := B8.fx
  go_wp2_with fail
  have B9 := B8.mb (M := body T (.prim d) i ns) (K := KK (i + 1) ns.length) (g := fun j ms => put ⟨11, -1, -1, -1, -1, 1, ps T i, ⟨#[]⟩⟩ j ms fin) (by have := Hs.out; unfold KK; omega) C0.out
  refine (addCM (nd := ⟨11, -1, -1, -1, -1, 1, ps T i, ⟨#[]⟩⟩) (K' := fun x j ms => i < j ∧ ns.length ≤ ms.length ∧ 0 ≤ x ∧ x < ms.length) B9.S (fun j ms h => by unfold KK at *; simp; omega)).mono ?_
  rintro v w10 ⟨x10_, v10, rfl, S10, g10⟩
  have G10 := G8.trans g10
  have B10 := B9.go g10 S10
  clear x0 x1 x2 x3 x4 x5 x6 x7 xz xl xn xs
  obtain ⟨x0, x1, x2, x3, x4, x5, x6, x7, xz, xl, xn, xs⟩ := B10.fx
  go_wp2_with fail
  go_ret
  exact .done B10.S (fun _ _ h => h) G10
set_option maxRecDepth 100000 in
set_option maxHeartbeats 8000000 in
theorem pm11 {n : Nat} (_H : LxC T n) (P : SM w s tb T i ns 0 0 nv) (hi : T.length ≤ i + n + 1) (d : Nat) (hd : d ≤ 8) {dv : Int} (hdv : dv = d) (k0 : kd T i = 11) :
    Calls Tryz.prog 246 #[.pointer (some ⟨s, 0, none⟩), .int .i64 dv] w (MPM w s tb T nv i ns (.prim d)) := by
  have Hd : Hid _ := hdv
  have Hi : Hid _ := hi
  have l1 : -1 < dv := by omega
  have l2 : dv < 9 := by omega
  clear hdv hi
  have G0 : Gm s w nv w nv := .refl
  obtain ⟨r0, r1, r2, r3, r4⟩ := P.regs
  obtain ⟨b1, b2⟩ := P.blt
  obtain ⟨q0, q1, q2, q3⟩ := P.cellK
  obtain ⟨i1, i2⟩ := P.ib
  have hlt : decide ((i : Int) < (T.length : Nat)) = true := decide_eq_true (by have := P.lt; omega)
  have hl0 := P.lt
  have C0 : Hid _ := Im.of_eq (T := T) (M := body T (.prim d) i ns) ((if_neg (by omega)).trans ((if_neg (by omega)).trans (if_pos k0)))
  have Hs : Hid _ := P.nxt (by omega)
  have z2 : (kd T i == 2) = false := by simp [k0]
  have z10 : (kd T i == 10) = false := by simp [k0]
  have z11 : (kd T i == 11) = true := by simp [k0]
  clear k0
  go_enter Tryz.func246, Tryz.ntmps246
  go_wp2_with fail
  refine wp_region_text (by kernel_rfl) (by kernel_rfl) ?_
  go_wp2_with fail
  refine ⟨by kernel_rfl, ?_⟩
  generalize hw0 : World.drew _ = w0
  have f0 : Fr (fun _ => False) w w0 := by rw [← hw0]; exact ((Fr.refl _ _).alloc _).drew
  have X0 : Blk w0 w.heap.size 4 (tokCell (tk T i)) := by rw [← hw0]; exact (boxT_blk w (tk T i)).drew
  have P0 := P.same f0
  have GA := G0.trans (.same f0)
  have tne : w.heap.size ≠ s ∧ w.heap.size ≠ tb ∧ ¬ isBlk nv w.heap.size := ⟨by have := P.blt; omega, by have := P.blt; omega, fun h => by have := P.arr.lt h; omega⟩
  clear hw0
  clear r0 r1 r2 r3 r4 b1 b2 q0 q1 q2 q3 i1 i2 hlt hl0
  obtain ⟨t0, t1, t2, t3, t4⟩ := tokX X0
  go_wp2_with fail
  refine (nodeM 0 (ps T i) _).mono ?_
  rintro v w11 ⟨rfl, f11⟩
  have G11 := GA.trans (.same f11)
  unfold ndV
  have P11 := P0.same f11
  have X11 := X0.frame f11 (fun h => h)
  clear t0 t1 t2 t3 t4
  obtain ⟨t0, t1, t2, t3, t4⟩ := tokX X11
  go_wp2_with fail
  have B12 := MP.new P11 (⟨11, -1, -1, -1, -1, 0, ps T i, ⟨#[]⟩⟩)
  have Hn12 : w.heap.size ≤ w11.heap.size := G11.fr.size
  have G12 := G11.alloc (boxN (⟨11, -1, -1, -1, -1, 0, ps T i, ⟨#[]⟩⟩))
  refine (nextM B12.P).mono ?_
  rintro v w13 ⟨rfl, P13, g13⟩
  have B13 := B12.go g13 P13
  have G13 := G12.trans g13
  clear t0 t1 t2 t3 t4
  obtain ⟨x0, x1, x2, x3, x4, x5, x6, x7, xz, xl, xn, xs⟩ := B13.fx
  go_wp2_with fail
  have B14 := B13.mb (M := body T (.prim d) i ns) (K := KK (i + 1) ns.length) (g := fun j ms => put ⟨11, -1, -1, -1, -1, 0, ps T i, ⟨#[]⟩⟩ j ms fin) (by have := Hs.out; unfold KK; omega) C0.out
  refine (addCM (nd := ⟨11, -1, -1, -1, -1, 0, ps T i, ⟨#[]⟩⟩) (K' := fun x j ms => i < j ∧ ns.length ≤ ms.length ∧ 0 ≤ x ∧ x < ms.length) B14.S (fun j ms h => by unfold KK at *; simp; omega)).mono ?_
  rintro v w15 ⟨x15_, v15, rfl, S15, g15⟩
  have G15 := G13.trans g15
  have B15 := B14.go g15 S15
  clear x0 x1 x2 x3 x4 x5 x6 x7 xz xl xn xs
  obtain ⟨x0, x1, x2, x3, x4, x5, x6, x7, xz, xl, xn, xs⟩ := B15.fx
  go_wp2_with fail
  go_ret
  exact .done B15.S (fun _ _ h => h) G15
set_option maxRecDepth 100000 in
set_option maxHeartbeats 8000000 in
theorem pm17 {n : Nat} (H : LxC T n) (P : SM w s tb T i ns 0 0 nv) (hi : T.length ≤ i + n + 1) (d : Nat) (hd : d ≤ 8) {dv : Int} (hdv : dv = d) (k0 : kd T i = 17) :
    Calls Tryz.prog 246 #[.pointer (some ⟨s, 0, none⟩), .int .i64 dv] w (MPM w s tb T nv i ns (.prim d)) := by
  have Hd : Hid _ := hdv
  have Hi : Hid _ := hi
  have l1 : -1 < dv := by omega
  have l2 : dv < 9 := by omega
  clear hdv hi
  have G0 : Gm s w nv w nv := .refl
  obtain ⟨r0, r1, r2, r3, r4⟩ := P.regs
  obtain ⟨b1, b2⟩ := P.blt
  obtain ⟨q0, q1, q2, q3⟩ := P.cellK
  obtain ⟨i1, i2⟩ := P.ib
  have hlt : decide ((i : Int) < (T.length : Nat)) = true := decide_eq_true (by have := P.lt; omega)
  have hl0 := P.lt
  have C0 : Hid _ := Im.of_eq (T := T) (M := body T (.prim d) i ns) ((if_neg (by omega)).trans ((if_neg (by omega)).trans ((if_neg (by omega)).trans (if_pos k0))))
  have Hs : Hid _ := P.nxt (by omega)
  have z2 : (kd T i == 2) = false := by simp [k0]
  have z10 : (kd T i == 10) = false := by simp [k0]
  have z11 : (kd T i == 11) = false := by simp [k0]
  have z17 : (kd T i == 17) = true := by simp [k0]
  clear k0
  go_enter Tryz.func246, Tryz.ntmps246
  go_wp2_with fail
  refine wp_region_text (by kernel_rfl) (by kernel_rfl) ?_
  go_wp2_with fail
  refine ⟨by kernel_rfl, ?_⟩
  generalize hw0 : World.drew _ = w0
  have f0 : Fr (fun _ => False) w w0 := by rw [← hw0]; exact ((Fr.refl _ _).alloc _).drew
  have X0 : Blk w0 w.heap.size 4 (tokCell (tk T i)) := by rw [← hw0]; exact (boxT_blk w (tk T i)).drew
  have P0 := P.same f0
  have GA := G0.trans (.same f0)
  have tne : w.heap.size ≠ s ∧ w.heap.size ≠ tb ∧ ¬ isBlk nv w.heap.size := ⟨by have := P.blt; omega, by have := P.blt; omega, fun h => by have := P.arr.lt h; omega⟩
  clear hw0
  clear r0 r1 r2 r3 r4 b1 b2 q0 q1 q2 q3 i1 i2 hlt hl0
  obtain ⟨t0, t1, t2, t3, t4⟩ := tokX X0
  go_wp2_with fail
  refine (nodeM 0 (ps T i) _).mono ?_
  rintro v w16 ⟨rfl, f16⟩
  have G16 := GA.trans (.same f16)
  unfold ndV
  have P16 := P0.same f16
  have X16 := X0.frame f16 (fun h => h)
  clear t0 t1 t2 t3 t4
  obtain ⟨t0, t1, t2, t3, t4⟩ := tokX X16
  go_wp2_with fail
  have B17 := MP.new P16 (⟨0, -1, -1, -1, -1, 0, ps T i, ⟨#[]⟩⟩)
  have Hn17 : w.heap.size ≤ w16.heap.size := G16.fr.size
  have G17 := G16.alloc (boxN (⟨0, -1, -1, -1, -1, 0, ps T i, ⟨#[]⟩⟩))
  have B18 := B17.mb (M := body T (.prim d) i ns) (K := fun j ms => j = i ∧ ms = ns) (g := fun j ms => .call (.inner d) j ms fin) (⟨rfl, rfl⟩) C0.out
  refine (St.call (K' := fun x j ms => i < j ∧ ns.length ≤ ms.length ∧ 0 ≤ x ∧ x < ms.length) B18.S (fun j ms P h => innerL H P (by rw [h.1]; exact Hi.out) d hd Hd.out) (fun er q j ms h0 P => (inner_dead P h0 _).mono fun e w1 h => ⟨⟨_, h.1⟩, h.2⟩) (fun j ms x j1 ms1 h h1 h2 h3 h4 => by rw [h.1, h.2] at *; omega)).mono ?_
  rintro v w19 ⟨x19_, v19, rfl, S19, g19⟩
  have G19 := G17.trans g19
  have B19 := B18.go g19 S19
  clear t0 t1 t2 t3 t4
  obtain ⟨x0, x1, x2, x3, x4, x5, x6, x7, xz, xl, xn, xs⟩ := B19.fx
  go_wp2_with fail
  go_ret
  exact .done B19.S (fun _ _ h => h) G19
set_option maxRecDepth 100000 in
set_option maxHeartbeats 8000000 in
theorem pm12 {n : Nat} (H : LxC T n) (P : SM w s tb T i ns 0 0 nv) (hi : T.length ≤ i + n + 1) (d : Nat) (hd : d ≤ 8) {dv : Int} (hdv : dv = d) (k0 : kd T i = 12) :
    Calls Tryz.prog 246 #[.pointer (some ⟨s, 0, none⟩), .int .i64 dv] w (MPM w s tb T nv i ns (.prim d)) := by
  have Hd : Hid _ := hdv
  have Hi : Hid _ := hi
  have l1 : -1 < dv := by omega
  have l2 : dv < 9 := by omega
  clear hdv hi
  have G0 : Gm s w nv w nv := .refl
  obtain ⟨r0, r1, r2, r3, r4⟩ := P.regs
  obtain ⟨b1, b2⟩ := P.blt
  obtain ⟨q0, q1, q2, q3⟩ := P.cellK
  obtain ⟨i1, i2⟩ := P.ib
  have hlt : decide ((i : Int) < (T.length : Nat)) = true := decide_eq_true (by have := P.lt; omega)
  have hl0 := P.lt
  have C0 : Hid _ := Im.of_eq (T := T) (M := body T (.prim d) i ns) ((if_neg (by omega)).trans ((if_neg (by omega)).trans ((if_neg (by omega)).trans ((if_neg (by omega)).trans (if_pos k0)))))
  have Hs : Hid _ := P.nxt (by omega)
  have z2 : (kd T i == 2) = false := by simp [k0]
  have z10 : (kd T i == 10) = false := by simp [k0]
  have z11 : (kd T i == 11) = false := by simp [k0]
  have z17 : (kd T i == 17) = false := by simp [k0]
  have z12 : (kd T i == 12) = true := by simp [k0]
  clear k0
  go_enter Tryz.func246, Tryz.ntmps246
  go_wp2_with fail
  refine wp_region_text (by kernel_rfl) (by kernel_rfl) ?_
  go_wp2_with fail
  refine ⟨by kernel_rfl, ?_⟩
  generalize hw0 : World.drew _ = w0
  have f0 : Fr (fun _ => False) w w0 := by rw [← hw0]; exact ((Fr.refl _ _).alloc _).drew
  have X0 : Blk w0 w.heap.size 4 (tokCell (tk T i)) := by rw [← hw0]; exact (boxT_blk w (tk T i)).drew
  have P0 := P.same f0
  have GA := G0.trans (.same f0)
  have tne : w.heap.size ≠ s ∧ w.heap.size ≠ tb ∧ ¬ isBlk nv w.heap.size := ⟨by have := P.blt; omega, by have := P.blt; omega, fun h => by have := P.arr.lt h; omega⟩
  clear hw0
  clear r0 r1 r2 r3 r4 b1 b2 q0 q1 q2 q3 i1 i2 hlt hl0
  obtain ⟨t0, t1, t2, t3, t4⟩ := tokX X0
  go_wp2_with fail
  refine (nodeM 0 (ps T i) _).mono ?_
  rintro v w20 ⟨rfl, f20⟩
  have G20 := GA.trans (.same f20)
  unfold ndV
  have P20 := P0.same f20
  have X20 := X0.frame f20 (fun h => h)
  clear t0 t1 t2 t3 t4
  obtain ⟨t0, t1, t2, t3, t4⟩ := tokX X20
  go_wp2_with fail
  have B21 := MP.new P20 (⟨0, -1, -1, -1, -1, 0, ps T i, ⟨#[]⟩⟩)
  have Hn21 : w.heap.size ≤ w20.heap.size := G20.fr.size
  have G21 := G20.alloc (boxN (⟨0, -1, -1, -1, -1, 0, ps T i, ⟨#[]⟩⟩))
  refine (nextM B21.P).mono ?_
  rintro v w22 ⟨rfl, P22, g22⟩
  have B22 := B21.go g22 P22
  have G22 := G21.trans g22
  clear t0 t1 t2 t3 t4
  obtain ⟨x0, x1, x2, x3, x4, x5, x6, x7, xz, xl, xn, xs⟩ := B22.fx
  go_wp2_with fail
  have B23 := B22.setK (15)
  have G23 := Gm.set (o := 0) (v := .int .i64 (15)) G22 Hn21
  have B24 := B23.mb (M := body T (.prim d) i ns) (K := KK (i + 1) ns.length) (g := fun j ms => typ T j fun t j => .call (.inner d) j ms fun x j ms => put ⟨15, x, -1, -1, -1, t, ps T i, ⟨#[]⟩⟩ j ms fin) (by have := Hs.out; unfold KK; omega) C0.out
  refine (typCM (K' := KK (i + 1) ns.length) B24.S (fun j ms j1 h h1 => by unfold KK at *; omega)).mono ?_
  rintro v w25 ⟨t25, rfl, S25, g25⟩
  have G25 := G23.trans g25
  have B25 := B24.go g25 S25
  clear x0 x1 x2 x3 x4 x5 x6 x7 xz xl xn xs
  obtain ⟨x0, x1, x2, x3, x4, x5, x6, x7, xz, xl, xn, xs⟩ := B25.fx
  go_wp2_with fail
  have B26 := B25.setV (t25)
  have G26 := Gm.set (o := 5) (v := .int .i64 (t25)) G25 Hn21
  refine (St.call (K' := fun x => KK (i + 1) ns.length) B26.S (fun j ms P h => innerL H P (by have := Hi.out; unfold KK at h; omega) d hd Hd.out) (fun er q j ms h0 P => (inner_dead P h0 _).mono fun e w1 h => ⟨⟨_, h.1⟩, h.2⟩) (fun j ms x j1 ms1 h h1 h2 h3 h4 => by unfold KK at *; omega)).mono ?_
  rintro v w27 ⟨x27_, v27, rfl, S27, g27⟩
  have G27 := G26.trans g27
  have B27 := B26.go g27 S27
  clear x0 x1 x2 x3 x4 x5 x6 x7 xz xl xn xs
  obtain ⟨x0, x1, x2, x3, x4, x5, x6, x7, xz, xl, xn, xs⟩ := B27.fx
  go_wp2_with fail
  have B28 := B27.setA (x27_)
  have G28 := Gm.set (o := 1) (v := .int .i64 (x27_)) G27 Hn21
  refine (addCM (nd := ⟨15, x27_, -1, -1, -1, t25, ps T i, ⟨#[]⟩⟩) (K' := fun x j ms => i < j ∧ ns.length ≤ ms.length ∧ 0 ≤ x ∧ x < ms.length) B28.S (fun j ms h => by unfold KK at *; simp; omega)).mono ?_
  rintro v w29 ⟨x29_, v29, rfl, S29, g29⟩
  have G29 := G28.trans g29
  have B29 := B28.go g29 S29
  clear x0 x1 x2 x3 x4 x5 x6 x7 xz xl xn xs
  obtain ⟨x0, x1, x2, x3, x4, x5, x6, x7, xz, xl, xn, xs⟩ := B29.fx
  go_wp2_with fail
  go_ret
  exact .done B29.S (fun _ _ h => h) G29
set_option maxRecDepth 100000 in
set_option maxHeartbeats 8000000 in
theorem pm13 {n : Nat} (H : LxC T n) (P : SM w s tb T i ns 0 0 nv) (hi : T.length ≤ i + n + 1) (d : Nat) (hd : d ≤ 8) {dv : Int} (hdv : dv = d) (k0 : kd T i = 13) :
    Calls Tryz.prog 246 #[.pointer (some ⟨s, 0, none⟩), .int .i64 dv] w (MPM w s tb T nv i ns (.prim d)) := by
  have Hd : Hid _ := hdv
  have Hi : Hid _ := hi
  have l1 : -1 < dv := by omega
  have l2 : dv < 9 := by omega
  clear hdv hi
  have G0 : Gm s w nv w nv := .refl
  obtain ⟨r0, r1, r2, r3, r4⟩ := P.regs
  obtain ⟨b1, b2⟩ := P.blt
  obtain ⟨q0, q1, q2, q3⟩ := P.cellK
  obtain ⟨i1, i2⟩ := P.ib
  have hlt : decide ((i : Int) < (T.length : Nat)) = true := decide_eq_true (by have := P.lt; omega)
  have hl0 := P.lt
  have C0 : Hid _ := Im.of_eq (T := T) (M := body T (.prim d) i ns) ((if_neg (by omega)).trans ((if_neg (by omega)).trans ((if_neg (by omega)).trans ((if_neg (by omega)).trans ((if_neg (by omega)).trans (if_pos k0))))))
  have Hs : Hid _ := P.nxt (by omega)
  have z2 : (kd T i == 2) = false := by simp [k0]
  have z10 : (kd T i == 10) = false := by simp [k0]
  have z11 : (kd T i == 11) = false := by simp [k0]
  have z17 : (kd T i == 17) = false := by simp [k0]
  have z12 : (kd T i == 12) = false := by simp [k0]
  have z13 : (kd T i == 13) = true := by simp [k0]
  clear k0
  go_enter Tryz.func246, Tryz.ntmps246
  go_wp2_with fail
  refine wp_region_text (by kernel_rfl) (by kernel_rfl) ?_
  go_wp2_with fail
  refine ⟨by kernel_rfl, ?_⟩
  generalize hw0 : World.drew _ = w0
  have f0 : Fr (fun _ => False) w w0 := by rw [← hw0]; exact ((Fr.refl _ _).alloc _).drew
  have X0 : Blk w0 w.heap.size 4 (tokCell (tk T i)) := by rw [← hw0]; exact (boxT_blk w (tk T i)).drew
  have P0 := P.same f0
  have GA := G0.trans (.same f0)
  have tne : w.heap.size ≠ s ∧ w.heap.size ≠ tb ∧ ¬ isBlk nv w.heap.size := ⟨by have := P.blt; omega, by have := P.blt; omega, fun h => by have := P.arr.lt h; omega⟩
  clear hw0
  clear r0 r1 r2 r3 r4 b1 b2 q0 q1 q2 q3 i1 i2 hlt hl0
  obtain ⟨t0, t1, t2, t3, t4⟩ := tokX X0
  go_wp2_with fail
  refine (nodeM 0 (ps T i) _).mono ?_
  rintro v w30 ⟨rfl, f30⟩
  have G30 := GA.trans (.same f30)
  unfold ndV
  have P30 := P0.same f30
  have X30 := X0.frame f30 (fun h => h)
  clear t0 t1 t2 t3 t4
  obtain ⟨t0, t1, t2, t3, t4⟩ := tokX X30
  go_wp2_with fail
  have B31 := MP.new P30 (⟨0, -1, -1, -1, -1, 0, ps T i, ⟨#[]⟩⟩)
  have Hn31 : w.heap.size ≤ w30.heap.size := G30.fr.size
  have G31 := G30.alloc (boxN (⟨0, -1, -1, -1, -1, 0, ps T i, ⟨#[]⟩⟩))
  refine (nextM B31.P).mono ?_
  rintro v w32 ⟨rfl, P32, g32⟩
  have B32 := B31.go g32 P32
  have G32 := G31.trans g32
  clear t0 t1 t2 t3 t4
  obtain ⟨x0, x1, x2, x3, x4, x5, x6, x7, xz, xl, xn, xs⟩ := B32.fx
  go_wp2_with fail
  have B33 := B32.setK (16)
  have G33 := Gm.set (o := 0) (v := .int .i64 (16)) G32 Hn31
  have B34 := B33.mb (M := body T (.prim d) i ns) (K := KK (i + 1) ns.length) (g := fun j ms => .call (.inner d) j ms fun x j ms => put ⟨16, x, -1, -1, -1, 0, ps T i, ⟨#[]⟩⟩ j ms fin) (by have := Hs.out; unfold KK; omega) C0.out
  refine (St.call (K' := fun x => KK (i + 1) ns.length) B34.S (fun j ms P h => innerL H P (by have := Hi.out; unfold KK at h; omega) d hd Hd.out) (fun er q j ms h0 P => (inner_dead P h0 _).mono fun e w1 h => ⟨⟨_, h.1⟩, h.2⟩) (fun j ms x j1 ms1 h h1 h2 h3 h4 => by unfold KK at *; omega)).mono ?_
  rintro v w35 ⟨x35_, v35, rfl, S35, g35⟩
  have G35 := G33.trans g35
  have B35 := B34.go g35 S35
  clear x0 x1 x2 x3 x4 x5 x6 x7 xz xl xn xs
  obtain ⟨x0, x1, x2, x3, x4, x5, x6, x7, xz, xl, xn, xs⟩ := B35.fx
  go_wp2_with fail
  have B36 := B35.setA (x35_)
  have G36 := Gm.set (o := 1) (v := .int .i64 (x35_)) G35 Hn31
  refine (addCM (nd := ⟨16, x35_, -1, -1, -1, 0, ps T i, ⟨#[]⟩⟩) (K' := fun x j ms => i < j ∧ ns.length ≤ ms.length ∧ 0 ≤ x ∧ x < ms.length) B36.S (fun j ms h => by unfold KK at *; simp; omega)).mono ?_
  rintro v w37 ⟨x37_, v37, rfl, S37, g37⟩
  have G37 := G36.trans g37
  have B37 := B36.go g37 S37
  clear x0 x1 x2 x3 x4 x5 x6 x7 xz xl xn xs
  obtain ⟨x0, x1, x2, x3, x4, x5, x6, x7, xz, xl, xn, xs⟩ := B37.fx
  go_wp2_with fail
  go_ret
  exact .done B37.S (fun _ _ h => h) G37
set_option maxRecDepth 100000 in
set_option maxHeartbeats 8000000 in
theorem pm14 {n : Nat} (_H : LxC T n) (P : SM w s tb T i ns 0 0 nv) (hi : T.length ≤ i + n + 1) (d : Nat) (hd : d ≤ 8) {dv : Int} (hdv : dv = d) (k0 : kd T i = 14) :
    Calls Tryz.prog 246 #[.pointer (some ⟨s, 0, none⟩), .int .i64 dv] w (MPM w s tb T nv i ns (.prim d)) := by
  have Hd : Hid _ := hdv
  have Hi : Hid _ := hi
  have l1 : -1 < dv := by omega
  have l2 : dv < 9 := by omega
  clear hdv hi
  have G0 : Gm s w nv w nv := .refl
  obtain ⟨r0, r1, r2, r3, r4⟩ := P.regs
  obtain ⟨b1, b2⟩ := P.blt
  obtain ⟨q0, q1, q2, q3⟩ := P.cellK
  obtain ⟨i1, i2⟩ := P.ib
  have hlt : decide ((i : Int) < (T.length : Nat)) = true := decide_eq_true (by have := P.lt; omega)
  have hl0 := P.lt
  have C0 : Hid _ := Im.of_eq (T := T) (M := body T (.prim d) i ns) ((if_neg (by omega)).trans ((if_neg (by omega)).trans ((if_neg (by omega)).trans ((if_neg (by omega)).trans ((if_neg (by omega)).trans ((if_neg (by omega)).trans (if_pos k0)))))))
  have Hs : Hid _ := P.nxt (by omega)
  have z2 : (kd T i == 2) = false := by simp [k0]
  have z10 : (kd T i == 10) = false := by simp [k0]
  have z11 : (kd T i == 11) = false := by simp [k0]
  have z17 : (kd T i == 17) = false := by simp [k0]
  have z12 : (kd T i == 12) = false := by simp [k0]
  have z13 : (kd T i == 13) = false := by simp [k0]
  have z14 : (kd T i == 14) = true := by simp [k0]
  clear k0
  go_enter Tryz.func246, Tryz.ntmps246
  go_wp2_with fail
  refine wp_region_text (by kernel_rfl) (by kernel_rfl) ?_
  go_wp2_with fail
  refine ⟨by kernel_rfl, ?_⟩
  generalize hw0 : World.drew _ = w0
  have f0 : Fr (fun _ => False) w w0 := by rw [← hw0]; exact ((Fr.refl _ _).alloc _).drew
  have X0 : Blk w0 w.heap.size 4 (tokCell (tk T i)) := by rw [← hw0]; exact (boxT_blk w (tk T i)).drew
  have P0 := P.same f0
  have GA := G0.trans (.same f0)
  have tne : w.heap.size ≠ s ∧ w.heap.size ≠ tb ∧ ¬ isBlk nv w.heap.size := ⟨by have := P.blt; omega, by have := P.blt; omega, fun h => by have := P.arr.lt h; omega⟩
  clear hw0
  clear r0 r1 r2 r3 r4 b1 b2 q0 q1 q2 q3 i1 i2 hlt hl0
  obtain ⟨t0, t1, t2, t3, t4⟩ := tokX X0
  go_wp2_with fail
  refine (nodeM 0 (ps T i) _).mono ?_
  rintro v w38 ⟨rfl, f38⟩
  have G38 := GA.trans (.same f38)
  unfold ndV
  have P38 := P0.same f38
  have X38 := X0.frame f38 (fun h => h)
  clear t0 t1 t2 t3 t4
  obtain ⟨t0, t1, t2, t3, t4⟩ := tokX X38
  go_wp2_with fail
  have B39 := MP.new P38 (⟨0, -1, -1, -1, -1, 0, ps T i, ⟨#[]⟩⟩)
  have Hn39 : w.heap.size ≤ w38.heap.size := G38.fr.size
  have G39 := G38.alloc (boxN (⟨0, -1, -1, -1, -1, 0, ps T i, ⟨#[]⟩⟩))
  refine (nextM B39.P).mono ?_
  rintro v w40 ⟨rfl, P40, g40⟩
  have B40 := B39.go g40 P40
  have G40 := G39.trans g40
  clear t0 t1 t2 t3 t4
  obtain ⟨x0, x1, x2, x3, x4, x5, x6, x7, xz, xl, xn, xs⟩ := B40.fx
  go_wp2_with fail
  have B41 := B40.setK (17)
  have G41 := Gm.set (o := 0) (v := .int .i64 (17)) G40 Hn39
  have B42 := B41.mb (M := body T (.prim d) i ns) (K := KK (i + 1) ns.length) (g := fun j ms => wnt T 17 j fun j => wnt T 18 j fun j => put ⟨17, -1, -1, -1, -1, 0, ps T i, ⟨#[]⟩⟩ j ms fin) (by have := Hs.out; unfold KK; omega) C0.out
  refine (want0 (k := 17) (K' := KK (i + 1) ns.length) B42.S (by decide) (fun j ms h => by unfold KK at *; omega)).mono ?_
  rintro v w43 ⟨p43, rfl, S43, g43⟩
  have G43 := G41.trans g43
  have B43 := B42.go g43 S43
  clear x0 x1 x2 x3 x4 x5 x6 x7 xz xl xn xs
  obtain ⟨x0, x1, x2, x3, x4, x5, x6, x7, xz, xl, xn, xs⟩ := B43.fx
  go_wp2_with fail
  refine (want0 (k := 18) (K' := KK (i + 1) ns.length) B43.S (by decide) (fun j ms h => by unfold KK at *; omega)).mono ?_
  rintro v w44 ⟨p44, rfl, S44, g44⟩
  have G44 := G43.trans g44
  have B44 := B43.go g44 S44
  clear x0 x1 x2 x3 x4 x5 x6 x7 xz xl xn xs
  obtain ⟨x0, x1, x2, x3, x4, x5, x6, x7, xz, xl, xn, xs⟩ := B44.fx
  go_wp2_with fail
  refine (addCM (nd := ⟨17, -1, -1, -1, -1, 0, ps T i, ⟨#[]⟩⟩) (K' := fun x j ms => i < j ∧ ns.length ≤ ms.length ∧ 0 ≤ x ∧ x < ms.length) B44.S (fun j ms h => by unfold KK at *; simp; omega)).mono ?_
  rintro v w45 ⟨x45_, v45, rfl, S45, g45⟩
  have G45 := G44.trans g45
  have B45 := B44.go g45 S45
  clear x0 x1 x2 x3 x4 x5 x6 x7 xz xl xn xs
  obtain ⟨x0, x1, x2, x3, x4, x5, x6, x7, xz, xl, xn, xs⟩ := B45.fx
  go_wp2_with fail
  go_ret
  exact .done B45.S (fun _ _ h => h) G45
set_option maxRecDepth 100000 in
set_option maxHeartbeats 8000000 in
theorem pmX {n : Nat} (_H : LxC T n) (P : SM w s tb T i ns 0 0 nv) (hi : T.length ≤ i + n + 1) (d : Nat) (hd : d ≤ 8) {dv : Int} (hdv : dv = d) (k2 : kd T i ≠ 2) (k10 : kd T i ≠ 10) (k11 : kd T i ≠ 11) (k17 : kd T i ≠ 17) (k12 : kd T i ≠ 12) (k13 : kd T i ≠ 13) (k14 : kd T i ≠ 14) (k1 : kd T i ≠ 1) :
    Calls Tryz.prog 246 #[.pointer (some ⟨s, 0, none⟩), .int .i64 dv] w (MPM w s tb T nv i ns (.prim d)) := by
  have Hd : Hid _ := hdv
  have Hi : Hid _ := hi
  have l1 : -1 < dv := by omega
  have l2 : dv < 9 := by omega
  clear hdv hi
  have G0 : Gm s w nv w nv := .refl
  obtain ⟨r0, r1, r2, r3, r4⟩ := P.regs
  obtain ⟨b1, b2⟩ := P.blt
  obtain ⟨q0, q1, q2, q3⟩ := P.cellK
  obtain ⟨i1, i2⟩ := P.ib
  have hlt : decide ((i : Int) < (T.length : Nat)) = true := decide_eq_true (by have := P.lt; omega)
  have hl0 := P.lt
  have C0 : Hid _ := Im.of_eq (T := T) (M := body T (.prim d) i ns) ((if_neg k2).trans ((if_neg k10).trans ((if_neg k11).trans ((if_neg k17).trans ((if_neg k12).trans ((if_neg k13).trans ((if_neg k14).trans (if_neg k1))))))))
  have z2 : (kd T i == 2) = false := by simpa using k2
  have z10 : (kd T i == 10) = false := by simpa using k10
  have z11 : (kd T i == 11) = false := by simpa using k11
  have z17 : (kd T i == 17) = false := by simpa using k17
  have z12 : (kd T i == 12) = false := by simpa using k12
  have z13 : (kd T i == 13) = false := by simpa using k13
  have z14 : (kd T i == 14) = false := by simpa using k14
  have z1 : (kd T i == 1) = false := by simpa using k1
  clear k2 k10 k11 k17 k12 k13 k14 k1
  go_enter Tryz.func246, Tryz.ntmps246
  go_wp2_with fail
  refine wp_region_text (by kernel_rfl) (by kernel_rfl) ?_
  go_wp2_with fail
  refine ⟨by kernel_rfl, ?_⟩
  generalize hw0 : World.drew _ = w0
  have f0 : Fr (fun _ => False) w w0 := by rw [← hw0]; exact ((Fr.refl _ _).alloc _).drew
  have X0 : Blk w0 w.heap.size 4 (tokCell (tk T i)) := by rw [← hw0]; exact (boxT_blk w (tk T i)).drew
  have P0 := P.same f0
  have GA := G0.trans (.same f0)
  have tne : w.heap.size ≠ s ∧ w.heap.size ≠ tb ∧ ¬ isBlk nv w.heap.size := ⟨by have := P.blt; omega, by have := P.blt; omega, fun h => by have := P.arr.lt h; omega⟩
  clear hw0
  clear r0 r1 r2 r3 r4 b1 b2 q0 q1 q2 q3 i1 i2 hlt hl0
  obtain ⟨t0, t1, t2, t3, t4⟩ := tokX X0
  go_wp2_with fail
  refine (nodeM 0 (ps T i) _).mono ?_
  rintro v w46 ⟨rfl, f46⟩
  have G46 := GA.trans (.same f46)
  unfold ndV
  have P46 := P0.same f46
  have X46 := X0.frame f46 (fun h => h)
  clear t0 t1 t2 t3 t4
  obtain ⟨t0, t1, t2, t3, t4⟩ := tokX X46
  go_wp2_with fail
  have B47 := MP.new P46 (⟨0, -1, -1, -1, -1, 0, ps T i, ⟨#[]⟩⟩)
  have Hn47 : w.heap.size ≤ w46.heap.size := G46.fr.size
  have G47 := G46.alloc (boxN (⟨0, -1, -1, -1, -1, 0, ps T i, ⟨#[]⟩⟩))
  refine (failM B47.P 10 (ps T i)).mono ?_
  rintro v w48 ⟨rfl, P48, g48⟩
  clear t0 t1 t2 t3 t4
  go_wp2_with fail
  go_ret
  exact .dead ⟨_, _, _, _, by decide, P48, C0.out _ (.ret _)⟩ (G47.trans g48)
end
end Go.Proofs.Qxb6500277aGreat
