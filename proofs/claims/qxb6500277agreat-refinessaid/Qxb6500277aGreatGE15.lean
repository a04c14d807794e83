/- The code generator: assign. -/
import Derived.Test.Qxb6500277aGreatGE14
namespace Go.Proofs.Qxb6500277aGreat
open Go Go.RowKit

theorem Nw.move {G : Ge} {w w2 w3 : World} {P : Nat → Prop} {B : Gb} {nb : Nat} {nd : Nd} (h : Nw G w w2 P B nb nd) (k : Fr (fun _ => False) w2 w3) (hx : GX w G.g P G.hd B) : Nw G w w3 P B nb nd :=
  have k2 : Fr (fun _ => False) w w3 := h.fr.trans k (fun _ _ h => h)
  ⟨Em.nil (hx.frame k2 fun _ _ => id), Cv.same h.cv k, h.bk.frame k id, h.np, k2, h.lt⟩
/-- The class of a node's type, by its number in memory. -/
theorem Nw.ty {G : Ge} {w w2 w3 : World} {P : Nat → Prop} {B B' : Gb} {nb : Nat} {nd : Nd} (h : Nw G w w2 P B nb nd) (k : Em w2 P G.g G.hd w3 B') {x : Nat} (hx : x < G.ns.length) : ∃ tb, w3.cell? ⟨G.g, 6, none⟩ = some (.slice (some ⟨tb, 0, none⟩) G.ns.length G.ns.length) ∧ tb < w3.heap.size ∧ w3.cell? ⟨tb, x, none⟩ = some (.int .i64 (tyA G.P0 x)) ∧ G.g < w3.heap.size ∧ G.ns.length ≤ 200 ∧ (x : Int) < G.ns.length := by
  obtain ⟨_, r6, r7, _, _, hgl⟩ := GX.regs k.1
  obtain ⟨tb, t1, t2, t3⟩ := ILV.at (h.c k).an.ht (i := x) (by rw [(h.c k).tl]; exact hx)
  rw [t1, (h.c k).tl] at r6
  exact ⟨tb, r6, t2, t3, hgl, (h.c k).an.nl, by omega⟩
theorem clsO_lt {t : Int} {a b : Nat} (ha : a < 256) (hb : b < 256) : clsO t a b < 256 := by unfold clsO; split <;> omega
section
variable {G : Ge} {w : World} {P : Nat → Prop} {B : Gb} {b : Nat} {ret : Int}
set_option maxRecDepth 100000 in
set_option maxHeartbeats 2000000 in
theorem assign_var (o : G.Ok) (s : ByteArray) (p q : Int) (c : Exp) (ht : TyE c) (h : GX w G.g P G.hd B) (hc : G.Cv w P) (L1 : Lie G.ns b (flE b (-1) (.var s q))) (L2 : Lie G.ns (b + 1) (flE (b + 1) (-1) c)) (W : WtS G.P0 G.li G.lr ret b (.asg p (.var s q) c)) (hl : B.code.length + nE c + 2 ≤ 39000) {nd : Nd} (d1 : nd.a = (b : Nat)) (d2 : nd.b = rtE (b + 1) c) : Calls Tryz.prog 194 #[.pointer (some ⟨G.g, 0, none⟩), ndV nd] w (EmR w G.g P G.hd (addS G.P0 B b (.asg p (.var s q) c))) := by
  have N := Nw.mk' h hc (Fr.refl _ w) nd
  have hN := L1.one
  have hbl : b < G.ns.length := (List.getElem?_eq_some_iff.1 hN).1
  simp only [WtS] at W
  obtain ⟨W1, _, W3⟩ := W
  have hr : rfA G.P0 b < 256 := by
    have h1 := o.li
    have h2 := o.lr
    unfold slotOk at W3
    split at W3 <;> omega
  have Hd : Hid _ := And.intro d1 (And.intro d2 h)
  clear d1 d2 L1 W3
  obtain ⟨ndl, hndl⟩ : ∃ ndl : Nd, ndl = ⟨12, -1, -1, -1, -1, 0, q, s⟩ := ⟨_, rfl⟩
  rw [← hndl] at hN
  have Hndl : Hid _ := hndl
  clear hndl
  go_enter Tryz.func194, Tryz.ntmps194
  unfold ndV
  go_upto_region 1 with fail
  obtain ⟨nb, hnb⟩ : ∃ nb, nb = w.heap.size := ⟨_, rfl⟩
  obtain ⟨w2, hw2⟩ : ∃ w2, w2 = w.alloc (.cells #[.int .i64 nd.kind, .int .i64 nd.a, .int .i64 nd.b, .int .i64 nd.c, .int .i64 nd.nx, .int .i64 nd.val, .int .i64 nd.pos, .string nd.name] 145) := ⟨_, rfl⟩
  rw [← hw2, ← hnb] at N
  rw [← hw2, ← hnb]
  clear hw2 hnb
  have E := N.em
  have m1 : w2.cell? ⟨nb, 1, none⟩ = some (.int .i64 nd.a) := N.bk.cell (by omega)
  rw [Hd.out.1] at m1
  have hnl := N.bk.lt
  have q1 := nodeG E.1 (N.c E) hN
  clear E h
  go_wp2_with fail
  refine q1.mono ?_
  rintro v w1 ⟨rfl, f1⟩
  clear q1 m1 hnl
  have N2 := Nw.mk' Hd.out.2.2 hc (N.fr.trans f1 (fun _ _ h => h)) ndl
  have N1 := N.move (f1.alloc (.cells #[.int .i64 ndl.kind, .int .i64 ndl.a, .int .i64 ndl.b, .int .i64 ndl.c, .int .i64 ndl.nx, .int .i64 ndl.val, .int .i64 ndl.pos, .string ndl.name] 145)) Hd.out.2.2
  clear N f1 hc
  unfold ndV
  go_upto_region 2 with fail
  obtain ⟨lb, hlb⟩ : ∃ lb, lb = w1.heap.size := ⟨_, rfl⟩
  obtain ⟨w3, hw3⟩ : ∃ w3, w3 = w1.alloc (.cells #[.int .i64 ndl.kind, .int .i64 ndl.a, .int .i64 ndl.b, .int .i64 ndl.c, .int .i64 ndl.nx, .int .i64 ndl.val, .int .i64 ndl.pos, .string ndl.name] 145) := ⟨_, rfl⟩
  rw [← hw3, ← hlb] at N2
  rw [← hw3] at N1
  rw [← hw3, ← hlb]
  clear hw3 hlb w1 w2
  have E := N1.em
  have l0 : w3.cell? ⟨lb, 0, none⟩ = some (.int .i64 ndl.kind) := N2.bk.cell (by omega)
  have k0 : ndl.kind = 12 := by rw [Hndl.out]
  rw [k0] at l0
  have hll := N2.bk.lt
  have m2 : w3.cell? ⟨nb, 2, none⟩ = some (.int .i64 nd.b) := N1.bk.cell (by omega)
  rw [Hd.out.2.1] at m2
  have hnl := N1.bk.lt
  have q2 := exprG o c ht E.1 (N1.c E) L2 rfl W1 (by omega)
  go_wp2_with fail
  refine q2.mono ?_
  rintro v w4 ⟨rfl, hE⟩
  have E4 := E.then (e := .returned (.tuple #[])) ⟨rfl, hE⟩
  clear hE q2 l0 m2 hll hnl
  have E5 := E4.same ((Fr.refl _ _).drew)
  obtain ⟨tb, t1, t2, t3, t4, t5, t6⟩ := N1.ty E5 hbl
  have m1 : w4.drew.cell? ⟨nb, 1, none⟩ = some (.int .i64 nd.a) := (N1.b E5).cell (by omega)
  rw [Hd.out.1] at m1
  have hnl : nb < w4.drew.heap.size := (N1.b E5).lt
  have q3 := storeG E5.1 (N1.c E5) hbl (tyA G.P0 b) hr (by rw [addE_len]; omega)
  go_upto_region 4 with fail
  refine wp_region_text (by kernel_rfl) (by kernel_rfl) ?_
  go_wp2_with fail
  refine q3.mono ?_
  rintro v w6 ⟨rfl, hE⟩
  have E6 := E5.then (e := .returned (.tuple #[])) ⟨rfl, hE⟩
  clear hE q3
  go_wp2_with fail
  refine ⟨by kernel_rfl, ?_⟩
  go_wp2_with fail
  refine bodyPost_ret (v := .tuple #[]) (by simp [results, Tryz.results194, go_sem]) rfl ?_
  exact N1.done (by simpa [addS, addE, cS, fxS, szE] using E6)
end
end Go.Proofs.Qxb6500277aGreat
