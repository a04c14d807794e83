/- The model checker: expressions. -/
import Derived.Test.Qxb6500277aGreatMC2
namespace Go.Proofs.Qxb6500277aGreat
open Go Go.RowKit

section
variable {w w' : World} {B : Nat} {A : Ma} {X : Cx} {cur : Nat} {s : Ck} {er po : Int} {fv vv : Value} {n : Nat}
theorem MXc.note (C : MXc w B A X cur s 0 0 fv vv) (x : Nat) (t : Int) : MXc (w.setCell ⟨A.tb, x, none⟩ (.int .i64 t)) B A X cur { s with ty := s.ty.set x t } 0 0 fv vv ∧ Fr (MSc A fv vv) w (w.setCell ⟨A.tb, x, none⟩ (.int .i64 t)) := ⟨C.setTy x t, (Fr.refl (MSc A fv vv) w).setC A.tb x _ (fun _ => .inr (.inl rfl))⟩
theorem MXc.refer (C : MXc w B A X cur s 0 0 fv vv) (x : Nat) (t : Int) : MXc (w.setCell ⟨A.rb, x, none⟩ (.int .i64 t)) B A X cur (Go.Proofs.Qxb6500277aGreat.refer x t s) 0 0 fv vv ∧ Fr (MSc A fv vv) w (w.setCell ⟨A.rb, x, none⟩ (.int .i64 t)) := ⟨C.setRf x t, (Fr.refl (MSc A fv vv) w).setC A.rb x _ (fun _ => .inr (.inr (.inl rfl)))⟩
theorem MXc.new (H : MXc w B A X cur s er po fv vv) : ∀ b, w.heap.size ≤ b → ¬ MSc A fv vv b := fun b hb h => by
  have h1 := H.blk.lt
  have h2 := H.tyb.lt
  have h3 := H.rfb.lt
  rcases h with rfl | rfl | rfl | h | h
  · omega
  · omega
  · omega
  · obtain ⟨n, c, rfl⟩ := h
    rcases H.fs with ⟨e, _⟩ | ⟨b', cap, f, e, _, hb', _⟩
    · cases e
    · injection e with e _ _; injection e with e; injection e with e; subst e; have := hb'.lt; omega
  · obtain ⟨n, c, rfl⟩ := h
    rcases H.vs with ⟨e, _⟩ | ⟨b', cap, f, e, _, hb', _⟩
    · cases e
    · injection e with e _ _; injection e with e; injection e with e; subst e; have := hb'.lt; omega
theorem EMP.pre {w0 : World} {r : Rc Int} {e : Ending} (k : Fr (fun _ => False) w0 w) (h : EMP w B A X cur s fv vv r e w') : EMP w0 B A X cur s fv vv r e w' := ⟨(k.mono (S' := MSc A fv vv) (fun _ _ h => h.elim)).trans h.1 (fun _ _ h => h), h.2⟩
set_option maxRecDepth 100000 in
set_option maxHeartbeats 8000000 in
theorem em_num (H : MXc w B A X cur s 0 0 fv vv) {b : Nat} {nx x : Int} {v p : Int} (L : Lie A.ns b (flE b nx (.num v p))) (hx : x = rtE b (.num v p)) : Calls Tryz.prog 177 #[.pointer (some ⟨A.m, 0, none⟩), .int .i64 x] w (EMP w B A X cur s fv vv (ckE X b (.num v p) s)) := by
  obtain rfl : x = (b : Nat) := by rw [hx]; simp [rtE, szE]
  have hn := L.one
  have HR : Hid (ckE X b (.num v p) s = .ok 0 { s with ty := s.ty.set b 0 }) := by show _ = _; simp only [ckE, Go.Proofs.Qxb6500277aGreat.note]
  obtain ⟨-, r1, r2, r3, r4, r5, r6, r7, r8, r9, r10, hz, hlt, hltt, hltr⟩ := H.regs
  obtain ⟨hk, hnb, r0, n0, n1, n2, n3, n4, n5, n6, n7⟩ := H.node hn
  try simp only at n0 n1 n2 n3 n4 n5 n6 n7
  have ty0 := H.tyb.cell (o := b) hk
  have tyz := H.tyb.frozen
  have rf0 := H.rfb.cell (o := b) hk
  have rfz := H.rfb.frozen
  have h200 := H.le
  have hkl : ((b : Nat) : Int) < A.ns.length := by omega
  have hK0 : ((b : Nat) : Int) ≥ 0 := by omega
  have BX := boxN_blk w ⟨10, -1, -1, -1, nx, v, p, ⟨#[]⟩⟩
  have FX := (Fr.refl (fun _ => False) w).alloc (boxN ⟨10, -1, -1, -1, nx, v, p, ⟨#[]⟩⟩)
  have HA := H.same FX
  have HHA : Hid (MXc (w.alloc (boxN ⟨10, -1, -1, -1, nx, v, p, ⟨#[]⟩⟩)) B A X cur s 0 0 fv vv ∧ Blk (w.alloc (boxN ⟨10, -1, -1, -1, nx, v, p, ⟨#[]⟩⟩)) w.heap.size 8 (ndCell ⟨10, -1, -1, -1, nx, v, p, ⟨#[]⟩⟩) ∧ Fr (fun _ => False) w (w.alloc (boxN ⟨10, -1, -1, -1, nx, v, p, ⟨#[]⟩⟩))) := ⟨HA, BX, FX⟩
  have Hnew : Hid (∀ d, w.heap.size ≤ d → ¬ MSc A fv vv d) := H.new
  clear BX FX HA
  have HN : Hid (MXc ((w.setCell ⟨A.tb, b, none⟩ (.int .i64 0)).alloc (boxN ⟨10, -1, -1, -1, nx, v, p, ⟨#[]⟩⟩)) B A X cur { s with ty := s.ty.set b 0 } 0 0 fv vv ∧ Fr (MSc A fv vv) w ((w.setCell ⟨A.tb, b, none⟩ (.int .i64 0)).alloc (boxN ⟨10, -1, -1, -1, nx, v, p, ⟨#[]⟩⟩))) := ⟨(H.note b 0).1.same ((Fr.refl _ _).alloc _), (H.note b 0).2.alloc _⟩
  clear H L hx hn
  go_enter Tryz.func177, Tryz.ntmps177
  go_wp2_with fail
  go_ret
  exact EMP.ok HR.out HN.out.2 HN.out.1
set_option maxRecDepth 100000 in
set_option maxHeartbeats 8000000 in
theorem em_rd (H : MXc w B A X cur s 0 0 fv vv) {b : Nat} {nx x : Int} {p : Int} (L : Lie A.ns b (flE b nx (.rd p))) (hx : x = rtE b (.rd p)) : Calls Tryz.prog 177 #[.pointer (some ⟨A.m, 0, none⟩), .int .i64 x] w (EMP w B A X cur s fv vv (ckE X b (.rd p) s)) := by
  obtain rfl : x = (b : Nat) := by rw [hx]; simp [rtE, szE]
  have hn := L.one
  have HR : Hid (ckE X b (.rd p) s = .ok 0 { s with ty := s.ty.set b 0 }) := by show _ = _; simp only [ckE, Go.Proofs.Qxb6500277aGreat.note]
  obtain ⟨-, r1, r2, r3, r4, r5, r6, r7, r8, r9, r10, hz, hlt, hltt, hltr⟩ := H.regs
  obtain ⟨hk, hnb, r0, n0, n1, n2, n3, n4, n5, n6, n7⟩ := H.node hn
  try simp only at n0 n1 n2 n3 n4 n5 n6 n7
  have ty0 := H.tyb.cell (o := b) hk
  have tyz := H.tyb.frozen
  have rf0 := H.rfb.cell (o := b) hk
  have rfz := H.rfb.frozen
  have h200 := H.le
  have hkl : ((b : Nat) : Int) < A.ns.length := by omega
  have hK0 : ((b : Nat) : Int) ≥ 0 := by omega
  have BX := boxN_blk w ⟨17, -1, -1, -1, nx, 0, p, ⟨#[]⟩⟩
  have FX := (Fr.refl (fun _ => False) w).alloc (boxN ⟨17, -1, -1, -1, nx, 0, p, ⟨#[]⟩⟩)
  have HA := H.same FX
  have HHA : Hid (MXc (w.alloc (boxN ⟨17, -1, -1, -1, nx, 0, p, ⟨#[]⟩⟩)) B A X cur s 0 0 fv vv ∧ Blk (w.alloc (boxN ⟨17, -1, -1, -1, nx, 0, p, ⟨#[]⟩⟩)) w.heap.size 8 (ndCell ⟨17, -1, -1, -1, nx, 0, p, ⟨#[]⟩⟩) ∧ Fr (fun _ => False) w (w.alloc (boxN ⟨17, -1, -1, -1, nx, 0, p, ⟨#[]⟩⟩))) := ⟨HA, BX, FX⟩
  have Hnew : Hid (∀ d, w.heap.size ≤ d → ¬ MSc A fv vv d) := H.new
  clear BX FX HA
  have HN : Hid (MXc ((w.setCell ⟨A.tb, b, none⟩ (.int .i64 0)).alloc (boxN ⟨17, -1, -1, -1, nx, 0, p, ⟨#[]⟩⟩)) B A X cur { s with ty := s.ty.set b 0 } 0 0 fv vv ∧ Fr (MSc A fv vv) w ((w.setCell ⟨A.tb, b, none⟩ (.int .i64 0)).alloc (boxN ⟨17, -1, -1, -1, nx, 0, p, ⟨#[]⟩⟩))) := ⟨(H.note b 0).1.same ((Fr.refl _ _).alloc _), (H.note b 0).2.alloc _⟩
  clear H L hx hn
  go_enter Tryz.func177, Tryz.ntmps177
  go_wp2_with fail
  go_ret
  exact EMP.ok HR.out HN.out.2 HN.out.1
set_option maxRecDepth 100000 in
set_option maxHeartbeats 8000000 in
theorem em_boo (H : MXc w B A X cur s 0 0 fv vv) {b : Nat} {nx x : Int} {v p : Int} (L : Lie A.ns b (flE b nx (.boo v p))) (hx : x = rtE b (.boo v p)) : Calls Tryz.prog 177 #[.pointer (some ⟨A.m, 0, none⟩), .int .i64 x] w (EMP w B A X cur s fv vv (ckE X b (.boo v p) s)) := by
  obtain rfl : x = (b : Nat) := by rw [hx]; simp [rtE, szE]
  have hn := L.one
  have HR : Hid (ckE X b (.boo v p) s = .ok 1 { s with ty := s.ty.set b 1 }) := by show _ = _; simp only [ckE, Go.Proofs.Qxb6500277aGreat.note]
  obtain ⟨-, r1, r2, r3, r4, r5, r6, r7, r8, r9, r10, hz, hlt, hltt, hltr⟩ := H.regs
  obtain ⟨hk, hnb, r0, n0, n1, n2, n3, n4, n5, n6, n7⟩ := H.node hn
  try simp only at n0 n1 n2 n3 n4 n5 n6 n7
  have ty0 := H.tyb.cell (o := b) hk
  have tyz := H.tyb.frozen
  have rf0 := H.rfb.cell (o := b) hk
  have rfz := H.rfb.frozen
  have h200 := H.le
  have hkl : ((b : Nat) : Int) < A.ns.length := by omega
  have hK0 : ((b : Nat) : Int) ≥ 0 := by omega
  have BX := boxN_blk w ⟨11, -1, -1, -1, nx, v, p, ⟨#[]⟩⟩
  have FX := (Fr.refl (fun _ => False) w).alloc (boxN ⟨11, -1, -1, -1, nx, v, p, ⟨#[]⟩⟩)
  have HA := H.same FX
  have HHA : Hid (MXc (w.alloc (boxN ⟨11, -1, -1, -1, nx, v, p, ⟨#[]⟩⟩)) B A X cur s 0 0 fv vv ∧ Blk (w.alloc (boxN ⟨11, -1, -1, -1, nx, v, p, ⟨#[]⟩⟩)) w.heap.size 8 (ndCell ⟨11, -1, -1, -1, nx, v, p, ⟨#[]⟩⟩) ∧ Fr (fun _ => False) w (w.alloc (boxN ⟨11, -1, -1, -1, nx, v, p, ⟨#[]⟩⟩))) := ⟨HA, BX, FX⟩
  have Hnew : Hid (∀ d, w.heap.size ≤ d → ¬ MSc A fv vv d) := H.new
  clear BX FX HA
  have HN : Hid (MXc ((w.setCell ⟨A.tb, b, none⟩ (.int .i64 1)).alloc (boxN ⟨11, -1, -1, -1, nx, v, p, ⟨#[]⟩⟩)) B A X cur { s with ty := s.ty.set b 1 } 0 0 fv vv ∧ Fr (MSc A fv vv) w ((w.setCell ⟨A.tb, b, none⟩ (.int .i64 1)).alloc (boxN ⟨11, -1, -1, -1, nx, v, p, ⟨#[]⟩⟩))) := ⟨(H.note b 1).1.same ((Fr.refl _ _).alloc _), (H.note b 1).2.alloc _⟩
  clear H L hx hn
  go_enter Tryz.func177, Tryz.ntmps177
  go_wp2_with fail
  go_ret
  exact EMP.ok HR.out HN.out.2 HN.out.1
end
end Go.Proofs.Qxb6500277aGreat
