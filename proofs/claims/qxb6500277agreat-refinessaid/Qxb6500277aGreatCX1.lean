/- The real checker: expressions. -/
import Derived.Test.Qxb6500277aGreatCW9
import Derived.Test.Qxb6500277aGreatCW8
namespace Go.Proofs.Qxb6500277aGreat
open Go Go.RowKit

section
variable {w w' : World} {A : Ca} {X : Cx} {cur : Nat} {s : Ck} {er po : Int}
/-- A call without the note of its type. -/
def callR (X : Cx) (b : Nat) (nm : ByteArray) (p : Int) (gs : Exps) (s : Ck) : Rc Int := match fndF nm X.fs with
  | none => .bad 16 p
  | some f => (ckEs X b gs s).bind fun ts s => if ts.length ≠ (pAt X.pt f).length then .bad 18 p else match oddA ts (pAt X.pt f) with
    | some q => .bad 17 q
    | none => .ok (fAt X.fs f).ret (refer (b + szEs gs) f s)
theorem ckE_call (b : Nat) (nm : ByteArray) (p : Int) (gs : Exps) (s : Ck) : ckE X b (.call nm p gs) s = (callR X b nm p gs s).bind fun t s => note (b + szEs gs) t s := by
  simp only [ckE, callR]
  cases fndF nm X.fs with
  | none => rfl
  | some f =>
    simp only []
    rw [Rc.bind_assoc]
    congr 1
    funext ts s
    unfold callT
    split
    · rfl
    · cases oddA ts (pAt X.pt f) <;> rfl
def binT (X : Cx) (b : Nat) (k : Int) (l r : Exp) (s : Ck) : Rc Int :=
  if k = 26 ∨ k = 27 then (ckE X b l s).bind fun t s => if 2 ≤ t then .bad 17 (poE l) else (wantE X (b + szE l) r t s).bind fun _ s => .ok 1 s
  else (wantE X b l (sideT k) s).bind fun _ s => (wantE X (b + szE l) r (sideT k) s).bind fun _ s => .ok (givesT k) s
theorem ckE_bin (b : Nat) (k p : Int) (l r : Exp) (s : Ck) : ckE X b (.bin k p l r) s = (binT X b k l r s).bind fun t s => note (b + szE l + szE r) t s := by
  simp only [ckE, binT, wantE]
  split
  · rw [Rc.bind_assoc]
    congr 1
    funext t s
    split
    · rfl
    · simp only [Rc.bind_assoc]; rfl
  · simp only [Rc.bind_assoc]; rfl
theorem ckE_idx (b : Nat) (p : Int) (a c : Exp) (s : Ck) : ckE X b (.idx p a c) s = (ckE X b a s).bind fun t s => if t < 2 then .bad 17 p else (wantE X (b + szE a) c 0 s).bind fun _ s => note (b + szE a + szE c) (t - 2) s := by
  simp only [ckE, wantE, Rc.bind_assoc]
theorem ckE_new (b : Nat) (t p : Int) (e : Exp) (s : Ck) : ckE X b (.new t p e) s = if t < 2 then .bad 17 p else (wantE X b e 0 s).bind fun _ s => note (b + szE e) t s := by
  simp only [ckE, wantE, Rc.bind_assoc]
theorem ckE_un (b : Nat) (k p : Int) (e : Exp) (s : Ck) : ckE X b (.un k p e) s = (wantE X b e (unT k) s).bind fun _ s => note (b + szE e) (unT k) s := by
  simp only [ckE, wantE, Rc.bind_assoc]
theorem EP.bad {r : Rc Int} {e p : Int} (hr : r = .bad e p) (k : Fr (CS A) w w') (h0 : e ≠ 0) {s' : Ck} (C : CM w' A X cur s' e p) : EP w A X cur r (.returned (.int .i64 (-1))) w' := ⟨k, by rw [hr]; exact ⟨rfl, h0, s', C⟩⟩
theorem EP.ok {r : Rc Int} {t : Int} {s' : Ck} (hr : r = .ok t s') (k : Fr (CS A) w w') (C : CM w' A X cur s' 0 0) : EP w A X cur r (.returned (.int .i64 t)) w' := ⟨k, by rw [hr]; exact ⟨rfl, C⟩⟩
theorem CM.note (C : CM w A X cur s 0 0) (x : Nat) (t : Int) : CM (w.setCell ⟨A.tb, x, none⟩ (.int .i64 t)) A X cur { s with ty := s.ty.set x t } 0 0 ∧ Fr (CS A) w (w.setCell ⟨A.tb, x, none⟩ (.int .i64 t)) := ⟨C.setTy x t, (Fr.refl (CS A) w).setC A.tb x _ (fun _ => .inr (.inl rfl))⟩
theorem CM.refer (C : CM w A X cur s 0 0) (x : Nat) (t : Int) : CM (w.setCell ⟨A.rb, x, none⟩ (.int .i64 t)) A X cur (Go.Proofs.Qxb6500277aGreat.refer x t s) 0 0 ∧ Fr (CS A) w (w.setCell ⟨A.rb, x, none⟩ (.int .i64 t)) := ⟨C.setRf x t, (Fr.refl (CS A) w).setC A.rb x _ (fun _ => .inr (.inr rfl))⟩
set_option maxRecDepth 100000 in
set_option maxHeartbeats 8000000 in
theorem ex_num (H : CM w A X cur s 0 0) {b : Nat} {nx x : Int} {v p : Int} (L : Lie A.ns b (flE b nx (.num v p))) (hx : x = rtE b (.num v p)) : Calls Tryz.prog 191 #[.pointer (some ⟨A.c, 0, none⟩), .int .i64 x] w (EP w A X cur (ckE X b (.num v p) s)) := by
  obtain rfl : x = (b : Nat) := by rw [hx]; simp [rtE, szE]
  have hn := L.one
  have HR : Hid (ckE X b (.num v p) s = .ok 0 { s with ty := s.ty.set b 0 }) := by show _ = _; simp only [ckE, note]
  obtain ⟨hk, hnb, r415, n0, n1, n2, n3, n4, n5, n6, n7, n8⟩ := H.node hn
  try simp only at n0 n1 n2 n3 n4 n5 n6 n7 n8
  obtain ⟨r0, r161, r162, r163, r164, r325, r414, r416, r417, r418, r419, hz⟩ := H.regs
  obtain ⟨hlt, hlt2, hlt3⟩ := H.blt
  have ty0 := H.tyb.cell (o := b) hk
  have tyz := H.tyb.frozen
  have rf0 := H.rfb.cell (o := b) hk
  have rfz := H.rfb.frozen
  have h200 := H.le
  have hkl : ((b : Nat) : Int) < A.ns.length := by omega
  have hK0 : ((b : Nat) : Int) ≥ 0 := by omega
  have HN : Hid _ := H.note b 0
  clear H L hx hn
  go_enter Tryz.func191, Tryz.ntmps191
  go_wp2_with fail
  go_ret
  exact EP.ok HR.out HN.out.2 HN.out.1
set_option maxRecDepth 100000 in
set_option maxHeartbeats 8000000 in
theorem ex_rd (H : CM w A X cur s 0 0) {b : Nat} {nx x : Int} {p : Int} (L : Lie A.ns b (flE b nx (.rd p))) (hx : x = rtE b (.rd p)) : Calls Tryz.prog 191 #[.pointer (some ⟨A.c, 0, none⟩), .int .i64 x] w (EP w A X cur (ckE X b (.rd p) s)) := by
  obtain rfl : x = (b : Nat) := by rw [hx]; simp [rtE, szE]
  have hn := L.one
  have HR : Hid (ckE X b (.rd p) s = .ok 0 { s with ty := s.ty.set b 0 }) := by show _ = _; simp only [ckE, note]
  obtain ⟨hk, hnb, r415, n0, n1, n2, n3, n4, n5, n6, n7, n8⟩ := H.node hn
  try simp only at n0 n1 n2 n3 n4 n5 n6 n7 n8
  obtain ⟨r0, r161, r162, r163, r164, r325, r414, r416, r417, r418, r419, hz⟩ := H.regs
  obtain ⟨hlt, hlt2, hlt3⟩ := H.blt
  have ty0 := H.tyb.cell (o := b) hk
  have tyz := H.tyb.frozen
  have rf0 := H.rfb.cell (o := b) hk
  have rfz := H.rfb.frozen
  have h200 := H.le
  have hkl : ((b : Nat) : Int) < A.ns.length := by omega
  have hK0 : ((b : Nat) : Int) ≥ 0 := by omega
  have HN : Hid _ := H.note b 0
  clear H L hx hn
  go_enter Tryz.func191, Tryz.ntmps191
  go_wp2_with fail
  go_ret
  exact EP.ok HR.out HN.out.2 HN.out.1
set_option maxRecDepth 100000 in
set_option maxHeartbeats 8000000 in
theorem ex_boo (H : CM w A X cur s 0 0) {b : Nat} {nx x : Int} {v p : Int} (L : Lie A.ns b (flE b nx (.boo v p))) (hx : x = rtE b (.boo v p)) : Calls Tryz.prog 191 #[.pointer (some ⟨A.c, 0, none⟩), .int .i64 x] w (EP w A X cur (ckE X b (.boo v p) s)) := by
  obtain rfl : x = (b : Nat) := by rw [hx]; simp [rtE, szE]
  have hn := L.one
  have HR : Hid (ckE X b (.boo v p) s = .ok 1 { s with ty := s.ty.set b 1 }) := by show _ = _; simp only [ckE, note]
  obtain ⟨hk, hnb, r415, n0, n1, n2, n3, n4, n5, n6, n7, n8⟩ := H.node hn
  try simp only at n0 n1 n2 n3 n4 n5 n6 n7 n8
  obtain ⟨r0, r161, r162, r163, r164, r325, r414, r416, r417, r418, r419, hz⟩ := H.regs
  obtain ⟨hlt, hlt2, hlt3⟩ := H.blt
  have ty0 := H.tyb.cell (o := b) hk
  have tyz := H.tyb.frozen
  have rf0 := H.rfb.cell (o := b) hk
  have rfz := H.rfb.frozen
  have h200 := H.le
  have hkl : ((b : Nat) : Int) < A.ns.length := by omega
  have hK0 : ((b : Nat) : Int) ≥ 0 := by omega
  have HN : Hid _ := H.note b 1
  clear H L hx hn
  go_enter Tryz.func191, Tryz.ntmps191
  go_wp2_with fail
  go_ret
  exact EP.ok HR.out HN.out.2 HN.out.1
set_option maxRecDepth 100000 in
set_option maxHeartbeats 8000000 in
theorem ex_var (H : CM w A X cur s 0 0) {b : Nat} {nx x : Int} {nm : ByteArray} {p : Int} (L : Lie A.ns b (flE b nx (.var nm p))) (hx : x = rtE b (.var nm p)) : Calls Tryz.prog 191 #[.pointer (some ⟨A.c, 0, none⟩), .int .i64 x] w (EP w A X cur (ckE X b (.var nm p) s)) := by
  obtain rfl : x = (b : Nat) := by rw [hx]; simp [rtE, szE]
  have hn := L.one
  have hr : ckE X b (.var nm p) s = match fndV nm s.vs with | none => .bad 15 p | some i => note b (vAt s.vs i).ty (refer b (vAt s.vs i).slot s) := by
    simp only [ckE]
    cases fndV nm s.vs <;> rfl
  obtain ⟨hk, hnb, r415, n0, n1, n2, n3, n4, n5, n6, n7, n8⟩ := H.node hn
  try simp only at n0 n1 n2 n3 n4 n5 n6 n7 n8
  obtain ⟨r0, r161, r162, r163, r164, r325, r414, r416, r417, r418, r419, hz⟩ := H.regs
  obtain ⟨hlt, hlt2, hlt3⟩ := H.blt
  have ty0 := H.tyb.cell (o := b) hk
  have tyz := H.tyb.frozen
  have rf0 := H.rfb.cell (o := b) hk
  have rfz := H.rfb.frozen
  have h200 := H.le
  have hkl : ((b : Nat) : Int) < A.ns.length := by omega
  have hK0 : ((b : Nat) : Int) ≥ 0 := by omega
  have hF := fun n => (H.drewN n).find n8
  have go : ∀ {w1 : World} (m : Nat), w1 = w.drewN m → CM w1 A X cur s 0 0 := fun m e => e ▸ H.drewN m
  have hfd : ∀ {w1 : World} (m : Nat), w1 = w.drewN m → Fr (CS A) w w1 := fun m e => e ▸ CS_drewN m
  have Hv : Hid (∀ e, fndV nm s.vs = some e → e < s.vs.length) := fun e h => (lst_some h).1
  have Hl24 : Hid (s.vs.length ≤ 24) := by obtain ⟨f, b1, b2, _⟩ := H.blk; exact b2.tv.le
  have Hty : Hid (∀ i, 0 ≤ (vAt s.vs i).ty ∧ (vAt s.vs i).ty < 8) := H.good.vt
  have HH : Hid (CM w A X cur s 0 0) := H
  clear H L hx
  go_enter Tryz.func191, Tryz.ntmps191
  go_wp2_with fail
  go_quiet (first | (go_at_call 67; refine Calls.quiet_of (hF _)))
  cases hf : fndV nm s.vs with
  | none =>
    rw [hf] at hr
    have HR : Hid (_ = _) := hr
    rw [show oi none = -1 from rfl]
    clear hF hr hf
    go_wp2_with fail
    generalize hw0 : w.drewN _ = w0
    have C := go _ hw0.symm
    have F0 := hfd _ hw0.symm
    refine (noneC C 15 p).mono ?_
    rintro v w3 ⟨rfl, C3, k3⟩
    go_wp2_with fail
    go_ret
    exact EP.bad HR.out (F0.trans k3 (fun _ _ h => h)) (by decide) C3
  | some e =>
    rw [hf] at hr
    have HR : Hid (_ = _) := hr
    have he := Hv.out e hf
    have he24 : e < 24 := by have := Hl24.out; omega
    have z1 : decide ((e : Int) < 0) = false := decide_eq_false (by omega)
    obtain ⟨t0, t8⟩ := Hty.out e
    have z2 : decide ((vAt s.vs e).ty ≥ 0) = true := decide_eq_true t0
    rw [show oi (some e) = (e : Int) from rfl]
    clear hF hr hf
    have C := HH.out
    obtain ⟨v0, v1, v2, v3⟩ := C.var he
    have HN : Hid (∀ (w1 : World), CM w1 A X cur s 0 0 → Fr (CS A) w w1 → CM ((w1.setCell ⟨A.rb, b, none⟩ (.int .i64 (vAt s.vs e).slot)).setCell ⟨A.tb, b, none⟩ (.int .i64 (vAt s.vs e).ty)) A X cur { refer b (vAt s.vs e).slot s with ty := s.ty.set b (vAt s.vs e).ty } 0 0 ∧ Fr (CS A) w ((w1.setCell ⟨A.rb, b, none⟩ (.int .i64 (vAt s.vs e).slot)).setCell ⟨A.tb, b, none⟩ (.int .i64 (vAt s.vs e).ty))) := fun w1 C1 F1 =>
      ⟨((C1.refer b _).1.note b _).1, (F1.trans (C1.refer b _).2 (fun _ _ h => h)).trans ((C1.refer b _).1.note b _).2 (fun _ _ h => h)⟩
    obtain ⟨d1, d2, d3, d4, d5, d6⟩ := C.dis
    clear C go hfd
    go_wp2_with fail
    refine wp_region_text (by kernel_rfl) (by kernel_rfl) ?_
    go_wp2_with fail
    refine ⟨by kernel_rfl, ?_⟩
    go_wp2_with fail
    go_ret
    exact EP.ok HR.out (HN.out _ (HH.out.drewN _) (CS_drewN _)).2 (HN.out _ (HH.out.drewN _) (CS_drewN _)).1
end
end Go.Proofs.Qxb6500277aGreat
