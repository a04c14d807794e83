/- The model checker: statements. -/
import Derived.Test.Qxb6500277aGreatMD4
import Derived.Test.Qxb6500277aGreatCS2
namespace Go.Proofs.Qxb6500277aGreat
open Go Go.RowKit

section
variable {w w' : World} {B : Nat} {A : Ma} {X : Cx} {cur : Nat} {s : Ck} {er po : Int} {fv vv : Value} {n : Nat}
theorem SMP.pre {w0 : World} {r : Rc Unit} {e : Ending} (k : Fr (fun _ => False) w0 w) (h : SMP w B A X cur s fv vv r e w') : SMP w0 B A X cur s fv vv r e w' := by
  obtain ⟨h1, h2, vv', h3, h4⟩ := h
  exact ⟨h1, (k.mono (S' := MSc A fv vv) (fun _ _ h => h.elim)).trans h2 (fun _ _ h => h), vv', fun b hb => (h3 b hb).imp id (fun h => Nat.le_trans k.size h), h4⟩
theorem selfB : ∀ b, isBlk vv b → isBlk vv b ∨ w.heap.size ≤ b := fun _ h => .inl h
set_option maxRecDepth 100000 in
set_option maxHeartbeats 8000000 in
theorem sm_prt (hPC : PCh X A.ns) (H : MXc w B A X cur s 0 0 fv vv) {b : Nat} {nx x : Int} {p : Int} {e : Exp} (te : TyE e) (L : Lie A.ns b (flS b nx (.prt p e))) (hx : x = rtS b (.prt p e)) : Calls Tryz.prog 132 #[.pointer (some ⟨A.m, 0, none⟩), .int .i64 x] w (SMP w B A X cur s fv vv (ckS X cur b (.prt p e) s)) := by
  obtain ⟨K, hK⟩ : ∃ K, K = b + szE e := ⟨_, rfl⟩
  obtain rfl : x = ((K : Nat) : Int) := by rw [hx, hK]; simp [rtS, szS]; try omega
  obtain ⟨L1, hn⟩ := Lie.un (by simpa only [flS] using L)
  rw [← hK] at hn
  have hr := (show ckS X cur b (.prt p e) s = wantE X b e 0 s by simp only [ckS])
  try rw [← hK] at hr
  have Hr : Hid (_ = _) := hr
  obtain ⟨-, r1, r2, r3, r4, r5, r6, r7, r8, r9, r10, hz, hlt, hltt, hltr⟩ := H.regs
  obtain ⟨hk, hnb, r0, n0, n1, n2, n3, n4, n5, n6, n7⟩ := H.node hn
  try simp only at n0 n1 n2 n3 n4 n5 n6 n7
  have ty0 := H.tyb.cell (o := K) hk
  have tyz := H.tyb.frozen
  have rf0 := H.rfb.cell (o := K) hk
  have rfz := H.rfb.frozen
  have h200 := H.le
  have hkl : ((K : Nat) : Int) < A.ns.length := by omega
  have hK0 : ((K : Nat) : Int) ≥ 0 := by omega
  have BX := boxN_blk w ⟨8, rtE b e, -1, -1, nx, 0, p, ⟨#[]⟩⟩
  have FX := (Fr.refl (fun _ => False) w).alloc (boxN ⟨8, rtE b e, -1, -1, nx, 0, p, ⟨#[]⟩⟩)
  have HA := H.same FX
  have HHA : Hid (MXc (w.alloc (boxN ⟨8, rtE b e, -1, -1, nx, 0, p, ⟨#[]⟩⟩)) B A X cur s 0 0 fv vv ∧ Blk (w.alloc (boxN ⟨8, rtE b e, -1, -1, nx, 0, p, ⟨#[]⟩⟩)) w.heap.size 8 (ndCell ⟨8, rtE b e, -1, -1, nx, 0, p, ⟨#[]⟩⟩) ∧ Fr (fun _ => False) w (w.alloc (boxN ⟨8, rtE b e, -1, -1, nx, 0, p, ⟨#[]⟩⟩))) := ⟨HA, BX, FX⟩
  have Hnew : Hid (∀ d, w.heap.size ≤ d → ¬ MSc A fv vv d) := H.new
  clear BX FX HA
  have HK : Hid _ := hK
  clear hr L hx hK
  have hW := isMA hPC e te HHA.out.1 L1 rfl (0)
  clear H
  go_enter Tryz.func132, Tryz.ntmps132
  go_wp2_with fail
  refine hW.mono ?_
  rintro v w1 ⟨k1, rfl, h⟩
  clear hW
  go_wp2_with fail
  go_end0
  refine SMP.pre HHA.out.2.2 ?_
  cases hq : wantE X b e 0 s with
  | bad er po =>
    rw [hq] at h
    obtain ⟨h0, s', C1, kp⟩ := h
    exact SMP.bad (by rw [Hr.out, hq]) k1 h0 selfB C1 kp.ext
  | ok u s1 =>
    rw [hq] at h
    exact SMP.ok (u := ()) (by rw [Hr.out, hq]) k1 selfB h
set_option maxRecDepth 100000 in
set_option maxHeartbeats 8000000 in
theorem sm_exp (hPC : PCh X A.ns) (H : MXc w B A X cur s 0 0 fv vv) {b : Nat} {nx x : Int} {e : Exp} (te : TyE e) (L : Lie A.ns b (flS b nx (.exp e))) (hx : x = rtS b (.exp e)) : Calls Tryz.prog 132 #[.pointer (some ⟨A.m, 0, none⟩), .int .i64 x] w (SMP w B A X cur s fv vv (ckS X cur b (.exp e) s)) := by
  obtain ⟨K, hK⟩ : ∃ K, K = b + szE e := ⟨_, rfl⟩
  obtain rfl : x = ((K : Nat) : Int) := by rw [hx, hK]; simp [rtS, szS]; try omega
  obtain ⟨L1, hn⟩ := Lie.un (by simpa only [flS] using L)
  rw [← hK] at hn
  have hr := (show ckS X cur b (.exp e) s = (ckE X b e s).bind fun _ s => .ok () s by simp only [ckS])
  try rw [← hK] at hr
  have Hr : Hid (_ = _) := hr
  obtain ⟨-, r1, r2, r3, r4, r5, r6, r7, r8, r9, r10, hz, hlt, hltt, hltr⟩ := H.regs
  obtain ⟨hk, hnb, r0, n0, n1, n2, n3, n4, n5, n6, n7⟩ := H.node hn
  try simp only at n0 n1 n2 n3 n4 n5 n6 n7
  have ty0 := H.tyb.cell (o := K) hk
  have tyz := H.tyb.frozen
  have rf0 := H.rfb.cell (o := K) hk
  have rfz := H.rfb.frozen
  have h200 := H.le
  have hkl : ((K : Nat) : Int) < A.ns.length := by omega
  have hK0 : ((K : Nat) : Int) ≥ 0 := by omega
  have BX := boxN_blk w ⟨9, rtE b e, -1, -1, nx, 0, poE e, ⟨#[]⟩⟩
  have FX := (Fr.refl (fun _ => False) w).alloc (boxN ⟨9, rtE b e, -1, -1, nx, 0, poE e, ⟨#[]⟩⟩)
  have HA := H.same FX
  have HHA : Hid (MXc (w.alloc (boxN ⟨9, rtE b e, -1, -1, nx, 0, poE e, ⟨#[]⟩⟩)) B A X cur s 0 0 fv vv ∧ Blk (w.alloc (boxN ⟨9, rtE b e, -1, -1, nx, 0, poE e, ⟨#[]⟩⟩)) w.heap.size 8 (ndCell ⟨9, rtE b e, -1, -1, nx, 0, poE e, ⟨#[]⟩⟩) ∧ Fr (fun _ => False) w (w.alloc (boxN ⟨9, rtE b e, -1, -1, nx, 0, poE e, ⟨#[]⟩⟩))) := ⟨HA, BX, FX⟩
  have Hnew : Hid (∀ d, w.heap.size ≤ d → ¬ MSc A fv vv d) := H.new
  clear BX FX HA
  have HK : Hid _ := hK
  clear hr L hx hK
  have hW := exMA hPC e te HHA.out.1 L1 rfl
  clear H
  go_enter Tryz.func132, Tryz.ntmps132
  go_wp2_with fail
  refine hW.mono ?_
  rintro v w1 ⟨k1, h⟩
  clear hW
  cases hq : ckE X b e s with
  | bad er po =>
    rw [hq] at h
    obtain ⟨rfl, h0, s', C1, kp⟩ := h
    have HQ : Hid (_ = _) := hq
    clear hq
    go_wp2_with fail
    go_end0
    exact (SMP.bad (by rw [Hr.out, HQ.out]; rfl) k1 h0 selfB C1 kp.ext).pre HHA.out.2.2
  | ok u s1 =>
    rw [hq] at h
    obtain ⟨rfl, C1⟩ := h
    have HQ : Hid (_ = _) := hq
    clear hq
    go_wp2_with fail
    go_end0
    exact (SMP.ok (u := ()) (by rw [Hr.out, HQ.out]; rfl) k1 selfB C1).pre HHA.out.2.2
set_option maxRecDepth 100000 in
set_option maxHeartbeats 8000000 in
theorem sm_ret (hPC : PCh X A.ns) (H : MXc w B A X cur s 0 0 fv vv) {b : Nat} {nx x : Int} {p : Int} {e : Exp} (te : TyE e) (hc : cur < X.fs.length) (L : Lie A.ns b (flS b nx (.ret p e))) (hx : x = rtS b (.ret p e)) : Calls Tryz.prog 132 #[.pointer (some ⟨A.m, 0, none⟩), .int .i64 x] w (SMP w B A X cur s fv vv (ckS X cur b (.ret p e) s)) := by
  obtain ⟨K, hK⟩ : ∃ K, K = b + szE e := ⟨_, rfl⟩
  obtain rfl : x = ((K : Nat) : Int) := by rw [hx, hK]; simp [rtS, szS]; try omega
  obtain ⟨L1, hn⟩ := Lie.un (by simpa only [flS] using L)
  rw [← hK] at hn
  have hr := (show ckS X cur b (.ret p e) s = wantE X b e (fAt X.fs cur).ret s by simp only [ckS])
  try rw [← hK] at hr
  have Hr : Hid (_ = _) := hr
  obtain ⟨-, r1, r2, r3, r4, r5, r6, r7, r8, r9, r10, hz, hlt, hltt, hltr⟩ := H.regs
  obtain ⟨hk, hnb, r0, n0, n1, n2, n3, n4, n5, n6, n7⟩ := H.node hn
  try simp only at n0 n1 n2 n3 n4 n5 n6 n7
  have ty0 := H.tyb.cell (o := K) hk
  have tyz := H.tyb.frozen
  have rf0 := H.rfb.cell (o := K) hk
  have rfz := H.rfb.frozen
  have h200 := H.le
  have hkl : ((K : Nat) : Int) < A.ns.length := by omega
  have hK0 : ((K : Nat) : Int) ≥ 0 := by omega
  have BX := boxN_blk w ⟨7, rtE b e, -1, -1, nx, 0, p, ⟨#[]⟩⟩
  have FX := (Fr.refl (fun _ => False) w).alloc (boxN ⟨7, rtE b e, -1, -1, nx, 0, p, ⟨#[]⟩⟩)
  have HA := H.same FX
  have HHA : Hid (MXc (w.alloc (boxN ⟨7, rtE b e, -1, -1, nx, 0, p, ⟨#[]⟩⟩)) B A X cur s 0 0 fv vv ∧ Blk (w.alloc (boxN ⟨7, rtE b e, -1, -1, nx, 0, p, ⟨#[]⟩⟩)) w.heap.size 8 (ndCell ⟨7, rtE b e, -1, -1, nx, 0, p, ⟨#[]⟩⟩) ∧ Fr (fun _ => False) w (w.alloc (boxN ⟨7, rtE b e, -1, -1, nx, 0, p, ⟨#[]⟩⟩))) := ⟨HA, BX, FX⟩
  have Hnew : Hid (∀ d, w.heap.size ≤ d → ¬ MSc A fv vv d) := H.new
  clear BX FX HA
  have HK : Hid _ := hK
  clear hr L hx hK
  obtain ⟨fb, cap, efv, hfb, ibf, c0, c1, c2, c3, c4, c5, c6, cz⟩ := H.func hc
  rw [efv] at r3
  have hx8 := H.xok.le
  have hc8 : cur < 8 := by omega
  have hci : (cur : Int) < (X.fs.length : Nat) := by omega
  have hW := isMA hPC e te (HHA.out.1.same ((Fr.refl _ _).drew)) L1 rfl ((fAt X.fs cur).ret)
  have HEF : Hid _ := efv
  clear H efv ibf
  go_enter Tryz.func132, Tryz.ntmps132
  go_wp2_with fail
  refine wp_region_text (by kernel_rfl) (by kernel_rfl) ?_
  go_wp2_with fail
  refine hW.mono ?_
  rintro v w1 ⟨k1, rfl, h⟩
  clear hW
  go_wp2_with fail
  refine ⟨by kernel_rfl, ?_⟩
  go_wp2_with fail
  go_end0
  refine SMP.pre HHA.out.2.2.drew ?_
  cases hq : wantE X b e (fAt X.fs cur).ret s with
  | bad er po =>
    rw [hq] at h
    obtain ⟨h0, s', C1, kp⟩ := h
    exact SMP.bad (by rw [Hr.out, hq]) k1 h0 selfB C1 kp.ext
  | ok u s1 =>
    rw [hq] at h
    exact SMP.ok (u := ()) (by rw [Hr.out, hq]) k1 selfB h
set_option maxRecDepth 100000 in
set_option maxHeartbeats 8000000 in
theorem sm_asg (hPC : PCh X A.ns) (H : MXc w B A X cur s 0 0 fv vv) {b : Nat} {nx x : Int} {p : Int} {a c : Exp} (ta : TyE a) (tc : TyE c) (L : Lie A.ns b (flS b nx (.asg p a c))) (hx : x = rtS b (.asg p a c)) : Calls Tryz.prog 132 #[.pointer (some ⟨A.m, 0, none⟩), .int .i64 x] w (SMP w B A X cur s fv vv (ckS X cur b (.asg p a c) s)) := by
  obtain ⟨K, hK⟩ : ∃ K, K = b + szE a + szE c := ⟨_, rfl⟩
  obtain rfl : x = ((K : Nat) : Int) := by rw [hx, hK]; simp [rtS, szS]; try omega
  obtain ⟨L1, L2, hn⟩ := Lie.two (by simpa only [flS] using L)
  rw [← hK] at hn
  have hr := (show ckS X cur b (.asg p a c) s = (ckE X b a s).bind fun t s => wantE X (b + szE a) c t s by simp only [ckS])
  try rw [← hK] at hr
  have Hr : Hid (_ = _) := hr
  obtain ⟨-, r1, r2, r3, r4, r5, r6, r7, r8, r9, r10, hz, hlt, hltt, hltr⟩ := H.regs
  obtain ⟨hk, hnb, r0, n0, n1, n2, n3, n4, n5, n6, n7⟩ := H.node hn
  try simp only at n0 n1 n2 n3 n4 n5 n6 n7
  have ty0 := H.tyb.cell (o := K) hk
  have tyz := H.tyb.frozen
  have rf0 := H.rfb.cell (o := K) hk
  have rfz := H.rfb.frozen
  have h200 := H.le
  have hkl : ((K : Nat) : Int) < A.ns.length := by omega
  have hK0 : ((K : Nat) : Int) ≥ 0 := by omega
  have BX := boxN_blk w ⟨4, rtE b a, rtE (b + szE a) c, -1, nx, 0, p, ⟨#[]⟩⟩
  have FX := (Fr.refl (fun _ => False) w).alloc (boxN ⟨4, rtE b a, rtE (b + szE a) c, -1, nx, 0, p, ⟨#[]⟩⟩)
  have HA := H.same FX
  have HHA : Hid (MXc (w.alloc (boxN ⟨4, rtE b a, rtE (b + szE a) c, -1, nx, 0, p, ⟨#[]⟩⟩)) B A X cur s 0 0 fv vv ∧ Blk (w.alloc (boxN ⟨4, rtE b a, rtE (b + szE a) c, -1, nx, 0, p, ⟨#[]⟩⟩)) w.heap.size 8 (ndCell ⟨4, rtE b a, rtE (b + szE a) c, -1, nx, 0, p, ⟨#[]⟩⟩) ∧ Fr (fun _ => False) w (w.alloc (boxN ⟨4, rtE b a, rtE (b + szE a) c, -1, nx, 0, p, ⟨#[]⟩⟩))) := ⟨HA, BX, FX⟩
  have Hnew : Hid (∀ d, w.heap.size ≤ d → ¬ MSc A fv vv d) := H.new
  clear BX FX HA
  have HK : Hid _ := hK
  clear hr L hx hK
  have hW := exMA hPC a ta HHA.out.1 L1 rfl
  have hkeep := keepE X a b s
  clear H
  go_enter Tryz.func132, Tryz.ntmps132
  go_wp2_with fail
  refine hW.mono ?_
  rintro v w1 ⟨k1, h⟩
  clear hW
  clear r1 r2 r3 r4 r5 r6 r7 r8 r9 r10 hz hlt hltt hltr hnb r0 n0 n1 n2 n3 n4 n5 n6 n7 ty0 tyz rf0 rfz
  have BX1 := HHA.out.2.1.frame (k1) (Hnew.out _ (Nat.le_refl _))
  have b0 := BX1.cell (o := 0) (by omega)
  have b1 := BX1.cell (o := 1) (by omega)
  have b2 := BX1.cell (o := 2) (by omega)
  have b3 := BX1.cell (o := 3) (by omega)
  have b4 := BX1.cell (o := 4) (by omega)
  have b5 := BX1.cell (o := 5) (by omega)
  have b6 := BX1.cell (o := 6) (by omega)
  have b7 := BX1.cell (o := 7) (by omega)
  simp only [ndCell] at b0 b1 b2 b3 b4 b5 b6 b7
  have bl := BX1.lt
  cases hq : ckE X b a s with
  | bad er po =>
    rw [hq] at h
    obtain ⟨rfl, h0, s', C1, kp⟩ := h
    have HQ : Hid (_ = _) := hq
    have y1 : (er == 0) = false := by simpa using h0
    have HD : Hid _ := And.intro C1 (And.intro k1 (And.intro h0 kp))
    obtain ⟨-, d1, d2, d3, d4, d5, d6, d7, d8, d9, d10, dz, dl, dlt, dlr⟩ := C1.regs
    clear hq hkeep C1 BX1
    go_wp2_with fail
    go_end0
    exact (SMP.bad (by rw [Hr.out, HQ.out]; rfl) HD.out.2.1 HD.out.2.2.1 selfB HD.out.1 HD.out.2.2.2.ext).pre HHA.out.2.2
  | ok t s1 =>
    rw [hq] at h
    obtain ⟨rfl, C1⟩ := h
    have HKP : Hid (Kp s s1) := (hkeep t s1 hq).1.k
    have HQ : Hid (_ = _) := hq
    have hW := isMA hPC c tc C1 L2 rfl t
    obtain ⟨-, d1, d2, d3, d4, d5, d6, d7, d8, d9, d10, dz, dl, dlt, dlr⟩ := C1.regs
    clear hq hkeep C1 BX1
    go_wp2_with fail
    refine hW.mono ?_
    rintro v w2 ⟨k2, rfl, h⟩
    clear hW
    go_wp2_with fail
    go_end0
    refine SMP.pre HHA.out.2.2 ?_
    cases hq2 : wantE X (b + szE a) c t s1 with
    | bad er po =>
      rw [hq2] at h
      obtain ⟨h0, s', C2, kp⟩ := h
      exact SMP.bad (by rw [Hr.out, HQ.out]; exact hq2) (k1.trans k2 (fun _ _ h => h)) h0 selfB C2 (HKP.out.trans kp).ext
    | ok u s2 =>
      rw [hq2] at h
      exact SMP.ok (u := ()) (by rw [Hr.out, HQ.out]; exact hq2) (k1.trans k2 (fun _ _ h => h)) selfB h
set_option maxRecDepth 100000 in
set_option maxHeartbeats 8000000 in
theorem sm_vd (hPC : PCh X A.ns) (H : MXc w B A X cur s 0 0 fv vv) {b : Nat} {nx x : Int} {nm : ByteArray} {p t : Int} {e : Exp} (hG : Good s) (te : TyE e) (ht8 : 0 ≤ t ∧ t < 8) (hc : cur < X.fs.length) (L : Lie A.ns b (flS b nx (.vd nm p t e))) (hx : x = rtS b (.vd nm p t e)) : Calls Tryz.prog 132 #[.pointer (some ⟨A.m, 0, none⟩), .int .i64 x] w (SMP w B A X cur s fv vv (ckS X cur b (.vd nm p t e) s)) := by
  obtain ⟨K, hK⟩ : ∃ K, K = b + szE e := ⟨_, rfl⟩
  obtain rfl : x = ((K : Nat) : Int) := by rw [hx, hK]; simp [rtS, szS]; try omega
  obtain ⟨L1, hn⟩ := Lie.un (by simpa only [flS] using L)
  rw [← hK] at hn
  have hr := (show ckS X cur b (.vd nm p t e) s = (mayD nm t p s).bind fun _ s => (wantE X b e t s).bind fun _ s => .ok () (decl cur (b + szE e) nm t s) by simp only [ckS])
  try rw [← hK] at hr
  have Hr : Hid (_ = _) := hr
  obtain ⟨-, r1, r2, r3, r4, r5, r6, r7, r8, r9, r10, hz, hlt, hltt, hltr⟩ := H.regs
  obtain ⟨hk, hnb, r0, n0, n1, n2, n3, n4, n5, n6, n7⟩ := H.node hn
  try simp only at n0 n1 n2 n3 n4 n5 n6 n7
  have ty0 := H.tyb.cell (o := K) hk
  have tyz := H.tyb.frozen
  have rf0 := H.rfb.cell (o := K) hk
  have rfz := H.rfb.frozen
  have h200 := H.le
  have hkl : ((K : Nat) : Int) < A.ns.length := by omega
  have hK0 : ((K : Nat) : Int) ≥ 0 := by omega
  have BX := boxN_blk w ⟨3, rtE b e, -1, -1, nx, t, p, nm⟩
  have FX := (Fr.refl (fun _ => False) w).alloc (boxN ⟨3, rtE b e, -1, -1, nx, t, p, nm⟩)
  have HA := H.same FX
  have HHA : Hid (MXc (w.alloc (boxN ⟨3, rtE b e, -1, -1, nx, t, p, nm⟩)) B A X cur s 0 0 fv vv ∧ Blk (w.alloc (boxN ⟨3, rtE b e, -1, -1, nx, t, p, nm⟩)) w.heap.size 8 (ndCell ⟨3, rtE b e, -1, -1, nx, t, p, nm⟩) ∧ Fr (fun _ => False) w (w.alloc (boxN ⟨3, rtE b e, -1, -1, nx, t, p, nm⟩))) := ⟨HA, BX, FX⟩
  have Hnew : Hid (∀ d, w.heap.size ≤ d → ¬ MSc A fv vv d) := H.new
  clear BX FX HA
  have HK : Hid _ := hK
  clear hr L hx hK
  have hW := freeM HHA.out.1 nm t p
  have Hnn : Hid _ := hn
  have hm24 : ∀ s', mayD nm t p s = .ok () s' → s.vs.length < 24 := fun s' h => by
    obtain ⟨_, _, m1, m2⟩ := mayD_eq h
    have h1 := hG.len
    have h2 := hG.ni12
    have h3 := hG.nr12
    by_cases hh : 2 ≤ t
    · have := m1 hh; omega
    · have := m2 hh; omega
  clear H
  go_enter Tryz.func132, Tryz.ntmps132
  go_wp2_with fail
  refine hW.mono ?_
  rintro v w1 ⟨k1, h⟩
  clear hW
  clear r1 r2 r3 r4 r5 r6 r7 r8 r9 r10 hz hlt hltt hltr hnb r0 n0 n1 n2 n3 n4 n5 n6 n7 ty0 tyz rf0 rfz
  have BX1 := HHA.out.2.1.frame (k1) (Hnew.out _ (Nat.le_refl _))
  have b0 := BX1.cell (o := 0) (by omega)
  have b1 := BX1.cell (o := 1) (by omega)
  have b2 := BX1.cell (o := 2) (by omega)
  have b3 := BX1.cell (o := 3) (by omega)
  have b4 := BX1.cell (o := 4) (by omega)
  have b5 := BX1.cell (o := 5) (by omega)
  have b6 := BX1.cell (o := 6) (by omega)
  have b7 := BX1.cell (o := 7) (by omega)
  simp only [ndCell] at b0 b1 b2 b3 b4 b5 b6 b7
  have bl := BX1.lt
  cases hq : mayD nm t p s with
  | bad er po =>
    rw [hq] at h
    obtain ⟨rfl, h0, C1⟩ := h
    have HQ : Hid (_ = _) := hq
    clear hq hm24 BX1
    go_wp2_with fail
    go_end0
    exact (SMP.bad (by rw [Hr.out, HQ.out]; rfl) k1 h0 selfB C1 (Ext.refl s)).pre HHA.out.2.2
  | ok u0 s0 =>
    rw [hq] at h
    obtain ⟨rfl, rfl, C1⟩ := h
    have HQ : Hid (_ = _) := hq
    have h24 := hm24 _ hq
    have hW := isMA hPC e te C1 L1 rfl t
    obtain ⟨-, d1, d2, d3, d4, d5, d6, d7, d8, d9, d10, dz, dl, dlt, dlr⟩ := C1.regs
    clear hq C1 BX1 hm24
    go_wp2_with fail
    refine hW.mono ?_
    rintro v w2 ⟨k2, rfl, h⟩
    clear hW b0 b1 b2 b3 b4 b5 b6 b7 bl d1 d2 d3 d4 d5 d6 d7 d8 d9 d10 dz dl dlt dlr
    have k12 := k1.trans k2 (fun _ _ h => h)
    cases hq2 : wantE X b e t s0 with
    | bad er po =>
      rw [hq2] at h
      obtain ⟨h0, s', C2, kp⟩ := h
      have HQ2 : Hid (_ = _) := hq2
      have y1 : (er == 0) = false := by simpa using h0
      have HD : Hid _ := And.intro C2 (And.intro k12 (And.intro h0 kp))
      obtain ⟨-, d1, d2, d3, d4, d5, d6, d7, d8, d9, d10, dz, dl, dlt, dlr⟩ := C2.regs
      clear hq2 C2
      go_wp2_with fail
      go_end0
      exact (SMP.bad (by rw [Hr.out, HQ.out, Rc.bind_ok, HQ2.out]; rfl) HD.out.2.1 HD.out.2.2.1 selfB HD.out.1 HD.out.2.2.2.ext).pre HHA.out.2.2
    | ok u s2 =>
      rw [hq2] at h
      have kp := wantE_eq hq2
      have HQ2 : Hid (_ = _) := hq2
      have hB := bindM h Hnn.out (mayD_keep HQ.out kp) (by rw [kp.vs]; exact h24) ht8 hc
      obtain ⟨-, d1, d2, d3, d4, d5, d6, d7, d8, d9, d10, dz, dl, dlt, dlr⟩ := h.regs
      have HK12 : Hid _ := k12
      clear hq2 kp h k12
      go_wp2_with fail
      refine hB.mono ?_
      rintro v w3 ⟨rfl, k3, vv', C3, hb3⟩
      go_wp2_with fail
      go_end0
      exact (SMP.ok (u := ()) (by rw [Hr.out, HQ.out, Rc.bind_ok, HQ2.out, Rc.bind_ok]) (HK12.out.trans k3 (fun _ _ h => h)) (fun b hb => (hb3 b hb).imp id (fun h => by have := HK12.out.size; omega)) C3).pre HHA.out.2.2
end
end Go.Proofs.Qxb6500277aGreat
