/- The model checker: operators. -/
import Derived.Test.Qxb6500277aGreatMC4
namespace Go.Proofs.Qxb6500277aGreat
open Go Go.RowKit

section
variable {w w' : World} {B : Nat} {A : Ma} {X : Cx} {cur : Nat} {s : Ck} {er po : Int} {fv vv : Value} {n : Nat}
set_option maxRecDepth 100000 in
set_option maxHeartbeats 8000000 in
theorem em_bin30 (I : ExM B A X cur n fv vv) (H : MXc w B A X cur s 0 0 fv vv) {b : Nat} {nx x : Int} {k p : Int} {l r : Exp} (L : Lie A.ns b (flE b nx (.bin k p l r))) (tl : TyE l) (tr : TyE r) (hsz : szE l + szE r ≤ n) (hx : x = rtE b (.bin k p l r)) (hkk : k = 30) : Calls Tryz.prog 177 #[.pointer (some ⟨A.m, 0, none⟩), .int .i64 x] w (EMP w B A X cur s fv vv (ckE X b (.bin k p l r) s)) := by
  subst hkk
  have Hb : Hid (binT X b 30 l r s = (wantE X b l 0 s).bind fun _ s => (wantE X (b + szE l) r 0 s).bind fun _ s => .ok 1 s) := by
    show _ = _
    simp [binT, sideT, givesT]
  obtain ⟨K, hK⟩ : ∃ K, K = b + szE l + szE r := ⟨_, rfl⟩
  obtain rfl : x = ((K : Nat) : Int) := by rw [hx, hK]; simp [rtE, szE]; try omega
  obtain ⟨L1, L2, hn⟩ := Lie.two (by simpa only [flE] using L)
  rw [← hK] at hn
  have hr := ckE_bin (X := X) b 30 p l r s
  rw [← hK] at hr
  have Hr : Hid (_ = _) := hr
  obtain ⟨-, r1, r2, r3, r4, r5, r6, r7, r8, r9, r10, hz, hlt, hltt, hltr⟩ := H.regs
  obtain ⟨hk, hnb, r0, n0, n1, n2, n3, n4, n5, n6, n7⟩ := H.node hn
  try simp only at n0 n1 n2 n3 n4 n5 n6 n7
  have ty0 := H.tyb.cell (o := K) hk
  have tyz := H.tyb.frozen
  have rf0 := H.rfb.cell (o := K) hk
  have rfz := H.rfb.frozen
  have h200 := H.le
  have hkl : ((K : Nat) : Int) < A.ns.length := by omega
  have hK0 : ((K : Nat) : Int) ≥ 0 := by omega
  have BX := boxN_blk w ⟨18, rtE b l, rtE (b + szE l) r, -1, nx, 30, p, ⟨#[]⟩⟩
  have FX := (Fr.refl (fun _ => False) w).alloc (boxN ⟨18, rtE b l, rtE (b + szE l) r, -1, nx, 30, p, ⟨#[]⟩⟩)
  have HA := H.same FX
  have HHA : Hid (MXc (w.alloc (boxN ⟨18, rtE b l, rtE (b + szE l) r, -1, nx, 30, p, ⟨#[]⟩⟩)) B A X cur s 0 0 fv vv ∧ Blk (w.alloc (boxN ⟨18, rtE b l, rtE (b + szE l) r, -1, nx, 30, p, ⟨#[]⟩⟩)) w.heap.size 8 (ndCell ⟨18, rtE b l, rtE (b + szE l) r, -1, nx, 30, p, ⟨#[]⟩⟩) ∧ Fr (fun _ => False) w (w.alloc (boxN ⟨18, rtE b l, rtE (b + szE l) r, -1, nx, 30, p, ⟨#[]⟩⟩))) := ⟨HA, BX, FX⟩
  have Hnew : Hid (∀ d, w.heap.size ≤ d → ¬ MSc A fv vv d) := H.new
  clear BX FX HA
  have HK : Hid _ := hK
  clear hr L hx hK
  have hW := isM I l (by omega) tl HHA.out.1 L1 rfl 0
  clear H
  go_enter Tryz.func177, Tryz.ntmps177
  go_wp2_with fail
  refine hW.mono ?_
  rintro v w1 ⟨k1, rfl, h⟩
  clear hW
  clear r1 r2 r3 r4 r5 r6 r7 r8 r9 r10 hz hlt hltt hltr hnb r0 n0 n1 n2 n3 n4 n5 n6 n7 ty0 tyz rf0 rfz
  have BX1 := HHA.out.2.1.frame (k1) (Hnew.out _ (Nat.le_refl _))
  have b0 := BX1.cell (o := 0) (by omega)
  have b1 := BX1.cell (o := 1) (by omega)
  have b2 := BX1.cell (o := 2) (by omega)
  have b3 := BX1.cell (o := 3) (by omega)
  have b4 := BX1.cell (o := 4) (by omega)
  have b5 := BX1.cell (o := 5) (by omega)
  have b6 := BX1.cell (o := 6) (by omega)
  have b7 := BX1.cell (o := 7) (by omega)
  simp only [ndCell] at b0 b1 b2 b3 b4 b5 b6 b7
  have bl := BX1.lt
  cases hq : wantE X b l 0 s with
  | bad er po =>
    rw [hq] at h
    obtain ⟨h0, s', C1, kp⟩ := h
    have HQ : Hid (_ = _) := hq
    have hD := isM_dead C1 h0 (rtE (b + szE l) r) 0
    clear hq
    obtain ⟨-, d1, d2, d3, d4, d5, d6, d7, d8, d9, d10, dz, dl, dlt, dlr⟩ := C1.regs
    have y0 : (er != 0) = true := by simpa using h0
    have y1 : (er == 0) = false := by simpa using h0
    have HD : Hid _ := And.intro C1 (And.intro k1 (And.intro h0 kp))
    clear C1 BX1
    go_wp2_with fail
    refine hD.mono ?_
    rintro v w2 ⟨rfl, rfl⟩
    go_wp2_with fail
    go_ret
    exact (EMP.bad (by rw [Hr.out, Hb.out, HQ.out]; rfl) HD.out.2.1 HD.out.2.2.1 HD.out.1 HD.out.2.2.2).pre HHA.out.2.2
  | ok u s1 =>
    rw [hq] at h
    have HKP : Hid _ := wantE_eq hq
    have HQ : Hid (_ = _) := hq
    have hW := isM I r (by omega) tr h L2 rfl 0
    clear hq BX1
    obtain ⟨-, d1, d2, d3, d4, d5, d6, d7, d8, d9, d10, dz, dl, dlt, dlr⟩ := h.regs
    clear h
    go_wp2_with fail
    refine hW.mono ?_
    rintro v w2 ⟨k2, rfl, h⟩
    clear hW b0 b1 b2 b3 b4 b5 b6 b7 bl d1 d2 d3 d4 d5 d6 d7 d8 d9 d10 dz dl dlt dlr
    have k12 := k1.trans k2 (fun _ _ h => h)
    cases hq2 : wantE X (b + szE l) r 0 s1 with
    | bad er po =>
      rw [hq2] at h
      obtain ⟨h0, s', C2, kp2⟩ := h
      have HQ2 : Hid (_ = _) := hq2
      have kp := HKP.out.trans kp2
      clear hq2
      obtain ⟨-, d1, d2, d3, d4, d5, d6, d7, d8, d9, d10, dz, dl, dlt, dlr⟩ := C2.regs
      have y0 : (er != 0) = true := by simpa using h0
      have y1 : (er == 0) = false := by simpa using h0
      have HD : Hid _ := And.intro C2 (And.intro k12 (And.intro h0 kp))
      clear C2
      go_wp2_with fail
      go_ret
      exact (EMP.bad (by rw [Hr.out, Hb.out, HQ.out, Rc.bind_ok, HQ2.out]; rfl) HD.out.2.1 HD.out.2.2.1 HD.out.1 HD.out.2.2.2).pre HHA.out.2.2
    | ok u2 s2 =>
      rw [hq2] at h
      have HQ2 : Hid (_ = _) := hq2
      clear hq2
      obtain ⟨-, d1, d2, d3, d4, d5, d6, d7, d8, d9, d10, dz, dl, dlt, dlr⟩ := h.regs
      have q0 := h.tyb.cell (o := K) hk
      have qz := h.tyb.frozen
      have HN : Hid (_ ∧ _) := h.note K (1)
      have HF : Hid _ := k12
      clear h
      go_wp2_with fail
      go_ret
      exact (EMP.ok (by rw [Hr.out, Hb.out, HQ.out, Rc.bind_ok, HQ2.out]; rfl) (HF.out.trans HN.out.2 (fun _ _ h => h)) HN.out.1).pre HHA.out.2.2
set_option maxRecDepth 100000 in
set_option maxHeartbeats 8000000 in
theorem em_bin31 (I : ExM B A X cur n fv vv) (H : MXc w B A X cur s 0 0 fv vv) {b : Nat} {nx x : Int} {k p : Int} {l r : Exp} (L : Lie A.ns b (flE b nx (.bin k p l r))) (tl : TyE l) (tr : TyE r) (hsz : szE l + szE r ≤ n) (hx : x = rtE b (.bin k p l r)) (hkk : k = 31) : Calls Tryz.prog 177 #[.pointer (some ⟨A.m, 0, none⟩), .int .i64 x] w (EMP w B A X cur s fv vv (ckE X b (.bin k p l r) s)) := by
  subst hkk
  have Hb : Hid (binT X b 31 l r s = (wantE X b l 0 s).bind fun _ s => (wantE X (b + szE l) r 0 s).bind fun _ s => .ok 1 s) := by
    show _ = _
    simp [binT, sideT, givesT]
  obtain ⟨K, hK⟩ : ∃ K, K = b + szE l + szE r := ⟨_, rfl⟩
  obtain rfl : x = ((K : Nat) : Int) := by rw [hx, hK]; simp [rtE, szE]; try omega
  obtain ⟨L1, L2, hn⟩ := Lie.two (by simpa only [flE] using L)
  rw [← hK] at hn
  have hr := ckE_bin (X := X) b 31 p l r s
  rw [← hK] at hr
  have Hr : Hid (_ = _) := hr
  obtain ⟨-, r1, r2, r3, r4, r5, r6, r7, r8, r9, r10, hz, hlt, hltt, hltr⟩ := H.regs
  obtain ⟨hk, hnb, r0, n0, n1, n2, n3, n4, n5, n6, n7⟩ := H.node hn
  try simp only at n0 n1 n2 n3 n4 n5 n6 n7
  have ty0 := H.tyb.cell (o := K) hk
  have tyz := H.tyb.frozen
  have rf0 := H.rfb.cell (o := K) hk
  have rfz := H.rfb.frozen
  have h200 := H.le
  have hkl : ((K : Nat) : Int) < A.ns.length := by omega
  have hK0 : ((K : Nat) : Int) ≥ 0 := by omega
  have BX := boxN_blk w ⟨18, rtE b l, rtE (b + szE l) r, -1, nx, 31, p, ⟨#[]⟩⟩
  have FX := (Fr.refl (fun _ => False) w).alloc (boxN ⟨18, rtE b l, rtE (b + szE l) r, -1, nx, 31, p, ⟨#[]⟩⟩)
  have HA := H.same FX
  have HHA : Hid (MXc (w.alloc (boxN ⟨18, rtE b l, rtE (b + szE l) r, -1, nx, 31, p, ⟨#[]⟩⟩)) B A X cur s 0 0 fv vv ∧ Blk (w.alloc (boxN ⟨18, rtE b l, rtE (b + szE l) r, -1, nx, 31, p, ⟨#[]⟩⟩)) w.heap.size 8 (ndCell ⟨18, rtE b l, rtE (b + szE l) r, -1, nx, 31, p, ⟨#[]⟩⟩) ∧ Fr (fun _ => False) w (w.alloc (boxN ⟨18, rtE b l, rtE (b + szE l) r, -1, nx, 31, p, ⟨#[]⟩⟩))) := ⟨HA, BX, FX⟩
  have Hnew : Hid (∀ d, w.heap.size ≤ d → ¬ MSc A fv vv d) := H.new
  clear BX FX HA
  have HK : Hid _ := hK
  clear hr L hx hK
  have hW := isM I l (by omega) tl HHA.out.1 L1 rfl 0
  clear H
  go_enter Tryz.func177, Tryz.ntmps177
  go_wp2_with fail
  refine hW.mono ?_
  rintro v w1 ⟨k1, rfl, h⟩
  clear hW
  clear r1 r2 r3 r4 r5 r6 r7 r8 r9 r10 hz hlt hltt hltr hnb r0 n0 n1 n2 n3 n4 n5 n6 n7 ty0 tyz rf0 rfz
  have BX1 := HHA.out.2.1.frame (k1) (Hnew.out _ (Nat.le_refl _))
  have b0 := BX1.cell (o := 0) (by omega)
  have b1 := BX1.cell (o := 1) (by omega)
  have b2 := BX1.cell (o := 2) (by omega)
  have b3 := BX1.cell (o := 3) (by omega)
  have b4 := BX1.cell (o := 4) (by omega)
  have b5 := BX1.cell (o := 5) (by omega)
  have b6 := BX1.cell (o := 6) (by omega)
  have b7 := BX1.cell (o := 7) (by omega)
  simp only [ndCell] at b0 b1 b2 b3 b4 b5 b6 b7
  have bl := BX1.lt
  cases hq : wantE X b l 0 s with
  | bad er po =>
    rw [hq] at h
    obtain ⟨h0, s', C1, kp⟩ := h
    have HQ : Hid (_ = _) := hq
    have hD := isM_dead C1 h0 (rtE (b + szE l) r) 0
    clear hq
    obtain ⟨-, d1, d2, d3, d4, d5, d6, d7, d8, d9, d10, dz, dl, dlt, dlr⟩ := C1.regs
    have y0 : (er != 0) = true := by simpa using h0
    have y1 : (er == 0) = false := by simpa using h0
    have HD : Hid _ := And.intro C1 (And.intro k1 (And.intro h0 kp))
    clear C1 BX1
    go_wp2_with fail
    refine hD.mono ?_
    rintro v w2 ⟨rfl, rfl⟩
    go_wp2_with fail
    go_ret
    exact (EMP.bad (by rw [Hr.out, Hb.out, HQ.out]; rfl) HD.out.2.1 HD.out.2.2.1 HD.out.1 HD.out.2.2.2).pre HHA.out.2.2
  | ok u s1 =>
    rw [hq] at h
    have HKP : Hid _ := wantE_eq hq
    have HQ : Hid (_ = _) := hq
    have hW := isM I r (by omega) tr h L2 rfl 0
    clear hq BX1
    obtain ⟨-, d1, d2, d3, d4, d5, d6, d7, d8, d9, d10, dz, dl, dlt, dlr⟩ := h.regs
    clear h
    go_wp2_with fail
    refine hW.mono ?_
    rintro v w2 ⟨k2, rfl, h⟩
    clear hW b0 b1 b2 b3 b4 b5 b6 b7 bl d1 d2 d3 d4 d5 d6 d7 d8 d9 d10 dz dl dlt dlr
    have k12 := k1.trans k2 (fun _ _ h => h)
    cases hq2 : wantE X (b + szE l) r 0 s1 with
    | bad er po =>
      rw [hq2] at h
      obtain ⟨h0, s', C2, kp2⟩ := h
      have HQ2 : Hid (_ = _) := hq2
      have kp := HKP.out.trans kp2
      clear hq2
      obtain ⟨-, d1, d2, d3, d4, d5, d6, d7, d8, d9, d10, dz, dl, dlt, dlr⟩ := C2.regs
      have y0 : (er != 0) = true := by simpa using h0
      have y1 : (er == 0) = false := by simpa using h0
      have HD : Hid _ := And.intro C2 (And.intro k12 (And.intro h0 kp))
      clear C2
      go_wp2_with fail
      go_ret
      exact (EMP.bad (by rw [Hr.out, Hb.out, HQ.out, Rc.bind_ok, HQ2.out]; rfl) HD.out.2.1 HD.out.2.2.1 HD.out.1 HD.out.2.2.2).pre HHA.out.2.2
    | ok u2 s2 =>
      rw [hq2] at h
      have HQ2 : Hid (_ = _) := hq2
      clear hq2
      obtain ⟨-, d1, d2, d3, d4, d5, d6, d7, d8, d9, d10, dz, dl, dlt, dlr⟩ := h.regs
      have q0 := h.tyb.cell (o := K) hk
      have qz := h.tyb.frozen
      have HN : Hid (_ ∧ _) := h.note K (1)
      have HF : Hid _ := k12
      clear h
      go_wp2_with fail
      go_ret
      exact (EMP.ok (by rw [Hr.out, Hb.out, HQ.out, Rc.bind_ok, HQ2.out]; rfl) (HF.out.trans HN.out.2 (fun _ _ h => h)) HN.out.1).pre HHA.out.2.2
set_option maxRecDepth 100000 in
set_option maxHeartbeats 8000000 in
theorem em_binO (I : ExM B A X cur n fv vv) (H : MXc w B A X cur s 0 0 fv vv) {b : Nat} {nx x : Int} {k p : Int} {l r : Exp} (L : Lie A.ns b (flE b nx (.bin k p l r))) (tl : TyE l) (tr : TyE r) (hsz : szE l + szE r ≤ n) (hx : x = rtE b (.bin k p l r)) (hkk : k ≠ 38 ∧ k ≠ 37 ∧ k ≠ 28 ∧ k ≠ 29 ∧ k ≠ 30 ∧ k ≠ 31 ∧ k ≠ 26 ∧ k ≠ 27) : Calls Tryz.prog 177 #[.pointer (some ⟨A.m, 0, none⟩), .int .i64 x] w (EMP w B A X cur s fv vv (ckE X b (.bin k p l r) s)) := by
  obtain ⟨k1', k2', k3', k4', k5', k6', k7', k8'⟩ := hkk
  have Hb : Hid (binT X b k l r s = (wantE X b l 0 s).bind fun _ s => (wantE X (b + szE l) r 0 s).bind fun _ s => .ok 0 s) := by
    show _ = _
    simp [binT, sideT, givesT, *]
  have y10 : (k == 38) = false := by simpa using k1'
  have y11 : (k == 37) = false := by simpa using k2'
  have y12 : (k == 28) = false := by simpa using k3'
  have y13 : (k == 29) = false := by simpa using k4'
  have y14 : (k == 30) = false := by simpa using k5'
  have y15 : (k == 31) = false := by simpa using k6'
  have y16 : (k == 26) = false := by simpa using k7'
  have y17 : (k == 27) = false := by simpa using k8'
  clear k1' k2' k3' k4' k5' k6' k7' k8'
  obtain ⟨K, hK⟩ : ∃ K, K = b + szE l + szE r := ⟨_, rfl⟩
  obtain rfl : x = ((K : Nat) : Int) := by rw [hx, hK]; simp [rtE, szE]; try omega
  obtain ⟨L1, L2, hn⟩ := Lie.two (by simpa only [flE] using L)
  rw [← hK] at hn
  have hr := ckE_bin (X := X) b k p l r s
  rw [← hK] at hr
  have Hr : Hid (_ = _) := hr
  obtain ⟨-, r1, r2, r3, r4, r5, r6, r7, r8, r9, r10, hz, hlt, hltt, hltr⟩ := H.regs
  obtain ⟨hk, hnb, r0, n0, n1, n2, n3, n4, n5, n6, n7⟩ := H.node hn
  try simp only at n0 n1 n2 n3 n4 n5 n6 n7
  have ty0 := H.tyb.cell (o := K) hk
  have tyz := H.tyb.frozen
  have rf0 := H.rfb.cell (o := K) hk
  have rfz := H.rfb.frozen
  have h200 := H.le
  have hkl : ((K : Nat) : Int) < A.ns.length := by omega
  have hK0 : ((K : Nat) : Int) ≥ 0 := by omega
  have BX := boxN_blk w ⟨18, rtE b l, rtE (b + szE l) r, -1, nx, k, p, ⟨#[]⟩⟩
  have FX := (Fr.refl (fun _ => False) w).alloc (boxN ⟨18, rtE b l, rtE (b + szE l) r, -1, nx, k, p, ⟨#[]⟩⟩)
  have HA := H.same FX
  have HHA : Hid (MXc (w.alloc (boxN ⟨18, rtE b l, rtE (b + szE l) r, -1, nx, k, p, ⟨#[]⟩⟩)) B A X cur s 0 0 fv vv ∧ Blk (w.alloc (boxN ⟨18, rtE b l, rtE (b + szE l) r, -1, nx, k, p, ⟨#[]⟩⟩)) w.heap.size 8 (ndCell ⟨18, rtE b l, rtE (b + szE l) r, -1, nx, k, p, ⟨#[]⟩⟩) ∧ Fr (fun _ => False) w (w.alloc (boxN ⟨18, rtE b l, rtE (b + szE l) r, -1, nx, k, p, ⟨#[]⟩⟩))) := ⟨HA, BX, FX⟩
  have Hnew : Hid (∀ d, w.heap.size ≤ d → ¬ MSc A fv vv d) := H.new
  clear BX FX HA
  have HK : Hid _ := hK
  clear hr L hx hK
  have hW := isM I l (by omega) tl HHA.out.1 L1 rfl 0
  clear H
  go_enter Tryz.func177, Tryz.ntmps177
  go_wp2_with fail
  refine hW.mono ?_
  rintro v w1 ⟨k1, rfl, h⟩
  clear hW
  clear r1 r2 r3 r4 r5 r6 r7 r8 r9 r10 hz hlt hltt hltr hnb r0 n0 n1 n2 n3 n4 n5 n6 n7 ty0 tyz rf0 rfz
  have BX1 := HHA.out.2.1.frame (k1) (Hnew.out _ (Nat.le_refl _))
  have b0 := BX1.cell (o := 0) (by omega)
  have b1 := BX1.cell (o := 1) (by omega)
  have b2 := BX1.cell (o := 2) (by omega)
  have b3 := BX1.cell (o := 3) (by omega)
  have b4 := BX1.cell (o := 4) (by omega)
  have b5 := BX1.cell (o := 5) (by omega)
  have b6 := BX1.cell (o := 6) (by omega)
  have b7 := BX1.cell (o := 7) (by omega)
  simp only [ndCell] at b0 b1 b2 b3 b4 b5 b6 b7
  have bl := BX1.lt
  cases hq : wantE X b l 0 s with
  | bad er po =>
    rw [hq] at h
    obtain ⟨h0, s', C1, kp⟩ := h
    have HQ : Hid (_ = _) := hq
    have hD := isM_dead C1 h0 (rtE (b + szE l) r) 0
    clear hq
    obtain ⟨-, d1, d2, d3, d4, d5, d6, d7, d8, d9, d10, dz, dl, dlt, dlr⟩ := C1.regs
    have y0 : (er != 0) = true := by simpa using h0
    have y1 : (er == 0) = false := by simpa using h0
    have HD : Hid _ := And.intro C1 (And.intro k1 (And.intro h0 kp))
    clear C1 BX1
    go_wp2_with fail
    refine hD.mono ?_
    rintro v w2 ⟨rfl, rfl⟩
    go_wp2_with fail
    go_ret
    exact (EMP.bad (by rw [Hr.out, Hb.out, HQ.out]; rfl) HD.out.2.1 HD.out.2.2.1 HD.out.1 HD.out.2.2.2).pre HHA.out.2.2
  | ok u s1 =>
    rw [hq] at h
    have HKP : Hid _ := wantE_eq hq
    have HQ : Hid (_ = _) := hq
    have hW := isM I r (by omega) tr h L2 rfl 0
    clear hq BX1
    obtain ⟨-, d1, d2, d3, d4, d5, d6, d7, d8, d9, d10, dz, dl, dlt, dlr⟩ := h.regs
    clear h
    go_wp2_with fail
    refine hW.mono ?_
    rintro v w2 ⟨k2, rfl, h⟩
    clear hW b0 b1 b2 b3 b4 b5 b6 b7 bl d1 d2 d3 d4 d5 d6 d7 d8 d9 d10 dz dl dlt dlr
    have k12 := k1.trans k2 (fun _ _ h => h)
    cases hq2 : wantE X (b + szE l) r 0 s1 with
    | bad er po =>
      rw [hq2] at h
      obtain ⟨h0, s', C2, kp2⟩ := h
      have HQ2 : Hid (_ = _) := hq2
      have kp := HKP.out.trans kp2
      clear hq2
      obtain ⟨-, d1, d2, d3, d4, d5, d6, d7, d8, d9, d10, dz, dl, dlt, dlr⟩ := C2.regs
      have y0 : (er != 0) = true := by simpa using h0
      have y1 : (er == 0) = false := by simpa using h0
      have HD : Hid _ := And.intro C2 (And.intro k12 (And.intro h0 kp))
      clear C2
      go_wp2_with fail
      go_ret
      exact (EMP.bad (by rw [Hr.out, Hb.out, HQ.out, Rc.bind_ok, HQ2.out]; rfl) HD.out.2.1 HD.out.2.2.1 HD.out.1 HD.out.2.2.2).pre HHA.out.2.2
    | ok u2 s2 =>
      rw [hq2] at h
      have HQ2 : Hid (_ = _) := hq2
      clear hq2
      obtain ⟨-, d1, d2, d3, d4, d5, d6, d7, d8, d9, d10, dz, dl, dlt, dlr⟩ := h.regs
      have q0 := h.tyb.cell (o := K) hk
      have qz := h.tyb.frozen
      have HN : Hid (_ ∧ _) := h.note K (0)
      have HF : Hid _ := k12
      clear h
      go_wp2_with fail
      go_ret
      exact (EMP.ok (by rw [Hr.out, Hb.out, HQ.out, Rc.bind_ok, HQ2.out]; rfl) (HF.out.trans HN.out.2 (fun _ _ h => h)) HN.out.1).pre HHA.out.2.2
set_option maxRecDepth 100000 in
set_option maxHeartbeats 8000000 in
theorem em_bin26 (I : ExM B A X cur n fv vv) (H : MXc w B A X cur s 0 0 fv vv) {b : Nat} {nx x : Int} {k p : Int} {l r : Exp} (L : Lie A.ns b (flE b nx (.bin k p l r))) (tl : TyE l) (tr : TyE r) (hsz : szE l + szE r ≤ n) (hx : x = rtE b (.bin k p l r)) (hkk : k = 26) : Calls Tryz.prog 177 #[.pointer (some ⟨A.m, 0, none⟩), .int .i64 x] w (EMP w B A X cur s fv vv (ckE X b (.bin k p l r) s)) := by
  subst hkk
  have Hb : Hid (binT X b 26 l r s = (ckE X b l s).bind fun t s => if 2 ≤ t then .bad 17 (poE l) else (wantE X (b + szE l) r t s).bind fun _ s => .ok 1 s) := by
    show _ = _
    simp [binT]
  obtain ⟨K, hK⟩ : ∃ K, K = b + szE l + szE r := ⟨_, rfl⟩
  obtain rfl : x = ((K : Nat) : Int) := by rw [hx, hK]; simp [rtE, szE]; try omega
  obtain ⟨L1, L2, hn⟩ := Lie.two (by simpa only [flE] using L)
  rw [← hK] at hn
  have hr := ckE_bin (X := X) b 26 p l r s
  rw [← hK] at hr
  have Hr : Hid (_ = _) := hr
  obtain ⟨-, r1, r2, r3, r4, r5, r6, r7, r8, r9, r10, hz, hlt, hltt, hltr⟩ := H.regs
  obtain ⟨hk, hnb, r0, n0, n1, n2, n3, n4, n5, n6, n7⟩ := H.node hn
  try simp only at n0 n1 n2 n3 n4 n5 n6 n7
  have ty0 := H.tyb.cell (o := K) hk
  have tyz := H.tyb.frozen
  have rf0 := H.rfb.cell (o := K) hk
  have rfz := H.rfb.frozen
  have h200 := H.le
  have hkl : ((K : Nat) : Int) < A.ns.length := by omega
  have hK0 : ((K : Nat) : Int) ≥ 0 := by omega
  have BX := boxN_blk w ⟨18, rtE b l, rtE (b + szE l) r, -1, nx, 26, p, ⟨#[]⟩⟩
  have FX := (Fr.refl (fun _ => False) w).alloc (boxN ⟨18, rtE b l, rtE (b + szE l) r, -1, nx, 26, p, ⟨#[]⟩⟩)
  have HA := H.same FX
  have HHA : Hid (MXc (w.alloc (boxN ⟨18, rtE b l, rtE (b + szE l) r, -1, nx, 26, p, ⟨#[]⟩⟩)) B A X cur s 0 0 fv vv ∧ Blk (w.alloc (boxN ⟨18, rtE b l, rtE (b + szE l) r, -1, nx, 26, p, ⟨#[]⟩⟩)) w.heap.size 8 (ndCell ⟨18, rtE b l, rtE (b + szE l) r, -1, nx, 26, p, ⟨#[]⟩⟩) ∧ Fr (fun _ => False) w (w.alloc (boxN ⟨18, rtE b l, rtE (b + szE l) r, -1, nx, 26, p, ⟨#[]⟩⟩))) := ⟨HA, BX, FX⟩
  have Hnew : Hid (∀ d, w.heap.size ≤ d → ¬ MSc A fv vv d) := H.new
  clear BX FX HA
  have HK : Hid _ := hK
  clear hr L hx hK
  have hE := I l (by omega) tl (w.alloc (boxN ⟨18, rtE b l, rtE (b + szE l) r, -1, nx, 26, p, ⟨#[]⟩⟩)) s b (-1) (rtE b l) HHA.out.1 L1 rfl
  have hkeep := keepE X l b s
  obtain ⟨nd2, hn2, _, hpos2, _⟩ := L1.root
  obtain ⟨J, hJ⟩ : ∃ J, J = b + szE l - 1 := ⟨_, rfl⟩
  have ert : rtE b l = (J : Nat) := by rw [rtE_nat, hJ]
  rw [← hJ] at hn2
  have Hert : Hid _ := ert
  clear H hJ ert
  go_enter Tryz.func177, Tryz.ntmps177
  go_wp2_with fail
  refine hE.mono ?_
  rintro v w1 ⟨k1, h⟩
  clear hE
  clear r1 r2 r3 r4 r5 r6 r7 r8 r9 r10 hz hlt hltt hltr hnb r0 n0 n1 n2 n3 n4 n5 n6 n7 ty0 tyz rf0 rfz
  have BX1 := HHA.out.2.1.frame (k1) (Hnew.out _ (Nat.le_refl _))
  have b0 := BX1.cell (o := 0) (by omega)
  have b1 := BX1.cell (o := 1) (by omega)
  have b2 := BX1.cell (o := 2) (by omega)
  have b3 := BX1.cell (o := 3) (by omega)
  have b4 := BX1.cell (o := 4) (by omega)
  have b5 := BX1.cell (o := 5) (by omega)
  have b6 := BX1.cell (o := 6) (by omega)
  have b7 := BX1.cell (o := 7) (by omega)
  simp only [ndCell] at b0 b1 b2 b3 b4 b5 b6 b7
  have bl := BX1.lt
  rw [Hert.out] at b1
  cases hq : ckE X b l s with
  | bad er po =>
    rw [hq] at h
    obtain ⟨rfl, h0, s', C1, kp⟩ := h
    have HQ : Hid (_ = _) := hq
    have hD := isM_dead C1 h0 (rtE (b + szE l) r) (-1)
    clear hq hkeep
    obtain ⟨-, d1, d2, d3, d4, d5, d6, d7, d8, d9, d10, dz, dl, dlt, dlr⟩ := C1.regs
    have y0 : (er != 0) = true := by simpa using h0
    have y1 : (er == 0) = false := by simpa using h0
    have HD : Hid _ := And.intro C1 (And.intro k1 (And.intro h0 kp))
    clear C1 BX1
    go_wp2_with fail
    refine hD.mono ?_
    rintro v w2 ⟨rfl, rfl⟩
    go_wp2_with fail
    go_ret
    exact (EMP.bad (by rw [Hr.out, Hb.out, HQ.out]; rfl) HD.out.2.1 HD.out.2.2.1 HD.out.1 HD.out.2.2.2).pre HHA.out.2.2
  | ok t s1 =>
    rw [hq] at h
    obtain ⟨rfl, C1⟩ := h
    have HKP : Hid (Kp s s1) := (hkeep t s1 hq).1.k
    have HQ : Hid (_ = _) := hq
    clear hq hkeep
    by_cases ht : 2 ≤ t
    · have y2 : decide (t ≥ 2) = true := decide_eq_true ht
      obtain ⟨j1, jb, j0, j3, j4, j5, j6, j7, j8, j9, j10⟩ := C1.node hn2
      rw [hpos2] at j9
      have hjl : (J : Int) < A.ns.length := by omega
      have hN := failM_live (C1.same ((Fr.refl _ _).drew)) 17 (poE l)
      have HT : Hid _ := ht
      have Hk1 : Hid _ := k1
      obtain ⟨-, d1, d2, d3, d4, d5, d6, d7, d8, d9, d10, dz, dl, dlt, dlr⟩ := C1.regs
      clear C1 BX1 ht k1
      go_wp2_with fail
      refine wp_region_text (by kernel_rfl) (by kernel_rfl) ?_
      go_wp2_with fail
      refine hN.mono ?_
      rintro v w3 ⟨rfl, C3, k3⟩
      have HD : Hid _ := And.intro C3 (Hk1.out.drew.trans k3 (fun _ _ h => h))
      clear C3 k3
      go_wp2_with fail
      refine ⟨by kernel_rfl, ?_⟩
      go_wp2_with fail
      go_ret
      exact (EMP.bad (by rw [Hr.out, Hb.out, HQ.out, Rc.bind_ok, if_pos HT.out]; rfl) HD.out.2 (by decide) HD.out.1 HKP.out).pre HHA.out.2.2
    · have y2 : decide (t ≥ 2) = false := decide_eq_false ht
      have HT : Hid _ := ht
      have hW := isM I r (by omega) tr C1 L2 rfl t
      obtain ⟨-, d1, d2, d3, d4, d5, d6, d7, d8, d9, d10, dz, dl, dlt, dlr⟩ := C1.regs
      clear C1 BX1 ht
      go_wp2_with fail
      refine hW.mono ?_
      rintro v w2 ⟨k2, rfl, h⟩
      clear hW b0 b1 b2 b3 b4 b5 b6 b7 bl d1 d2 d3 d4 d5 d6 d7 d8 d9 d10 dz dl dlt dlr
      have k12 := k1.trans k2 (fun _ _ h => h)
      cases hq2 : wantE X (b + szE l) r t s1 with
      | bad er po =>
        rw [hq2] at h
        obtain ⟨h0, s', C2, kp2⟩ := h
        have HQ2 : Hid (_ = _) := hq2
        have kp := HKP.out.trans kp2
        clear hq2
        obtain ⟨-, d1, d2, d3, d4, d5, d6, d7, d8, d9, d10, dz, dl, dlt, dlr⟩ := C2.regs
        have y0 : (er != 0) = true := by simpa using h0
        have y1 : (er == 0) = false := by simpa using h0
        have HD : Hid _ := And.intro C2 (And.intro k12 (And.intro h0 kp))
        clear C2
        go_wp2_with fail
        go_ret
        exact (EMP.bad (by rw [Hr.out, Hb.out, HQ.out, Rc.bind_ok, if_neg (show ¬ 2 ≤ t by have := HT.out; omega), HQ2.out]; rfl) HD.out.2.1 HD.out.2.2.1 HD.out.1 HD.out.2.2.2).pre HHA.out.2.2
      | ok u s2 =>
        rw [hq2] at h
        have HQ2 : Hid (_ = _) := hq2
        clear hq2
        obtain ⟨-, d1, d2, d3, d4, d5, d6, d7, d8, d9, d10, dz, dl, dlt, dlr⟩ := h.regs
        have q0 := h.tyb.cell (o := K) hk
        have qz := h.tyb.frozen
        have HN : Hid (_ ∧ _) := h.note K (1)
        have HF : Hid _ := k12
        clear h
        go_wp2_with fail
        go_ret
        exact (EMP.ok (by rw [Hr.out, Hb.out, HQ.out, Rc.bind_ok, if_neg (show ¬ 2 ≤ t by have := HT.out; omega), HQ2.out]; rfl) (HF.out.trans HN.out.2 (fun _ _ h => h)) HN.out.1).pre HHA.out.2.2
set_option maxRecDepth 100000 in
set_option maxHeartbeats 8000000 in
theorem em_bin27 (I : ExM B A X cur n fv vv) (H : MXc w B A X cur s 0 0 fv vv) {b : Nat} {nx x : Int} {k p : Int} {l r : Exp} (L : Lie A.ns b (flE b nx (.bin k p l r))) (tl : TyE l) (tr : TyE r) (hsz : szE l + szE r ≤ n) (hx : x = rtE b (.bin k p l r)) (hkk : k = 27) : Calls Tryz.prog 177 #[.pointer (some ⟨A.m, 0, none⟩), .int .i64 x] w (EMP w B A X cur s fv vv (ckE X b (.bin k p l r) s)) := by
  subst hkk
  have Hb : Hid (binT X b 27 l r s = (ckE X b l s).bind fun t s => if 2 ≤ t then .bad 17 (poE l) else (wantE X (b + szE l) r t s).bind fun _ s => .ok 1 s) := by
    show _ = _
    simp [binT]
  obtain ⟨K, hK⟩ : ∃ K, K = b + szE l + szE r := ⟨_, rfl⟩
  obtain rfl : x = ((K : Nat) : Int) := by rw [hx, hK]; simp [rtE, szE]; try omega
  obtain ⟨L1, L2, hn⟩ := Lie.two (by simpa only [flE] using L)
  rw [← hK] at hn
  have hr := ckE_bin (X := X) b 27 p l r s
  rw [← hK] at hr
  have Hr : Hid (_ = _) := hr
  obtain ⟨-, r1, r2, r3, r4, r5, r6, r7, r8, r9, r10, hz, hlt, hltt, hltr⟩ := H.regs
  obtain ⟨hk, hnb, r0, n0, n1, n2, n3, n4, n5, n6, n7⟩ := H.node hn
  try simp only at n0 n1 n2 n3 n4 n5 n6 n7
  have ty0 := H.tyb.cell (o := K) hk
  have tyz := H.tyb.frozen
  have rf0 := H.rfb.cell (o := K) hk
  have rfz := H.rfb.frozen
  have h200 := H.le
  have hkl : ((K : Nat) : Int) < A.ns.length := by omega
  have hK0 : ((K : Nat) : Int) ≥ 0 := by omega
  have BX := boxN_blk w ⟨18, rtE b l, rtE (b + szE l) r, -1, nx, 27, p, ⟨#[]⟩⟩
  have FX := (Fr.refl (fun _ => False) w).alloc (boxN ⟨18, rtE b l, rtE (b + szE l) r, -1, nx, 27, p, ⟨#[]⟩⟩)
  have HA := H.same FX
  have HHA : Hid (MXc (w.alloc (boxN ⟨18, rtE b l, rtE (b + szE l) r, -1, nx, 27, p, ⟨#[]⟩⟩)) B A X cur s 0 0 fv vv ∧ Blk (w.alloc (boxN ⟨18, rtE b l, rtE (b + szE l) r, -1, nx, 27, p, ⟨#[]⟩⟩)) w.heap.size 8 (ndCell ⟨18, rtE b l, rtE (b + szE l) r, -1, nx, 27, p, ⟨#[]⟩⟩) ∧ Fr (fun _ => False) w (w.alloc (boxN ⟨18, rtE b l, rtE (b + szE l) r, -1, nx, 27, p, ⟨#[]⟩⟩))) := ⟨HA, BX, FX⟩
  have Hnew : Hid (∀ d, w.heap.size ≤ d → ¬ MSc A fv vv d) := H.new
  clear BX FX HA
  have HK : Hid _ := hK
  clear hr L hx hK
  have hE := I l (by omega) tl (w.alloc (boxN ⟨18, rtE b l, rtE (b + szE l) r, -1, nx, 27, p, ⟨#[]⟩⟩)) s b (-1) (rtE b l) HHA.out.1 L1 rfl
  have hkeep := keepE X l b s
  obtain ⟨nd2, hn2, _, hpos2, _⟩ := L1.root
  obtain ⟨J, hJ⟩ : ∃ J, J = b + szE l - 1 := ⟨_, rfl⟩
  have ert : rtE b l = (J : Nat) := by rw [rtE_nat, hJ]
  rw [← hJ] at hn2
  have Hert : Hid _ := ert
  clear H hJ ert
  go_enter Tryz.func177, Tryz.ntmps177
  go_wp2_with fail
  refine hE.mono ?_
  rintro v w1 ⟨k1, h⟩
  clear hE
  clear r1 r2 r3 r4 r5 r6 r7 r8 r9 r10 hz hlt hltt hltr hnb r0 n0 n1 n2 n3 n4 n5 n6 n7 ty0 tyz rf0 rfz
  have BX1 := HHA.out.2.1.frame (k1) (Hnew.out _ (Nat.le_refl _))
  have b0 := BX1.cell (o := 0) (by omega)
  have b1 := BX1.cell (o := 1) (by omega)
  have b2 := BX1.cell (o := 2) (by omega)
  have b3 := BX1.cell (o := 3) (by omega)
  have b4 := BX1.cell (o := 4) (by omega)
  have b5 := BX1.cell (o := 5) (by omega)
  have b6 := BX1.cell (o := 6) (by omega)
  have b7 := BX1.cell (o := 7) (by omega)
  simp only [ndCell] at b0 b1 b2 b3 b4 b5 b6 b7
  have bl := BX1.lt
  rw [Hert.out] at b1
  cases hq : ckE X b l s with
  | bad er po =>
    rw [hq] at h
    obtain ⟨rfl, h0, s', C1, kp⟩ := h
    have HQ : Hid (_ = _) := hq
    have hD := isM_dead C1 h0 (rtE (b + szE l) r) (-1)
    clear hq hkeep
    obtain ⟨-, d1, d2, d3, d4, d5, d6, d7, d8, d9, d10, dz, dl, dlt, dlr⟩ := C1.regs
    have y0 : (er != 0) = true := by simpa using h0
    have y1 : (er == 0) = false := by simpa using h0
    have HD : Hid _ := And.intro C1 (And.intro k1 (And.intro h0 kp))
    clear C1 BX1
    go_wp2_with fail
    refine hD.mono ?_
    rintro v w2 ⟨rfl, rfl⟩
    go_wp2_with fail
    go_ret
    exact (EMP.bad (by rw [Hr.out, Hb.out, HQ.out]; rfl) HD.out.2.1 HD.out.2.2.1 HD.out.1 HD.out.2.2.2).pre HHA.out.2.2
  | ok t s1 =>
    rw [hq] at h
    obtain ⟨rfl, C1⟩ := h
    have HKP : Hid (Kp s s1) := (hkeep t s1 hq).1.k
    have HQ : Hid (_ = _) := hq
    clear hq hkeep
    by_cases ht : 2 ≤ t
    · have y2 : decide (t ≥ 2) = true := decide_eq_true ht
      obtain ⟨j1, jb, j0, j3, j4, j5, j6, j7, j8, j9, j10⟩ := C1.node hn2
      rw [hpos2] at j9
      have hjl : (J : Int) < A.ns.length := by omega
      have hN := failM_live (C1.same ((Fr.refl _ _).drew)) 17 (poE l)
      have HT : Hid _ := ht
      have Hk1 : Hid _ := k1
      obtain ⟨-, d1, d2, d3, d4, d5, d6, d7, d8, d9, d10, dz, dl, dlt, dlr⟩ := C1.regs
      clear C1 BX1 ht k1
      go_wp2_with fail
      refine wp_region_text (by kernel_rfl) (by kernel_rfl) ?_
      go_wp2_with fail
      refine hN.mono ?_
      rintro v w3 ⟨rfl, C3, k3⟩
      have HD : Hid _ := And.intro C3 (Hk1.out.drew.trans k3 (fun _ _ h => h))
      clear C3 k3
      go_wp2_with fail
      refine ⟨by kernel_rfl, ?_⟩
      go_wp2_with fail
      go_ret
      exact (EMP.bad (by rw [Hr.out, Hb.out, HQ.out, Rc.bind_ok, if_pos HT.out]; rfl) HD.out.2 (by decide) HD.out.1 HKP.out).pre HHA.out.2.2
    · have y2 : decide (t ≥ 2) = false := decide_eq_false ht
      have HT : Hid _ := ht
      have hW := isM I r (by omega) tr C1 L2 rfl t
      obtain ⟨-, d1, d2, d3, d4, d5, d6, d7, d8, d9, d10, dz, dl, dlt, dlr⟩ := C1.regs
      clear C1 BX1 ht
      go_wp2_with fail
      refine hW.mono ?_
      rintro v w2 ⟨k2, rfl, h⟩
      clear hW b0 b1 b2 b3 b4 b5 b6 b7 bl d1 d2 d3 d4 d5 d6 d7 d8 d9 d10 dz dl dlt dlr
      have k12 := k1.trans k2 (fun _ _ h => h)
      cases hq2 : wantE X (b + szE l) r t s1 with
      | bad er po =>
        rw [hq2] at h
        obtain ⟨h0, s', C2, kp2⟩ := h
        have HQ2 : Hid (_ = _) := hq2
        have kp := HKP.out.trans kp2
        clear hq2
        obtain ⟨-, d1, d2, d3, d4, d5, d6, d7, d8, d9, d10, dz, dl, dlt, dlr⟩ := C2.regs
        have y0 : (er != 0) = true := by simpa using h0
        have y1 : (er == 0) = false := by simpa using h0
        have HD : Hid _ := And.intro C2 (And.intro k12 (And.intro h0 kp))
        clear C2
        go_wp2_with fail
        go_ret
        exact (EMP.bad (by rw [Hr.out, Hb.out, HQ.out, Rc.bind_ok, if_neg (show ¬ 2 ≤ t by have := HT.out; omega), HQ2.out]; rfl) HD.out.2.1 HD.out.2.2.1 HD.out.1 HD.out.2.2.2).pre HHA.out.2.2
      | ok u s2 =>
        rw [hq2] at h
        have HQ2 : Hid (_ = _) := hq2
        clear hq2
        obtain ⟨-, d1, d2, d3, d4, d5, d6, d7, d8, d9, d10, dz, dl, dlt, dlr⟩ := h.regs
        have q0 := h.tyb.cell (o := K) hk
        have qz := h.tyb.frozen
        have HN : Hid (_ ∧ _) := h.note K (1)
        have HF : Hid _ := k12
        clear h
        go_wp2_with fail
        go_ret
        exact (EMP.ok (by rw [Hr.out, Hb.out, HQ.out, Rc.bind_ok, if_neg (show ¬ 2 ≤ t by have := HT.out; omega), HQ2.out]; rfl) (HF.out.trans HN.out.2 (fun _ _ h => h)) HN.out.1).pre HHA.out.2.2
end
end Go.Proofs.Qxb6500277aGreat
