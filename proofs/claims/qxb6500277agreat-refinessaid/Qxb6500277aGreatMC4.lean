/- The model checker: expressions with parts. -/
import Derived.Test.Qxb6500277aGreatMC3
namespace Go.Proofs.Qxb6500277aGreat
open Go Go.RowKit

section
variable {w w' : World} {B : Nat} {A : Ma} {X : Cx} {cur : Nat} {s : Ck} {er po : Int} {fv vv : Value} {n : Nat}
set_option maxRecDepth 100000 in
set_option maxHeartbeats 8000000 in
theorem em_new (I : ExM B A X cur n fv vv) (H : MXc w B A X cur s 0 0 fv vv) {b : Nat} {nx x : Int} {t p : Int} {e : Exp} (L : Lie A.ns b (flE b nx (.new t p e))) (te : TyE e) (hsz : szE e ≤ n) (hx : x = rtE b (.new t p e)) : Calls Tryz.prog 177 #[.pointer (some ⟨A.m, 0, none⟩), .int .i64 x] w (EMP w B A X cur s fv vv (ckE X b (.new t p e) s)) := by
  obtain ⟨K, hK⟩ : ∃ K, K = b + szE e := ⟨_, rfl⟩
  obtain rfl : x = ((K : Nat) : Int) := by rw [hx, hK]; simp [rtE, szE]; try omega
  obtain ⟨L1, hn⟩ := Lie.un (by simpa only [flE] using L)
  rw [← hK] at hn
  have hr := ckE_new (X := X) b t p e s
  rw [← hK] at hr
  have Hr : Hid (_ = _) := hr
  obtain ⟨-, r1, r2, r3, r4, r5, r6, r7, r8, r9, r10, hz, hlt, hltt, hltr⟩ := H.regs
  obtain ⟨hk, hnb, r0, n0, n1, n2, n3, n4, n5, n6, n7⟩ := H.node hn
  try simp only at n0 n1 n2 n3 n4 n5 n6 n7
  have ty0 := H.tyb.cell (o := K) hk
  have tyz := H.tyb.frozen
  have rf0 := H.rfb.cell (o := K) hk
  have rfz := H.rfb.frozen
  have h200 := H.le
  have hkl : ((K : Nat) : Int) < A.ns.length := by omega
  have hK0 : ((K : Nat) : Int) ≥ 0 := by omega
  have BX := boxN_blk w ⟨15, rtE b e, -1, -1, nx, t, p, ⟨#[]⟩⟩
  have FX := (Fr.refl (fun _ => False) w).alloc (boxN ⟨15, rtE b e, -1, -1, nx, t, p, ⟨#[]⟩⟩)
  have HA := H.same FX
  have HHA : Hid (MXc (w.alloc (boxN ⟨15, rtE b e, -1, -1, nx, t, p, ⟨#[]⟩⟩)) B A X cur s 0 0 fv vv ∧ Blk (w.alloc (boxN ⟨15, rtE b e, -1, -1, nx, t, p, ⟨#[]⟩⟩)) w.heap.size 8 (ndCell ⟨15, rtE b e, -1, -1, nx, t, p, ⟨#[]⟩⟩) ∧ Fr (fun _ => False) w (w.alloc (boxN ⟨15, rtE b e, -1, -1, nx, t, p, ⟨#[]⟩⟩))) := ⟨HA, BX, FX⟩
  have Hnew : Hid (∀ d, w.heap.size ≤ d → ¬ MSc A fv vv d) := H.new
  clear BX FX HA
  have HK : Hid _ := hK
  clear hr L hx hK
  by_cases ht : t < 2
  · have z1 : decide (t < 2) = true := decide_eq_true ht
    have hN := failM_live HHA.out.1 17 p
    have HT : Hid _ := ht
    clear ht H
    go_enter Tryz.func177, Tryz.ntmps177
    go_wp2_with fail
    refine hN.mono ?_
    rintro v w3 ⟨rfl, C3, k3⟩
    go_wp2_with fail
    go_ret
    exact (EMP.bad (by rw [Hr.out, if_pos HT.out]) k3 (by decide) C3 (Kp.refl s)).pre HHA.out.2.2
  · have z1 : decide (t < 2) = false := decide_eq_false ht
    have HT : Hid _ := ht
    have hW := isM I e hsz te HHA.out.1 L1 rfl 0
    clear ht H
    go_enter Tryz.func177, Tryz.ntmps177
    go_wp2_with fail
    refine hW.mono ?_
    rintro v w1 ⟨k1, rfl, h⟩
    clear hW
    clear r1 r2 r3 r4 r5 r6 r7 r8 r9 r10 hz hlt hltt hltr hnb r0 n0 n1 n2 n3 n4 n5 n6 n7 ty0 tyz rf0 rfz
    cases hq : wantE X b e 0 s with
    | bad er po =>
      rw [hq] at h
      obtain ⟨h0, s', C1, kp⟩ := h
      have HQ : Hid (_ = _) := hq
      clear hq
      obtain ⟨-, d1, d2, d3, d4, d5, d6, d7, d8, d9, d10, dz, dl, dlt, dlr⟩ := C1.regs
      have y0 : (er != 0) = true := by simpa using h0
      have y1 : (er == 0) = false := by simpa using h0
      have HD : Hid _ := And.intro C1 (And.intro k1 (And.intro h0 kp))
      clear C1
      go_wp2_with fail
      go_ret
      exact (EMP.bad (by rw [Hr.out, if_neg (show ¬ t < 2 by have := HT.out; omega), HQ.out]; rfl) HD.out.2.1 HD.out.2.2.1 HD.out.1 HD.out.2.2.2).pre HHA.out.2.2
    | ok u s1 =>
      rw [hq] at h
      have HQ : Hid (_ = _) := hq
      clear hq
      obtain ⟨-, d1, d2, d3, d4, d5, d6, d7, d8, d9, d10, dz, dl, dlt, dlr⟩ := h.regs
      have q0 := h.tyb.cell (o := K) hk
      have qz := h.tyb.frozen
      have HN : Hid (_ ∧ _) := h.note K (t)
      have HF : Hid _ := k1
      clear h
      go_wp2_with fail
      go_ret
      exact (EMP.ok (by rw [Hr.out, if_neg (show ¬ t < 2 by have := HT.out; omega), HQ.out]; rfl) (HF.out.trans HN.out.2 (fun _ _ h => h)) HN.out.1).pre HHA.out.2.2
set_option maxRecDepth 100000 in
set_option maxHeartbeats 8000000 in
theorem em_un (I : ExM B A X cur n fv vv) (H : MXc w B A X cur s 0 0 fv vv) {b : Nat} {nx x : Int} {k p : Int} {e : Exp} (L : Lie A.ns b (flE b nx (.un k p e))) (te : TyE e) (hsz : szE e ≤ n) (hx : x = rtE b (.un k p e)) : Calls Tryz.prog 177 #[.pointer (some ⟨A.m, 0, none⟩), .int .i64 x] w (EMP w B A X cur s fv vv (ckE X b (.un k p e) s)) := by
  obtain ⟨K, hK⟩ : ∃ K, K = b + szE e := ⟨_, rfl⟩
  obtain rfl : x = ((K : Nat) : Int) := by rw [hx, hK]; simp [rtE, szE]; try omega
  obtain ⟨L1, hn⟩ := Lie.un (by simpa only [flE] using L)
  rw [← hK] at hn
  have hr := ckE_un (X := X) b k p e s
  rw [← hK] at hr
  have Hr : Hid (_ = _) := hr
  obtain ⟨-, r1, r2, r3, r4, r5, r6, r7, r8, r9, r10, hz, hlt, hltt, hltr⟩ := H.regs
  obtain ⟨hk, hnb, r0, n0, n1, n2, n3, n4, n5, n6, n7⟩ := H.node hn
  try simp only at n0 n1 n2 n3 n4 n5 n6 n7
  have ty0 := H.tyb.cell (o := K) hk
  have tyz := H.tyb.frozen
  have rf0 := H.rfb.cell (o := K) hk
  have rfz := H.rfb.frozen
  have h200 := H.le
  have hkl : ((K : Nat) : Int) < A.ns.length := by omega
  have hK0 : ((K : Nat) : Int) ≥ 0 := by omega
  have BX := boxN_blk w ⟨19, rtE b e, -1, -1, nx, k, p, ⟨#[]⟩⟩
  have FX := (Fr.refl (fun _ => False) w).alloc (boxN ⟨19, rtE b e, -1, -1, nx, k, p, ⟨#[]⟩⟩)
  have HA := H.same FX
  have HHA : Hid (MXc (w.alloc (boxN ⟨19, rtE b e, -1, -1, nx, k, p, ⟨#[]⟩⟩)) B A X cur s 0 0 fv vv ∧ Blk (w.alloc (boxN ⟨19, rtE b e, -1, -1, nx, k, p, ⟨#[]⟩⟩)) w.heap.size 8 (ndCell ⟨19, rtE b e, -1, -1, nx, k, p, ⟨#[]⟩⟩) ∧ Fr (fun _ => False) w (w.alloc (boxN ⟨19, rtE b e, -1, -1, nx, k, p, ⟨#[]⟩⟩))) := ⟨HA, BX, FX⟩
  have Hnew : Hid (∀ d, w.heap.size ≤ d → ¬ MSc A fv vv d) := H.new
  clear BX FX HA
  have HK : Hid _ := hK
  clear hr L hx hK
  by_cases hk39 : k = 39
  · skip
    have eu : unT k = 1 := by unfold unT; rw [if_pos hk39]
    rw [eu] at Hr
    have z1 : (k == 39) = true := by simpa using hk39
    have hW := isM I e hsz te HHA.out.1 L1 rfl 1
    clear H eu hk39
    go_enter Tryz.func177, Tryz.ntmps177
    go_wp2_with fail
    refine hW.mono ?_
    rintro v w1 ⟨k1, rfl, h⟩
    clear hW
    clear r1 r2 r3 r4 r5 r6 r7 r8 r9 r10 hz hlt hltt hltr hnb r0 n0 n1 n2 n3 n4 n5 n6 n7 ty0 tyz rf0 rfz
    cases hq : wantE X b e 1 s with
    | bad er po =>
      rw [hq] at h
      obtain ⟨h0, s', C1, kp⟩ := h
      have HQ : Hid (_ = _) := hq
      clear hq
      obtain ⟨-, d1, d2, d3, d4, d5, d6, d7, d8, d9, d10, dz, dl, dlt, dlr⟩ := C1.regs
      have y0 : (er != 0) = true := by simpa using h0
      have y1 : (er == 0) = false := by simpa using h0
      have HD : Hid _ := And.intro C1 (And.intro k1 (And.intro h0 kp))
      clear C1
      go_wp2_with fail
      go_ret
      exact (EMP.bad (by rw [Hr.out, HQ.out]; rfl) HD.out.2.1 HD.out.2.2.1 HD.out.1 HD.out.2.2.2).pre HHA.out.2.2
    | ok u s1 =>
      rw [hq] at h
      have HQ : Hid (_ = _) := hq
      clear hq
      obtain ⟨-, d1, d2, d3, d4, d5, d6, d7, d8, d9, d10, dz, dl, dlt, dlr⟩ := h.regs
      have q0 := h.tyb.cell (o := K) hk
      have qz := h.tyb.frozen
      have HN : Hid (_ ∧ _) := h.note K (1)
      have HF : Hid _ := k1
      clear h
      go_wp2_with fail
      go_ret
      exact (EMP.ok (by rw [Hr.out, HQ.out]; rfl) (HF.out.trans HN.out.2 (fun _ _ h => h)) HN.out.1).pre HHA.out.2.2
  · skip
    have eu : unT k = 0 := by unfold unT; rw [if_neg hk39]
    rw [eu] at Hr
    have z1 : (k == 39) = false := by simpa using hk39
    have hW := isM I e hsz te HHA.out.1 L1 rfl 0
    clear H eu hk39
    go_enter Tryz.func177, Tryz.ntmps177
    go_wp2_with fail
    refine hW.mono ?_
    rintro v w1 ⟨k1, rfl, h⟩
    clear hW
    clear r1 r2 r3 r4 r5 r6 r7 r8 r9 r10 hz hlt hltt hltr hnb r0 n0 n1 n2 n3 n4 n5 n6 n7 ty0 tyz rf0 rfz
    cases hq : wantE X b e 0 s with
    | bad er po =>
      rw [hq] at h
      obtain ⟨h0, s', C1, kp⟩ := h
      have HQ : Hid (_ = _) := hq
      clear hq
      obtain ⟨-, d1, d2, d3, d4, d5, d6, d7, d8, d9, d10, dz, dl, dlt, dlr⟩ := C1.regs
      have y0 : (er != 0) = true := by simpa using h0
      have y1 : (er == 0) = false := by simpa using h0
      have HD : Hid _ := And.intro C1 (And.intro k1 (And.intro h0 kp))
      clear C1
      go_wp2_with fail
      go_ret
      exact (EMP.bad (by rw [Hr.out, HQ.out]; rfl) HD.out.2.1 HD.out.2.2.1 HD.out.1 HD.out.2.2.2).pre HHA.out.2.2
    | ok u s1 =>
      rw [hq] at h
      have HQ : Hid (_ = _) := hq
      clear hq
      obtain ⟨-, d1, d2, d3, d4, d5, d6, d7, d8, d9, d10, dz, dl, dlt, dlr⟩ := h.regs
      have q0 := h.tyb.cell (o := K) hk
      have qz := h.tyb.frozen
      have HN : Hid (_ ∧ _) := h.note K (0)
      have HF : Hid _ := k1
      clear h
      go_wp2_with fail
      go_ret
      exact (EMP.ok (by rw [Hr.out, HQ.out]; rfl) (HF.out.trans HN.out.2 (fun _ _ h => h)) HN.out.1).pre HHA.out.2.2
set_option maxRecDepth 100000 in
set_option maxHeartbeats 8000000 in
theorem em_idx (I : ExM B A X cur n fv vv) (H : MXc w B A X cur s 0 0 fv vv) {b : Nat} {nx x : Int} {p : Int} {a c : Exp} (L : Lie A.ns b (flE b nx (.idx p a c))) (ta : TyE a) (tc : TyE c) (hsz : szE a + szE c ≤ n) (hx : x = rtE b (.idx p a c)) : Calls Tryz.prog 177 #[.pointer (some ⟨A.m, 0, none⟩), .int .i64 x] w (EMP w B A X cur s fv vv (ckE X b (.idx p a c) s)) := by
  obtain ⟨K, hK⟩ : ∃ K, K = b + szE a + szE c := ⟨_, rfl⟩
  obtain rfl : x = ((K : Nat) : Int) := by rw [hx, hK]; simp [rtE, szE]; try omega
  obtain ⟨L1, L2, hn⟩ := Lie.two (by simpa only [flE] using L)
  rw [← hK] at hn
  have hr := ckE_idx (X := X) b p a c s
  rw [← hK] at hr
  have Hr : Hid (_ = _) := hr
  obtain ⟨-, r1, r2, r3, r4, r5, r6, r7, r8, r9, r10, hz, hlt, hltt, hltr⟩ := H.regs
  obtain ⟨hk, hnb, r0, n0, n1, n2, n3, n4, n5, n6, n7⟩ := H.node hn
  try simp only at n0 n1 n2 n3 n4 n5 n6 n7
  have ty0 := H.tyb.cell (o := K) hk
  have tyz := H.tyb.frozen
  have rf0 := H.rfb.cell (o := K) hk
  have rfz := H.rfb.frozen
  have h200 := H.le
  have hkl : ((K : Nat) : Int) < A.ns.length := by omega
  have hK0 : ((K : Nat) : Int) ≥ 0 := by omega
  have BX := boxN_blk w ⟨14, rtE b a, rtE (b + szE a) c, -1, nx, 0, p, ⟨#[]⟩⟩
  have FX := (Fr.refl (fun _ => False) w).alloc (boxN ⟨14, rtE b a, rtE (b + szE a) c, -1, nx, 0, p, ⟨#[]⟩⟩)
  have HA := H.same FX
  have HHA : Hid (MXc (w.alloc (boxN ⟨14, rtE b a, rtE (b + szE a) c, -1, nx, 0, p, ⟨#[]⟩⟩)) B A X cur s 0 0 fv vv ∧ Blk (w.alloc (boxN ⟨14, rtE b a, rtE (b + szE a) c, -1, nx, 0, p, ⟨#[]⟩⟩)) w.heap.size 8 (ndCell ⟨14, rtE b a, rtE (b + szE a) c, -1, nx, 0, p, ⟨#[]⟩⟩) ∧ Fr (fun _ => False) w (w.alloc (boxN ⟨14, rtE b a, rtE (b + szE a) c, -1, nx, 0, p, ⟨#[]⟩⟩))) := ⟨HA, BX, FX⟩
  have Hnew : Hid (∀ d, w.heap.size ≤ d → ¬ MSc A fv vv d) := H.new
  clear BX FX HA
  have HK : Hid _ := hK
  clear hr L hx hK
  have hE := I a (by omega) ta (w.alloc (boxN ⟨14, rtE b a, rtE (b + szE a) c, -1, nx, 0, p, ⟨#[]⟩⟩)) s b (-1) (rtE b a) HHA.out.1 L1 rfl
  have hkeep := keepE X a b s
  have hv := H.vts
  clear H
  go_enter Tryz.func177, Tryz.ntmps177
  go_wp2_with fail
  refine hE.mono ?_
  rintro v w1 ⟨k1, h⟩
  clear hE
  clear r1 r2 r3 r4 r5 r6 r7 r8 r9 r10 hz hlt hltt hltr hnb r0 n0 n1 n2 n3 n4 n5 n6 n7 ty0 tyz rf0 rfz
  have BX1 := HHA.out.2.1.frame (k1) (Hnew.out _ (Nat.le_refl _))
  have b0 := BX1.cell (o := 0) (by omega)
  have b1 := BX1.cell (o := 1) (by omega)
  have b2 := BX1.cell (o := 2) (by omega)
  have b3 := BX1.cell (o := 3) (by omega)
  have b4 := BX1.cell (o := 4) (by omega)
  have b5 := BX1.cell (o := 5) (by omega)
  have b6 := BX1.cell (o := 6) (by omega)
  have b7 := BX1.cell (o := 7) (by omega)
  simp only [ndCell] at b0 b1 b2 b3 b4 b5 b6 b7
  have bl := BX1.lt
  cases hq : ckE X b a s with
  | bad er po =>
    rw [hq] at h
    obtain ⟨rfl, h0, s', C1, kp⟩ := h
    have HQ : Hid (_ = _) := hq
    have hD := isM_dead C1 h0 (rtE (b + szE a) c) 0
    clear hq hkeep hv
    obtain ⟨-, d1, d2, d3, d4, d5, d6, d7, d8, d9, d10, dz, dl, dlt, dlr⟩ := C1.regs
    have y0 : (er != 0) = true := by simpa using h0
    have y1 : (er == 0) = false := by simpa using h0
    have HD : Hid _ := And.intro C1 (And.intro k1 (And.intro h0 kp))
    clear C1 BX1
    go_wp2_with fail
    refine hD.mono ?_
    rintro v w2 ⟨rfl, rfl⟩
    go_wp2_with fail
    go_ret
    exact (EMP.bad (by rw [Hr.out, HQ.out]; rfl) HD.out.2.1 HD.out.2.2.1 HD.out.1 HD.out.2.2.2).pre HHA.out.2.2
  | ok t s1 =>
    rw [hq] at h
    obtain ⟨rfl, C1⟩ := h
    have kp := (hkeep t s1 hq).1.k
    have HQ : Hid (_ = _) := hq
    have HKP : Hid _ := kp
    obtain ⟨t0, t8⟩ := (hkeep t s1 HQ.out).2.2 hv ta
    clear hq hkeep kp hv
    obtain ⟨-, d1, d2, d3, d4, d5, d6, d7, d8, d9, d10, dz, dl, dlt, dlr⟩ := C1.regs
    by_cases ht : t < 2
    · have y2 : decide (t - 2 < 0) = true := decide_eq_true (by omega)
      have hN := failM_live C1 17 p
      have HT : Hid _ := ht
      have Hk1 : Hid _ := k1
      clear C1 BX1 ht k1
      go_wp2_with fail
      refine hN.mono ?_
      rintro v w3 ⟨rfl, C3, k3⟩
      go_wp2_with fail
      go_ret
      exact (EMP.bad (by rw [Hr.out, HQ.out]; show (if t < 2 then _ else _) = _; rw [if_pos HT.out]) (Hk1.out.trans k3 (fun _ _ h => h)) (by decide) C3 HKP.out).pre HHA.out.2.2
    · have y2 : decide (t - 2 < 0) = false := decide_eq_false (by omega)
      have HT : Hid _ := ht
      have hW := isM I c (by omega) tc C1 L2 rfl 0
      clear C1 BX1 ht
      go_wp2_with fail
      refine hW.mono ?_
      rintro v w2 ⟨k2, rfl, h⟩
      clear hW b0 b1 b2 b3 b4 b5 b6 b7 bl d1 d2 d3 d4 d5 d6 d7 d8 d9 d10 dz dl dlt dlr
      have k12 := k1.trans k2 (fun _ _ h => h)
      cases hq2 : wantE X (b + szE a) c 0 s1 with
      | bad er po =>
        rw [hq2] at h
        obtain ⟨h0, s', C2, kp2⟩ := h
        have HQ2 : Hid (_ = _) := hq2
        have kp := HKP.out.trans kp2
        clear hq2
        obtain ⟨-, d1, d2, d3, d4, d5, d6, d7, d8, d9, d10, dz, dl, dlt, dlr⟩ := C2.regs
        have y0 : (er != 0) = true := by simpa using h0
        have y1 : (er == 0) = false := by simpa using h0
        have HD : Hid _ := And.intro C2 (And.intro k12 (And.intro h0 kp))
        clear C2
        go_wp2_with fail
        go_ret
        exact (EMP.bad (by rw [Hr.out, HQ.out]; show (if t < 2 then _ else _) = _; rw [if_neg (show ¬ t < 2 by have := HT.out; omega), HQ2.out]; rfl) HD.out.2.1 HD.out.2.2.1 HD.out.1 HD.out.2.2.2).pre HHA.out.2.2
      | ok u s2 =>
        rw [hq2] at h
        have HQ2 : Hid (_ = _) := hq2
        clear hq2
        obtain ⟨-, d1, d2, d3, d4, d5, d6, d7, d8, d9, d10, dz, dl, dlt, dlr⟩ := h.regs
        have q0 := h.tyb.cell (o := K) hk
        have qz := h.tyb.frozen
        have HN : Hid (_ ∧ _) := h.note K (t - 2)
        have HF : Hid _ := k12
        clear h
        go_wp2_with fail
        go_ret
        exact (EMP.ok (by rw [Hr.out, HQ.out]; show (if t < 2 then _ else _) = _; rw [if_neg (show ¬ t < 2 by have := HT.out; omega), HQ2.out]; rfl) (HF.out.trans HN.out.2 (fun _ _ h => h)) HN.out.1).pre HHA.out.2.2
set_option maxRecDepth 100000 in
set_option maxHeartbeats 8000000 in
theorem em_len (I : ExM B A X cur n fv vv) (H : MXc w B A X cur s 0 0 fv vv) {b : Nat} {nx x : Int} {p : Int} {e : Exp} (L : Lie A.ns b (flE b nx (.len p e))) (te : TyE e) (hsz : szE e ≤ n) (hx : x = rtE b (.len p e)) : Calls Tryz.prog 177 #[.pointer (some ⟨A.m, 0, none⟩), .int .i64 x] w (EMP w B A X cur s fv vv (ckE X b (.len p e) s)) := by
  obtain ⟨K, hK⟩ : ∃ K, K = b + szE e := ⟨_, rfl⟩
  obtain rfl : x = ((K : Nat) : Int) := by rw [hx, hK]; simp [rtE, szE]; try omega
  obtain ⟨L1, hn⟩ := Lie.un (by simpa only [flE] using L)
  rw [← hK] at hn
  have hr := (show ckE X b (.len p e) s = (ckE X b e s).bind fun u s => if u < 2 then .bad 17 (poE e) else Go.Proofs.Qxb6500277aGreat.note (b + szE e) 0 s by simp only [ckE])
  rw [← hK] at hr
  have Hr : Hid (_ = _) := hr
  obtain ⟨-, r1, r2, r3, r4, r5, r6, r7, r8, r9, r10, hz, hlt, hltt, hltr⟩ := H.regs
  obtain ⟨hk, hnb, r0, n0, n1, n2, n3, n4, n5, n6, n7⟩ := H.node hn
  try simp only at n0 n1 n2 n3 n4 n5 n6 n7
  have ty0 := H.tyb.cell (o := K) hk
  have tyz := H.tyb.frozen
  have rf0 := H.rfb.cell (o := K) hk
  have rfz := H.rfb.frozen
  have h200 := H.le
  have hkl : ((K : Nat) : Int) < A.ns.length := by omega
  have hK0 : ((K : Nat) : Int) ≥ 0 := by omega
  have BX := boxN_blk w ⟨16, rtE b e, -1, -1, nx, 0, p, ⟨#[]⟩⟩
  have FX := (Fr.refl (fun _ => False) w).alloc (boxN ⟨16, rtE b e, -1, -1, nx, 0, p, ⟨#[]⟩⟩)
  have HA := H.same FX
  have HHA : Hid (MXc (w.alloc (boxN ⟨16, rtE b e, -1, -1, nx, 0, p, ⟨#[]⟩⟩)) B A X cur s 0 0 fv vv ∧ Blk (w.alloc (boxN ⟨16, rtE b e, -1, -1, nx, 0, p, ⟨#[]⟩⟩)) w.heap.size 8 (ndCell ⟨16, rtE b e, -1, -1, nx, 0, p, ⟨#[]⟩⟩) ∧ Fr (fun _ => False) w (w.alloc (boxN ⟨16, rtE b e, -1, -1, nx, 0, p, ⟨#[]⟩⟩))) := ⟨HA, BX, FX⟩
  have Hnew : Hid (∀ d, w.heap.size ≤ d → ¬ MSc A fv vv d) := H.new
  clear BX FX HA
  have HK : Hid _ := hK
  clear hr L hx hK
  have hE := I e hsz te (w.alloc (boxN ⟨16, rtE b e, -1, -1, nx, 0, p, ⟨#[]⟩⟩)) s b (-1) (rtE b e) HHA.out.1 L1 rfl
  have hkeep := keepE X e b s
  obtain ⟨nd2, hn2, _, hpos2, _⟩ := L1.root
  obtain ⟨J, hJ⟩ : ∃ J, J = b + szE e - 1 := ⟨_, rfl⟩
  have ert : rtE b e = (J : Nat) := by rw [rtE_nat, hJ]
  rw [← hJ] at hn2
  have Hert : Hid _ := ert
  clear H hJ ert
  go_enter Tryz.func177, Tryz.ntmps177
  go_wp2_with fail
  refine hE.mono ?_
  rintro v w1 ⟨k1, h⟩
  clear hE
  clear r1 r2 r3 r4 r5 r6 r7 r8 r9 r10 hz hlt hltt hltr hnb r0 n0 n1 n2 n3 n4 n5 n6 n7 ty0 tyz rf0 rfz
  have BX1 := HHA.out.2.1.frame (k1) (Hnew.out _ (Nat.le_refl _))
  have b0 := BX1.cell (o := 0) (by omega)
  have b1 := BX1.cell (o := 1) (by omega)
  have b2 := BX1.cell (o := 2) (by omega)
  have b3 := BX1.cell (o := 3) (by omega)
  have b4 := BX1.cell (o := 4) (by omega)
  have b5 := BX1.cell (o := 5) (by omega)
  have b6 := BX1.cell (o := 6) (by omega)
  have b7 := BX1.cell (o := 7) (by omega)
  simp only [ndCell] at b0 b1 b2 b3 b4 b5 b6 b7
  have bl := BX1.lt
  rw [Hert.out] at b1
  cases hq : ckE X b e s with
  | bad er po =>
    rw [hq] at h
    obtain ⟨rfl, h0, s', C1, kp⟩ := h
    have HQ : Hid (_ = _) := hq
    have hD := failM_dead (C1.same ((Fr.refl _ _).drew)) h0 17
    obtain ⟨j1, jb, j0, j3, j4, j5, j6, j7, j8, j9, j10⟩ := C1.node hn2
    have hjl : (J : Int) < A.ns.length := by omega
    clear hq hkeep
    obtain ⟨-, d1, d2, d3, d4, d5, d6, d7, d8, d9, d10, dz, dl, dlt, dlr⟩ := C1.regs
    have y0 : (er != 0) = true := by simpa using h0
    have y1 : (er == 0) = false := by simpa using h0
    have HD : Hid _ := And.intro C1 (And.intro k1 (And.intro h0 kp))
    clear C1 BX1
    go_wp2_with fail
    refine wp_region_text (by kernel_rfl) (by kernel_rfl) ?_
    go_wp2_with fail
    refine (hD _).mono ?_
    rintro v w2 ⟨rfl, rfl⟩
    go_wp2_with fail
    refine ⟨by kernel_rfl, ?_⟩
    go_wp2_with fail
    go_ret
    exact (EMP.bad (by rw [Hr.out, HQ.out]; rfl) HD.out.2.1.drew HD.out.2.2.1 (HD.out.1.same ((Fr.refl _ _).drew)) HD.out.2.2.2).pre HHA.out.2.2
  | ok t s1 =>
    rw [hq] at h
    obtain ⟨rfl, C1⟩ := h
    have HKP : Hid (Kp s s1) := (hkeep t s1 hq).1.k
    have HQ : Hid (_ = _) := hq
    obtain ⟨j1, jb, j0, j3, j4, j5, j6, j7, j8, j9, j10⟩ := C1.node hn2
    rw [hpos2] at j9
    have hjl : (J : Int) < A.ns.length := by omega
    clear hq hkeep
    by_cases ht : t < 2
    · have y2 : decide (t < 2) = true := decide_eq_true ht
      have hN := failM_live (C1.same ((Fr.refl _ _).drew)) 17 (poE e)
      have HT : Hid _ := ht
      have Hk1 : Hid _ := k1
      obtain ⟨-, d1, d2, d3, d4, d5, d6, d7, d8, d9, d10, dz, dl, dlt, dlr⟩ := C1.regs
      clear C1 BX1 ht k1
      go_wp2_with fail
      refine wp_region_text (by kernel_rfl) (by kernel_rfl) ?_
      go_wp2_with fail
      refine hN.mono ?_
      rintro v w3 ⟨rfl, C3, k3⟩
      clear d1 d2 d3 d4 d5 d6 d7 d8 d9 d10 dz dl dlt dlr jb j0 j3 j4 j5 j6 j7 j8 j9 j10
      obtain ⟨-, d1, d2, d3, d4, d5, d6, d7, d8, d9, d10, dz, dl, dlt, dlr⟩ := C3.regs
      have HD : Hid _ := And.intro C3 (Hk1.out.drew.trans k3 (fun _ _ h => h))
      clear C3 k3
      go_wp2_with fail
      refine ⟨by kernel_rfl, ?_⟩
      go_wp2_with fail
      go_ret
      exact (EMP.bad (by rw [Hr.out, HQ.out]; show (if t < 2 then _ else _) = _; rw [if_pos HT.out]) HD.out.2 (by decide) HD.out.1 HKP.out).pre HHA.out.2.2
    · have y2 : decide (t < 2) = false := decide_eq_false ht
      have HT : Hid _ := ht
      clear ht j0
      obtain ⟨-, d1, d2, d3, d4, d5, d6, d7, d8, d9, d10, dz, dl, dlt, dlr⟩ := C1.regs
      have q0 := C1.tyb.cell (o := K) hk
      have qz := C1.tyb.frozen
      have HN : Hid (_ ∧ _) := C1.note K (0)
      have HF : Hid _ := k1
      clear C1
      go_wp2_with fail
      go_ret
      exact (EMP.ok (by rw [Hr.out, HQ.out]; show (if t < 2 then _ else _) = _; rw [if_neg (show ¬ t < 2 by have := HT.out; omega)]; rfl) (HF.out.trans HN.out.2 (fun _ _ h => h)) HN.out.1).pre HHA.out.2.2
end
end Go.Proofs.Qxb6500277aGreat
