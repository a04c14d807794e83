/- The real checker: expressions with parts. -/
import Derived.Test.Qxb6500277aGreatCX1
namespace Go.Proofs.Qxb6500277aGreat
open Go Go.RowKit

section
variable {w w' : World} {A : Ca} {X : Cx} {cur : Nat} {s : Ck} {er po : Int} {n : Nat}
set_option maxRecDepth 100000 in
set_option maxHeartbeats 8000000 in
theorem ex_new (I : ExC A X cur n) (H : CM w A X cur s 0 0) {b : Nat} {nx x : Int} {t p : Int} {e : Exp} (L : Lie A.ns b (flE b nx (.new t p e))) (te : TyE e) (ht8 : 0 ≤ t ∧ t < 8) (hsz : szE e ≤ n) (hx : x = rtE b (.new t p e)) : Calls Tryz.prog 191 #[.pointer (some ⟨A.c, 0, none⟩), .int .i64 x] w (EP w A X cur (ckE X b (.new t p e) s)) := by
  obtain ⟨K, hK⟩ : ∃ K, K = b + szE e := ⟨_, rfl⟩
  obtain rfl : x = ((K : Nat) : Int) := by rw [hx, hK]; simp [rtE, szE]; try omega
  obtain ⟨L1, hn⟩ := Lie.un (by simpa only [flE] using L)
  rw [← hK] at hn
  have hr := ckE_new (X := X) b t p e s
  rw [← hK] at hr
  have Hr : Hid (_ = _) := hr
  obtain ⟨hk, hnb, r415, n0, n1, n2, n3, n4, n5, n6, n7, n8⟩ := H.node hn
  try simp only at n0 n1 n2 n3 n4 n5 n6 n7 n8
  obtain ⟨r0, r161, r162, r163, r164, r325, r414, r416, r417, r418, r419, hz⟩ := H.regs
  obtain ⟨hlt, hlt2, hlt3⟩ := H.blt
  have ty0 := H.tyb.cell (o := K) hk
  have tyz := H.tyb.frozen
  have rf0 := H.rfb.cell (o := K) hk
  have rfz := H.rfb.frozen
  have h200 := H.le
  have hkl : ((K : Nat) : Int) < A.ns.length := by omega
  have hK0 : ((K : Nat) : Int) ≥ 0 := by omega
  have HK : Hid _ := hK
  clear hr L hx hK
  by_cases ht : t < 2
  · have z1 : decide (t < 2) = true := decide_eq_true ht
    have hN := noneC H 17 p
    have HT : Hid _ := ht
    clear ht H
    go_enter Tryz.func191, Tryz.ntmps191
    go_wp2_with fail
    refine hN.mono ?_
    rintro v w3 ⟨rfl, C3, k3⟩
    go_wp2_with fail
    go_ret
    exact EP.bad (by rw [Hr.out, if_pos HT.out]) k3 (by decide) C3
  · have z1 : decide (t < 2) = false := decide_eq_false ht
    have z2 : decide (t ≥ 0) = true := decide_eq_true (by omega)
    have HT : Hid _ := ht
    have hW := wantF I e hsz te H L1 rfl 0
    clear ht H
    go_enter Tryz.func191, Tryz.ntmps191
    go_wp2_with fail
    refine hW.mono ?_
    rintro v w1 ⟨k1, h⟩
    clear hW
    cases hq : wantE X b e 0 s with
    | bad er po =>
      rw [hq] at h
      obtain ⟨rfl, h0, s', C⟩ := h
      have HQ : Hid (_ = _) := hq
      clear hq
      go_wp2_with fail
      go_ret
      exact EP.bad (by rw [Hr.out, if_neg (show ¬ t < 2 by have := HT.out; omega), HQ.out]; rfl) k1 h0 C
    | ok u s1 =>
      rw [hq] at h
      obtain ⟨rfl, C1⟩ := h
      have HQ : Hid (_ = _) := hq
      clear hq
      clear hnb r415 n0 n1 n2 n3 n4 n5 n6 n7 r0 r161 r162 r163 r164 r325 r414 r416 r417 r418 r419 hz hlt hlt2 hlt3 ty0 tyz rf0 rfz
      obtain ⟨_, hnb, r415, n0, n1, n2, n3, n4, n5, n6, n7, n8⟩ := C1.node hn
      try simp only at n0 n1 n2 n3 n4 n5 n6 n7 n8
      obtain ⟨r0, r161, r162, r163, r164, r325, r414, r416, r417, r418, r419, hz⟩ := C1.regs
      obtain ⟨hlt, hlt2, hlt3⟩ := C1.blt
      have ty0 := C1.tyb.cell (o := K) hk
      have tyz := C1.tyb.frozen
      have rf0 := C1.rfb.cell (o := K) hk
      have rfz := C1.rfb.frozen
      have HN : Hid _ := C1.note K (t)
      have HF : Hid _ := k1
      clear C1 k1
      go_wp2_with fail
      go_ret
      exact EP.ok (by rw [Hr.out, if_neg (show ¬ t < 2 by have := HT.out; omega), HQ.out]; rfl) (HF.out.trans HN.out.2 (fun _ _ h => h)) HN.out.1
set_option maxRecDepth 100000 in
set_option maxHeartbeats 8000000 in
theorem ex_un (I : ExC A X cur n) (H : CM w A X cur s 0 0) {b : Nat} {nx x : Int} {k p : Int} {e : Exp} (L : Lie A.ns b (flE b nx (.un k p e))) (te : TyE e) (hsz : szE e ≤ n) (hx : x = rtE b (.un k p e)) : Calls Tryz.prog 191 #[.pointer (some ⟨A.c, 0, none⟩), .int .i64 x] w (EP w A X cur (ckE X b (.un k p e) s)) := by
  obtain ⟨K, hK⟩ : ∃ K, K = b + szE e := ⟨_, rfl⟩
  obtain rfl : x = ((K : Nat) : Int) := by rw [hx, hK]; simp [rtE, szE]; try omega
  obtain ⟨L1, hn⟩ := Lie.un (by simpa only [flE] using L)
  rw [← hK] at hn
  have hr := ckE_un (X := X) b k p e s
  rw [← hK] at hr
  have Hr : Hid (_ = _) := hr
  obtain ⟨hk, hnb, r415, n0, n1, n2, n3, n4, n5, n6, n7, n8⟩ := H.node hn
  try simp only at n0 n1 n2 n3 n4 n5 n6 n7 n8
  obtain ⟨r0, r161, r162, r163, r164, r325, r414, r416, r417, r418, r419, hz⟩ := H.regs
  obtain ⟨hlt, hlt2, hlt3⟩ := H.blt
  have ty0 := H.tyb.cell (o := K) hk
  have tyz := H.tyb.frozen
  have rf0 := H.rfb.cell (o := K) hk
  have rfz := H.rfb.frozen
  have h200 := H.le
  have hkl : ((K : Nat) : Int) < A.ns.length := by omega
  have hK0 : ((K : Nat) : Int) ≥ 0 := by omega
  have HK : Hid _ := hK
  clear hr L hx hK
  by_cases hk39 : k = 39
  · rw [hk39] at n5
    have eu : unT k = 1 := by unfold unT; rw [if_pos hk39]
    rw [eu] at Hr
    have hW := wantF I e hsz te H L1 rfl 1
    have HT : Hid _ := eu
    clear H eu hk39
    go_enter Tryz.func191, Tryz.ntmps191
    go_wp2_with fail
    refine hW.mono ?_
    rintro v w1 ⟨k1, h⟩
    clear hW
    cases hq : wantE X b e 1 s with
    | bad er po =>
      rw [hq] at h
      obtain ⟨rfl, h0, s', C⟩ := h
      have HQ : Hid (_ = _) := hq
      clear hq
      go_wp2_with fail
      go_ret
      exact EP.bad (by rw [Hr.out, HQ.out]; rfl) k1 h0 C
    | ok u s1 =>
      rw [hq] at h
      obtain ⟨rfl, C1⟩ := h
      have HQ : Hid (_ = _) := hq
      clear hq
      clear hnb r415 n0 n1 n2 n3 n4 n5 n6 n7 r0 r161 r162 r163 r164 r325 r414 r416 r417 r418 r419 hz hlt hlt2 hlt3 ty0 tyz rf0 rfz
      obtain ⟨_, hnb, r415, n0, n1, n2, n3, n4, n5, n6, n7, n8⟩ := C1.node hn
      try simp only at n0 n1 n2 n3 n4 n5 n6 n7 n8
      obtain ⟨r0, r161, r162, r163, r164, r325, r414, r416, r417, r418, r419, hz⟩ := C1.regs
      obtain ⟨hlt, hlt2, hlt3⟩ := C1.blt
      have ty0 := C1.tyb.cell (o := K) hk
      have tyz := C1.tyb.frozen
      have rf0 := C1.rfb.cell (o := K) hk
      have rfz := C1.rfb.frozen
      have HN : Hid _ := C1.note K (1)
      have HF : Hid _ := k1
      clear C1 k1
      go_wp2_with fail
      go_ret
      exact EP.ok (by rw [Hr.out, HQ.out]; rfl) (HF.out.trans HN.out.2 (fun _ _ h => h)) HN.out.1
  · skip
    have eu : unT k = 0 := by unfold unT; rw [if_neg hk39]
    rw [eu] at Hr
    have z1 : (k == 39) = false := by simpa using hk39
    have hW := wantF I e hsz te H L1 rfl 0
    have HT : Hid _ := eu
    clear H eu hk39
    go_enter Tryz.func191, Tryz.ntmps191
    go_wp2_with fail
    refine hW.mono ?_
    rintro v w1 ⟨k1, h⟩
    clear hW
    cases hq : wantE X b e 0 s with
    | bad er po =>
      rw [hq] at h
      obtain ⟨rfl, h0, s', C⟩ := h
      have HQ : Hid (_ = _) := hq
      clear hq
      go_wp2_with fail
      go_ret
      exact EP.bad (by rw [Hr.out, HQ.out]; rfl) k1 h0 C
    | ok u s1 =>
      rw [hq] at h
      obtain ⟨rfl, C1⟩ := h
      have HQ : Hid (_ = _) := hq
      clear hq
      clear hnb r415 n0 n1 n2 n3 n4 n5 n6 n7 r0 r161 r162 r163 r164 r325 r414 r416 r417 r418 r419 hz hlt hlt2 hlt3 ty0 tyz rf0 rfz
      obtain ⟨_, hnb, r415, n0, n1, n2, n3, n4, n5, n6, n7, n8⟩ := C1.node hn
      try simp only at n0 n1 n2 n3 n4 n5 n6 n7 n8
      obtain ⟨r0, r161, r162, r163, r164, r325, r414, r416, r417, r418, r419, hz⟩ := C1.regs
      obtain ⟨hlt, hlt2, hlt3⟩ := C1.blt
      have ty0 := C1.tyb.cell (o := K) hk
      have tyz := C1.tyb.frozen
      have rf0 := C1.rfb.cell (o := K) hk
      have rfz := C1.rfb.frozen
      have HN : Hid _ := C1.note K (0)
      have HF : Hid _ := k1
      clear C1 k1
      go_wp2_with fail
      go_ret
      exact EP.ok (by rw [Hr.out, HQ.out]; rfl) (HF.out.trans HN.out.2 (fun _ _ h => h)) HN.out.1
set_option maxRecDepth 100000 in
set_option maxHeartbeats 8000000 in
theorem ex_idx (I : ExC A X cur n) (H : CM w A X cur s 0 0) {b : Nat} {nx x : Int} {p : Int} {a c : Exp} (L : Lie A.ns b (flE b nx (.idx p a c))) (ta : TyE a) (tc : TyE c) (hsz : szE a + szE c ≤ n) (hx : x = rtE b (.idx p a c)) : Calls Tryz.prog 191 #[.pointer (some ⟨A.c, 0, none⟩), .int .i64 x] w (EP w A X cur (ckE X b (.idx p a c) s)) := by
  obtain ⟨K, hK⟩ : ∃ K, K = b + szE a + szE c := ⟨_, rfl⟩
  obtain rfl : x = ((K : Nat) : Int) := by rw [hx, hK]; simp [rtE, szE]; try omega
  obtain ⟨L1, L2, hn⟩ := Lie.two (by simpa only [flE] using L)
  rw [← hK] at hn
  have hr := ckE_idx (X := X) b p a c s
  rw [← hK] at hr
  have Hr : Hid (_ = _) := hr
  obtain ⟨hk, hnb, r415, n0, n1, n2, n3, n4, n5, n6, n7, n8⟩ := H.node hn
  try simp only at n0 n1 n2 n3 n4 n5 n6 n7 n8
  obtain ⟨r0, r161, r162, r163, r164, r325, r414, r416, r417, r418, r419, hz⟩ := H.regs
  obtain ⟨hlt, hlt2, hlt3⟩ := H.blt
  have ty0 := H.tyb.cell (o := K) hk
  have tyz := H.tyb.frozen
  have rf0 := H.rfb.cell (o := K) hk
  have rfz := H.rfb.frozen
  have h200 := H.le
  have hkl : ((K : Nat) : Int) < A.ns.length := by omega
  have hK0 : ((K : Nat) : Int) ≥ 0 := by omega
  have HK : Hid _ := hK
  clear hr L hx hK
  have hE := I a (by omega) ta w s b (-1) (rtE b a) H L1 rfl
  have hkeep := keepE X a b s
  have hv := H.vt
  clear H
  go_enter Tryz.func191, Tryz.ntmps191
  go_wp2_with fail
  refine hE.mono ?_
  rintro v w1 ⟨k1, h⟩
  clear hE
  cases hq : ckE X b a s with
  | bad er po =>
    rw [hq] at h
    obtain ⟨rfl, h0, s', C⟩ := h
    have HQ : Hid (_ = _) := hq
    clear hq hkeep
    go_wp2_with fail
    go_ret
    exact EP.bad (by rw [Hr.out, HQ.out]; rfl) k1 h0 C
  | ok t s1 =>
    rw [hq] at h
    obtain ⟨rfl, C1⟩ := h
    obtain ⟨t0, t8⟩ := (hkeep t s1 hq).2.2 hv ta
    have HQ : Hid (_ = _) := hq
    have z0 : decide (t < 0) = false := decide_eq_false (by omega)
    clear hq hkeep hv
    clear hnb r415 n0 n1 n2 n3 n4 n5 n6 n7 r0 r161 r162 r163 r164 r325 r414 r416 r417 r418 r419 hz hlt hlt2 hlt3 ty0 tyz rf0 rfz
    obtain ⟨_, hnb, r415, n0, n1, n2, n3, n4, n5, n6, n7, n8⟩ := C1.node hn
    try simp only at n0 n1 n2 n3 n4 n5 n6 n7 n8
    obtain ⟨r0, r161, r162, r163, r164, r325, r414, r416, r417, r418, r419, hz⟩ := C1.regs
    obtain ⟨hlt, hlt2, hlt3⟩ := C1.blt
    have ty0 := C1.tyb.cell (o := K) hk
    have tyz := C1.tyb.frozen
    have rf0 := C1.rfb.cell (o := K) hk
    have rfz := C1.rfb.frozen
    by_cases ht : t < 2
    · have z1 : decide (t < 2) = true := decide_eq_true ht
      have hN := noneC C1 17 p
      have HT : Hid _ := ht
      clear ht C1
      go_wp2_with fail
      refine hN.mono ?_
      rintro v w3 ⟨rfl, C3, k3⟩
      go_wp2_with fail
      go_ret
      exact EP.bad (by rw [Hr.out, HQ.out]; show (if t < 2 then _ else _) = _; rw [if_pos HT.out]) (k1.trans k3 (fun _ _ h => h)) (by decide) C3
    · have z1 : decide (t < 2) = false := decide_eq_false ht
      have z2 : decide (t - 2 ≥ 0) = true := decide_eq_true (by omega)
      have HT : Hid _ := ht
      have ht2 : 2 ≤ t := by omega
      have hW := wantF I c (by omega) tc C1 L2 rfl 0
      clear ht C1
      go_wp2_with fail
      refine hW.mono ?_
      rintro v w2 ⟨k2, h⟩
      clear hW
      cases hq2 : wantE X (b + szE a) c 0 s1 with
      | bad er po =>
        rw [hq2] at h
        obtain ⟨rfl, h0, s', C⟩ := h
        have HQ2 : Hid (_ = _) := hq2
        clear hq2
        go_wp2_with fail
        go_ret
        exact EP.bad (by rw [Hr.out, HQ.out]; show (if t < 2 then _ else _) = _; rw [if_neg (show ¬ t < 2 by have := HT.out; omega), HQ2.out]; rfl) (k1.trans k2 (fun _ _ h => h)) h0 C
      | ok u s2 =>
        rw [hq2] at h
        obtain ⟨rfl, C2⟩ := h
        have HQ2 : Hid (_ = _) := hq2
        have k12 := k1.trans k2 (fun _ _ h => h)
        clear hq2 k1 k2
        clear hnb r415 n0 n1 n2 n3 n4 n5 n6 n7 r0 r161 r162 r163 r164 r325 r414 r416 r417 r418 r419 hz hlt hlt2 hlt3 ty0 tyz rf0 rfz
        obtain ⟨_, hnb, r415, n0, n1, n2, n3, n4, n5, n6, n7, n8⟩ := C2.node hn
        try simp only at n0 n1 n2 n3 n4 n5 n6 n7 n8
        obtain ⟨r0, r161, r162, r163, r164, r325, r414, r416, r417, r418, r419, hz⟩ := C2.regs
        obtain ⟨hlt, hlt2, hlt3⟩ := C2.blt
        have ty0 := C2.tyb.cell (o := K) hk
        have tyz := C2.tyb.frozen
        have rf0 := C2.rfb.cell (o := K) hk
        have rfz := C2.rfb.frozen
        have HN : Hid _ := C2.note K (t - 2)
        have HF : Hid _ := k12
        clear C2 k12
        go_wp2_with fail
        go_ret
        exact EP.ok (by rw [Hr.out, HQ.out]; show (if t < 2 then _ else _) = _; rw [if_neg (show ¬ t < 2 by have := HT.out; omega), HQ2.out]; rfl) (HF.out.trans HN.out.2 (fun _ _ h => h)) HN.out.1
set_option maxRecDepth 100000 in
set_option maxHeartbeats 8000000 in
theorem ex_len (I : ExC A X cur n) (H : CM w A X cur s 0 0) {b : Nat} {nx x : Int} {p : Int} {e : Exp} (L : Lie A.ns b (flE b nx (.len p e))) (te : TyE e) (hsz : szE e ≤ n) (hx : x = rtE b (.len p e)) : Calls Tryz.prog 191 #[.pointer (some ⟨A.c, 0, none⟩), .int .i64 x] w (EP w A X cur (ckE X b (.len p e) s)) := by
  obtain ⟨K, hK⟩ : ∃ K, K = b + szE e := ⟨_, rfl⟩
  obtain rfl : x = ((K : Nat) : Int) := by rw [hx, hK]; simp [rtE, szE]; try omega
  obtain ⟨L1, hn⟩ := Lie.un (by simpa only [flE] using L)
  rw [← hK] at hn
  have hr := (show ckE X b (.len p e) s = (ckE X b e s).bind fun u s => if u < 2 then .bad 17 (poE e) else note (b + szE e) 0 s by simp only [ckE])
  rw [← hK] at hr
  have Hr : Hid (_ = _) := hr
  obtain ⟨hk, hnb, r415, n0, n1, n2, n3, n4, n5, n6, n7, n8⟩ := H.node hn
  try simp only at n0 n1 n2 n3 n4 n5 n6 n7 n8
  obtain ⟨r0, r161, r162, r163, r164, r325, r414, r416, r417, r418, r419, hz⟩ := H.regs
  obtain ⟨hlt, hlt2, hlt3⟩ := H.blt
  have ty0 := H.tyb.cell (o := K) hk
  have tyz := H.tyb.frozen
  have rf0 := H.rfb.cell (o := K) hk
  have rfz := H.rfb.frozen
  have h200 := H.le
  have hkl : ((K : Nat) : Int) < A.ns.length := by omega
  have hK0 : ((K : Nat) : Int) ≥ 0 := by omega
  have HK : Hid _ := hK
  clear hr L hx hK
  have hE := I e hsz te w s b (-1) (rtE b e) H L1 rfl
  have hkeep := keepE X e b s
  have hv := H.vt
  obtain ⟨nd2, hn2, _, hpos2, _⟩ := L1.root
  obtain ⟨J, hJ⟩ : ∃ J, J = b + szE e - 1 := ⟨_, rfl⟩
  rw [rtE_nat, ← hJ] at n1 hE
  rw [← hJ] at hn2
  rw [rtE_nat, ← hJ] at hn
  clear H hJ
  go_enter Tryz.func191, Tryz.ntmps191
  go_wp2_with fail
  refine hE.mono ?_
  rintro v w1 ⟨k1, h⟩
  clear hE
  cases hq : ckE X b e s with
  | bad er po =>
    rw [hq] at h
    obtain ⟨rfl, h0, s', C⟩ := h
    have HQ : Hid (_ = _) := hq
    clear hq hkeep
    go_wp2_with fail
    go_ret
    exact EP.bad (by rw [Hr.out, HQ.out]; rfl) k1 h0 C
  | ok t s1 =>
    rw [hq] at h
    obtain ⟨rfl, C1⟩ := h
    obtain ⟨t0, t8⟩ := (hkeep t s1 hq).2.2 hv te
    have HQ : Hid (_ = _) := hq
    have z0 : decide (t < 0) = false := decide_eq_false (by omega)
    clear hq hkeep hv
    by_cases ht : t < 2
    · have z1 : decide (t < 2) = true := decide_eq_true ht
      clear hnb r415 n0 n1 n2 n3 n4 n5 n6 n7 r0 r161 r162 r163 r164 r325 r414 r416 r417 r418 r419 hz hlt hlt2 hlt3 ty0 tyz rf0 rfz
      obtain ⟨_, hnb, r415, n0, n1, n2, n3, n4, n5, n6, n7, n8⟩ := C1.node hn
      try simp only at n0 n1 n2 n3 n4 n5 n6 n7 n8
      obtain ⟨r0, r161, r162, r163, r164, r325, r414, r416, r417, r418, r419, hz⟩ := C1.regs
      obtain ⟨hlt, hlt2, hlt3⟩ := C1.blt
      have ty0 := C1.tyb.cell (o := K) hk
      have tyz := C1.tyb.frozen
      have rf0 := C1.rfb.cell (o := K) hk
      have rfz := C1.rfb.frozen
      obtain ⟨j1, _, _, j4, j5, j6, j7, j8, j9, j10, j11, _⟩ := C1.node hn2
      rw [hpos2] at j10
      have hjl : (J : Int) < A.ns.length := by omega
      have hN := fun n => noneC (C1.same ((Fr.refl _ _).drewN n)) 17 (poE e)
      have hN1 := noneC (C1.same ((Fr.refl _ _).drew)) 17 (poE e)
      have HT : Hid _ := ht
      have Hk : Hid _ := k1
      clear ht C1 k1
      go_wp2_with fail
      refine wp_region_text (by kernel_rfl) (by kernel_rfl) ?_
      go_wp2_with fail
      refine hN1.mono ?_
      rintro v w3 ⟨rfl, C3, k3⟩
      go_wp2_with fail
      refine ⟨by kernel_rfl, ?_⟩
      go_wp2_with fail
      go_ret
      exact EP.bad (by rw [Hr.out, HQ.out]; show (if t < 2 then _ else _) = _; rw [if_pos HT.out]) ((Hk.out.drew).trans k3 (fun _ _ h => h)) (by decide) C3
    · have z1 : decide (t < 2) = false := decide_eq_false ht
      have HT : Hid _ := ht
      clear ht
      clear hnb r415 n0 n1 n2 n3 n4 n5 n6 n7 r0 r161 r162 r163 r164 r325 r414 r416 r417 r418 r419 hz hlt hlt2 hlt3 ty0 tyz rf0 rfz
      obtain ⟨_, hnb, r415, n0, n1, n2, n3, n4, n5, n6, n7, n8⟩ := C1.node hn
      try simp only at n0 n1 n2 n3 n4 n5 n6 n7 n8
      obtain ⟨r0, r161, r162, r163, r164, r325, r414, r416, r417, r418, r419, hz⟩ := C1.regs
      obtain ⟨hlt, hlt2, hlt3⟩ := C1.blt
      have ty0 := C1.tyb.cell (o := K) hk
      have tyz := C1.tyb.frozen
      have rf0 := C1.rfb.cell (o := K) hk
      have rfz := C1.rfb.frozen
      have HN : Hid _ := C1.note K (0)
      have HF : Hid _ := k1
      clear C1 k1
      go_wp2_with fail
      go_ret
      exact EP.ok (by rw [Hr.out, HQ.out]; show (if t < 2 then _ else _) = _; rw [if_neg (show ¬ t < 2 by have := HT.out; omega)]; rfl) (HF.out.trans HN.out.2 (fun _ _ h => h)) HN.out.1
end
end Go.Proofs.Qxb6500277aGreat
