/- The real checker: operators. -/
import Derived.Test.Qxb6500277aGreatCX2
namespace Go.Proofs.Qxb6500277aGreat
open Go Go.RowKit

section
variable {w w' : World} {A : Ca} {X : Cx} {cur : Nat} {s : Ck} {er po : Int} {n : Nat}
set_option maxRecDepth 100000 in
set_option maxHeartbeats 8000000 in
theorem bin_38 (I : ExC A X cur n) (H : CM w A X cur s 0 0) {b : Nat} {nx x : Int} {k p : Int} {l r : Exp} (L : Lie A.ns b (flE b nx (.bin k p l r))) (tl : TyE l) (tr : TyE r) (hsz : szE l + szE r ≤ n) (hx : x = rtE b (.bin k p l r)) (hkk : k = 38) : Calls Tryz.prog 224 #[.pointer (some ⟨A.c, 0, none⟩), .int .i64 x] w (EP w A X cur (binT X b k l r s)) := by
  subst hkk
  have Hr : Hid (binT X b 38 l r s = (wantE X b l 1 s).bind fun _ s => (wantE X (b + szE l) r 1 s).bind fun _ s => .ok 1 s) := by
    show _ = _
    simp [binT, sideT, givesT]
  obtain ⟨K, hK⟩ : ∃ K, K = b + szE l + szE r := ⟨_, rfl⟩
  obtain rfl : x = ((K : Nat) : Int) := by rw [hx, hK]; simp [rtE, szE]; omega
  obtain ⟨L1, L2, hn⟩ := Lie.two (by simpa only [flE] using L)
  rw [← hK] at hn
  obtain ⟨hk, hnb, r415, n0, n1, n2, n3, n4, n5, n6, n7, n8⟩ := H.node hn
  try simp only at n0 n1 n2 n3 n4 n5 n6 n7 n8
  obtain ⟨r0, r161, r162, r163, r164, r325, r414, r416, r417, r418, r419, hz⟩ := H.regs
  obtain ⟨hlt, hlt2, hlt3⟩ := H.blt
  have ty0 := H.tyb.cell (o := K) hk
  have tyz := H.tyb.frozen
  have rf0 := H.rfb.cell (o := K) hk
  have rfz := H.rfb.frozen
  have h200 := H.le
  have hkl : ((K : Nat) : Int) < A.ns.length := by omega
  have hK0 : ((K : Nat) : Int) ≥ 0 := by omega
  clear L hx hK
  have hW := wantF I l (by omega) tl H L1 rfl 1
  clear H
  go_enter Tryz.func224, Tryz.ntmps224
  go_wp2_with fail
  refine hW.mono ?_
  rintro v w1 ⟨k1, h⟩
  clear hW
  cases hq : wantE X b l 1 s with
  | bad er po =>
    rw [hq] at h
    obtain ⟨rfl, h0, s', C⟩ := h
    have HQ : Hid (_ = _) := hq
    clear hq
    go_wp2_with fail
    go_ret
    exact EP.bad (by rw [Hr.out, HQ.out]; rfl) k1 h0 C
  | ok u s1 =>
    rw [hq] at h
    obtain ⟨rfl, C1⟩ := h
    have HQ : Hid (_ = _) := hq
    clear hq
    clear hnb r415 n0 n1 n2 n3 n4 n5 n6 n7 r0 r161 r162 r163 r164 r325 r414 r416 r417 r418 r419 hz hlt hlt2 hlt3 ty0 tyz rf0 rfz
    obtain ⟨_, hnb, r415, n0, n1, n2, n3, n4, n5, n6, n7, n8⟩ := C1.node hn
    try simp only at n0 n1 n2 n3 n4 n5 n6 n7 n8
    obtain ⟨r0, r161, r162, r163, r164, r325, r414, r416, r417, r418, r419, hz⟩ := C1.regs
    obtain ⟨hlt, hlt2, hlt3⟩ := C1.blt
    have ty0 := C1.tyb.cell (o := K) hk
    have tyz := C1.tyb.frozen
    have rf0 := C1.rfb.cell (o := K) hk
    have rfz := C1.rfb.frozen
    have hW := wantF I r (by omega) tr C1 L2 rfl 1
    clear C1
    go_wp2_with fail
    refine hW.mono ?_
    rintro v w2 ⟨k2, h⟩
    clear hW
    cases hq2 : wantE X (b + szE l) r 1 s1 with
    | bad er po =>
      rw [hq2] at h
      obtain ⟨rfl, h0, s', C⟩ := h
      have HQ2 : Hid (_ = _) := hq2
      clear hq2
      go_wp2_with fail
      go_ret
      exact EP.bad (by rw [Hr.out, HQ.out]; show (wantE X (b + szE l) r 1 s1).bind _ = _; rw [HQ2.out]; rfl) (k1.trans k2 (fun _ _ h => h)) h0 C
    | ok u2 s2 =>
      rw [hq2] at h
      obtain ⟨rfl, C2⟩ := h
      have HQ2 : Hid (_ = _) := hq2
      clear hq2
      go_wp2_with fail
      go_ret
      exact EP.ok (by rw [Hr.out, HQ.out]; show (wantE X (b + szE l) r 1 s1).bind _ = _; rw [HQ2.out]; rfl) (k1.trans k2 (fun _ _ h => h)) C2
set_option maxRecDepth 100000 in
set_option maxHeartbeats 8000000 in
theorem bin_37 (I : ExC A X cur n) (H : CM w A X cur s 0 0) {b : Nat} {nx x : Int} {k p : Int} {l r : Exp} (L : Lie A.ns b (flE b nx (.bin k p l r))) (tl : TyE l) (tr : TyE r) (hsz : szE l + szE r ≤ n) (hx : x = rtE b (.bin k p l r)) (hkk : k = 37) : Calls Tryz.prog 224 #[.pointer (some ⟨A.c, 0, none⟩), .int .i64 x] w (EP w A X cur (binT X b k l r s)) := by
  subst hkk
  have Hr : Hid (binT X b 37 l r s = (wantE X b l 1 s).bind fun _ s => (wantE X (b + szE l) r 1 s).bind fun _ s => .ok 1 s) := by
    show _ = _
    simp [binT, sideT, givesT]
  obtain ⟨K, hK⟩ : ∃ K, K = b + szE l + szE r := ⟨_, rfl⟩
  obtain rfl : x = ((K : Nat) : Int) := by rw [hx, hK]; simp [rtE, szE]; omega
  obtain ⟨L1, L2, hn⟩ := Lie.two (by simpa only [flE] using L)
  rw [← hK] at hn
  obtain ⟨hk, hnb, r415, n0, n1, n2, n3, n4, n5, n6, n7, n8⟩ := H.node hn
  try simp only at n0 n1 n2 n3 n4 n5 n6 n7 n8
  obtain ⟨r0, r161, r162, r163, r164, r325, r414, r416, r417, r418, r419, hz⟩ := H.regs
  obtain ⟨hlt, hlt2, hlt3⟩ := H.blt
  have ty0 := H.tyb.cell (o := K) hk
  have tyz := H.tyb.frozen
  have rf0 := H.rfb.cell (o := K) hk
  have rfz := H.rfb.frozen
  have h200 := H.le
  have hkl : ((K : Nat) : Int) < A.ns.length := by omega
  have hK0 : ((K : Nat) : Int) ≥ 0 := by omega
  clear L hx hK
  have hW := wantF I l (by omega) tl H L1 rfl 1
  clear H
  go_enter Tryz.func224, Tryz.ntmps224
  go_wp2_with fail
  refine hW.mono ?_
  rintro v w1 ⟨k1, h⟩
  clear hW
  cases hq : wantE X b l 1 s with
  | bad er po =>
    rw [hq] at h
    obtain ⟨rfl, h0, s', C⟩ := h
    have HQ : Hid (_ = _) := hq
    clear hq
    go_wp2_with fail
    go_ret
    exact EP.bad (by rw [Hr.out, HQ.out]; rfl) k1 h0 C
  | ok u s1 =>
    rw [hq] at h
    obtain ⟨rfl, C1⟩ := h
    have HQ : Hid (_ = _) := hq
    clear hq
    clear hnb r415 n0 n1 n2 n3 n4 n5 n6 n7 r0 r161 r162 r163 r164 r325 r414 r416 r417 r418 r419 hz hlt hlt2 hlt3 ty0 tyz rf0 rfz
    obtain ⟨_, hnb, r415, n0, n1, n2, n3, n4, n5, n6, n7, n8⟩ := C1.node hn
    try simp only at n0 n1 n2 n3 n4 n5 n6 n7 n8
    obtain ⟨r0, r161, r162, r163, r164, r325, r414, r416, r417, r418, r419, hz⟩ := C1.regs
    obtain ⟨hlt, hlt2, hlt3⟩ := C1.blt
    have ty0 := C1.tyb.cell (o := K) hk
    have tyz := C1.tyb.frozen
    have rf0 := C1.rfb.cell (o := K) hk
    have rfz := C1.rfb.frozen
    have hW := wantF I r (by omega) tr C1 L2 rfl 1
    clear C1
    go_wp2_with fail
    refine hW.mono ?_
    rintro v w2 ⟨k2, h⟩
    clear hW
    cases hq2 : wantE X (b + szE l) r 1 s1 with
    | bad er po =>
      rw [hq2] at h
      obtain ⟨rfl, h0, s', C⟩ := h
      have HQ2 : Hid (_ = _) := hq2
      clear hq2
      go_wp2_with fail
      go_ret
      exact EP.bad (by rw [Hr.out, HQ.out]; show (wantE X (b + szE l) r 1 s1).bind _ = _; rw [HQ2.out]; rfl) (k1.trans k2 (fun _ _ h => h)) h0 C
    | ok u2 s2 =>
      rw [hq2] at h
      obtain ⟨rfl, C2⟩ := h
      have HQ2 : Hid (_ = _) := hq2
      clear hq2
      go_wp2_with fail
      go_ret
      exact EP.ok (by rw [Hr.out, HQ.out]; show (wantE X (b + szE l) r 1 s1).bind _ = _; rw [HQ2.out]; rfl) (k1.trans k2 (fun _ _ h => h)) C2
set_option maxRecDepth 100000 in
set_option maxHeartbeats 8000000 in
theorem bin_28 (I : ExC A X cur n) (H : CM w A X cur s 0 0) {b : Nat} {nx x : Int} {k p : Int} {l r : Exp} (L : Lie A.ns b (flE b nx (.bin k p l r))) (tl : TyE l) (tr : TyE r) (hsz : szE l + szE r ≤ n) (hx : x = rtE b (.bin k p l r)) (hkk : k = 28) : Calls Tryz.prog 224 #[.pointer (some ⟨A.c, 0, none⟩), .int .i64 x] w (EP w A X cur (binT X b k l r s)) := by
  subst hkk
  have Hr : Hid (binT X b 28 l r s = (wantE X b l 0 s).bind fun _ s => (wantE X (b + szE l) r 0 s).bind fun _ s => .ok 1 s) := by
    show _ = _
    simp [binT, sideT, givesT]
  obtain ⟨K, hK⟩ : ∃ K, K = b + szE l + szE r := ⟨_, rfl⟩
  obtain rfl : x = ((K : Nat) : Int) := by rw [hx, hK]; simp [rtE, szE]; omega
  obtain ⟨L1, L2, hn⟩ := Lie.two (by simpa only [flE] using L)
  rw [← hK] at hn
  obtain ⟨hk, hnb, r415, n0, n1, n2, n3, n4, n5, n6, n7, n8⟩ := H.node hn
  try simp only at n0 n1 n2 n3 n4 n5 n6 n7 n8
  obtain ⟨r0, r161, r162, r163, r164, r325, r414, r416, r417, r418, r419, hz⟩ := H.regs
  obtain ⟨hlt, hlt2, hlt3⟩ := H.blt
  have ty0 := H.tyb.cell (o := K) hk
  have tyz := H.tyb.frozen
  have rf0 := H.rfb.cell (o := K) hk
  have rfz := H.rfb.frozen
  have h200 := H.le
  have hkl : ((K : Nat) : Int) < A.ns.length := by omega
  have hK0 : ((K : Nat) : Int) ≥ 0 := by omega
  clear L hx hK
  have hW := wantF I l (by omega) tl H L1 rfl 0
  clear H
  go_enter Tryz.func224, Tryz.ntmps224
  go_wp2_with fail
  refine hW.mono ?_
  rintro v w1 ⟨k1, h⟩
  clear hW
  cases hq : wantE X b l 0 s with
  | bad er po =>
    rw [hq] at h
    obtain ⟨rfl, h0, s', C⟩ := h
    have HQ : Hid (_ = _) := hq
    clear hq
    go_wp2_with fail
    go_ret
    exact EP.bad (by rw [Hr.out, HQ.out]; rfl) k1 h0 C
  | ok u s1 =>
    rw [hq] at h
    obtain ⟨rfl, C1⟩ := h
    have HQ : Hid (_ = _) := hq
    clear hq
    clear hnb r415 n0 n1 n2 n3 n4 n5 n6 n7 r0 r161 r162 r163 r164 r325 r414 r416 r417 r418 r419 hz hlt hlt2 hlt3 ty0 tyz rf0 rfz
    obtain ⟨_, hnb, r415, n0, n1, n2, n3, n4, n5, n6, n7, n8⟩ := C1.node hn
    try simp only at n0 n1 n2 n3 n4 n5 n6 n7 n8
    obtain ⟨r0, r161, r162, r163, r164, r325, r414, r416, r417, r418, r419, hz⟩ := C1.regs
    obtain ⟨hlt, hlt2, hlt3⟩ := C1.blt
    have ty0 := C1.tyb.cell (o := K) hk
    have tyz := C1.tyb.frozen
    have rf0 := C1.rfb.cell (o := K) hk
    have rfz := C1.rfb.frozen
    have hW := wantF I r (by omega) tr C1 L2 rfl 0
    clear C1
    go_wp2_with fail
    refine hW.mono ?_
    rintro v w2 ⟨k2, h⟩
    clear hW
    cases hq2 : wantE X (b + szE l) r 0 s1 with
    | bad er po =>
      rw [hq2] at h
      obtain ⟨rfl, h0, s', C⟩ := h
      have HQ2 : Hid (_ = _) := hq2
      clear hq2
      go_wp2_with fail
      go_ret
      exact EP.bad (by rw [Hr.out, HQ.out]; show (wantE X (b + szE l) r 0 s1).bind _ = _; rw [HQ2.out]; rfl) (k1.trans k2 (fun _ _ h => h)) h0 C
    | ok u2 s2 =>
      rw [hq2] at h
      obtain ⟨rfl, C2⟩ := h
      have HQ2 : Hid (_ = _) := hq2
      clear hq2
      go_wp2_with fail
      go_ret
      exact EP.ok (by rw [Hr.out, HQ.out]; show (wantE X (b + szE l) r 0 s1).bind _ = _; rw [HQ2.out]; rfl) (k1.trans k2 (fun _ _ h => h)) C2
set_option maxRecDepth 100000 in
set_option maxHeartbeats 8000000 in
theorem bin_29 (I : ExC A X cur n) (H : CM w A X cur s 0 0) {b : Nat} {nx x : Int} {k p : Int} {l r : Exp} (L : Lie A.ns b (flE b nx (.bin k p l r))) (tl : TyE l) (tr : TyE r) (hsz : szE l + szE r ≤ n) (hx : x = rtE b (.bin k p l r)) (hkk : k = 29) : Calls Tryz.prog 224 #[.pointer (some ⟨A.c, 0, none⟩), .int .i64 x] w (EP w A X cur (binT X b k l r s)) := by
  subst hkk
  have Hr : Hid (binT X b 29 l r s = (wantE X b l 0 s).bind fun _ s => (wantE X (b + szE l) r 0 s).bind fun _ s => .ok 1 s) := by
    show _ = _
    simp [binT, sideT, givesT]
  obtain ⟨K, hK⟩ : ∃ K, K = b + szE l + szE r := ⟨_, rfl⟩
  obtain rfl : x = ((K : Nat) : Int) := by rw [hx, hK]; simp [rtE, szE]; omega
  obtain ⟨L1, L2, hn⟩ := Lie.two (by simpa only [flE] using L)
  rw [← hK] at hn
  obtain ⟨hk, hnb, r415, n0, n1, n2, n3, n4, n5, n6, n7, n8⟩ := H.node hn
  try simp only at n0 n1 n2 n3 n4 n5 n6 n7 n8
  obtain ⟨r0, r161, r162, r163, r164, r325, r414, r416, r417, r418, r419, hz⟩ := H.regs
  obtain ⟨hlt, hlt2, hlt3⟩ := H.blt
  have ty0 := H.tyb.cell (o := K) hk
  have tyz := H.tyb.frozen
  have rf0 := H.rfb.cell (o := K) hk
  have rfz := H.rfb.frozen
  have h200 := H.le
  have hkl : ((K : Nat) : Int) < A.ns.length := by omega
  have hK0 : ((K : Nat) : Int) ≥ 0 := by omega
  clear L hx hK
  have hW := wantF I l (by omega) tl H L1 rfl 0
  clear H
  go_enter Tryz.func224, Tryz.ntmps224
  go_wp2_with fail
  refine hW.mono ?_
  rintro v w1 ⟨k1, h⟩
  clear hW
  cases hq : wantE X b l 0 s with
  | bad er po =>
    rw [hq] at h
    obtain ⟨rfl, h0, s', C⟩ := h
    have HQ : Hid (_ = _) := hq
    clear hq
    go_wp2_with fail
    go_ret
    exact EP.bad (by rw [Hr.out, HQ.out]; rfl) k1 h0 C
  | ok u s1 =>
    rw [hq] at h
    obtain ⟨rfl, C1⟩ := h
    have HQ : Hid (_ = _) := hq
    clear hq
    clear hnb r415 n0 n1 n2 n3 n4 n5 n6 n7 r0 r161 r162 r163 r164 r325 r414 r416 r417 r418 r419 hz hlt hlt2 hlt3 ty0 tyz rf0 rfz
    obtain ⟨_, hnb, r415, n0, n1, n2, n3, n4, n5, n6, n7, n8⟩ := C1.node hn
    try simp only at n0 n1 n2 n3 n4 n5 n6 n7 n8
    obtain ⟨r0, r161, r162, r163, r164, r325, r414, r416, r417, r418, r419, hz⟩ := C1.regs
    obtain ⟨hlt, hlt2, hlt3⟩ := C1.blt
    have ty0 := C1.tyb.cell (o := K) hk
    have tyz := C1.tyb.frozen
    have rf0 := C1.rfb.cell (o := K) hk
    have rfz := C1.rfb.frozen
    have hW := wantF I r (by omega) tr C1 L2 rfl 0
    clear C1
    go_wp2_with fail
    refine hW.mono ?_
    rintro v w2 ⟨k2, h⟩
    clear hW
    cases hq2 : wantE X (b + szE l) r 0 s1 with
    | bad er po =>
      rw [hq2] at h
      obtain ⟨rfl, h0, s', C⟩ := h
      have HQ2 : Hid (_ = _) := hq2
      clear hq2
      go_wp2_with fail
      go_ret
      exact EP.bad (by rw [Hr.out, HQ.out]; show (wantE X (b + szE l) r 0 s1).bind _ = _; rw [HQ2.out]; rfl) (k1.trans k2 (fun _ _ h => h)) h0 C
    | ok u2 s2 =>
      rw [hq2] at h
      obtain ⟨rfl, C2⟩ := h
      have HQ2 : Hid (_ = _) := hq2
      clear hq2
      go_wp2_with fail
      go_ret
      exact EP.ok (by rw [Hr.out, HQ.out]; show (wantE X (b + szE l) r 0 s1).bind _ = _; rw [HQ2.out]; rfl) (k1.trans k2 (fun _ _ h => h)) C2
set_option maxRecDepth 100000 in
set_option maxHeartbeats 8000000 in
theorem bin_30 (I : ExC A X cur n) (H : CM w A X cur s 0 0) {b : Nat} {nx x : Int} {k p : Int} {l r : Exp} (L : Lie A.ns b (flE b nx (.bin k p l r))) (tl : TyE l) (tr : TyE r) (hsz : szE l + szE r ≤ n) (hx : x = rtE b (.bin k p l r)) (hkk : k = 30) : Calls Tryz.prog 224 #[.pointer (some ⟨A.c, 0, none⟩), .int .i64 x] w (EP w A X cur (binT X b k l r s)) := by
  subst hkk
  have Hr : Hid (binT X b 30 l r s = (wantE X b l 0 s).bind fun _ s => (wantE X (b + szE l) r 0 s).bind fun _ s => .ok 1 s) := by
    show _ = _
    simp [binT, sideT, givesT]
  obtain ⟨K, hK⟩ : ∃ K, K = b + szE l + szE r := ⟨_, rfl⟩
  obtain rfl : x = ((K : Nat) : Int) := by rw [hx, hK]; simp [rtE, szE]; omega
  obtain ⟨L1, L2, hn⟩ := Lie.two (by simpa only [flE] using L)
  rw [← hK] at hn
  obtain ⟨hk, hnb, r415, n0, n1, n2, n3, n4, n5, n6, n7, n8⟩ := H.node hn
  try simp only at n0 n1 n2 n3 n4 n5 n6 n7 n8
  obtain ⟨r0, r161, r162, r163, r164, r325, r414, r416, r417, r418, r419, hz⟩ := H.regs
  obtain ⟨hlt, hlt2, hlt3⟩ := H.blt
  have ty0 := H.tyb.cell (o := K) hk
  have tyz := H.tyb.frozen
  have rf0 := H.rfb.cell (o := K) hk
  have rfz := H.rfb.frozen
  have h200 := H.le
  have hkl : ((K : Nat) : Int) < A.ns.length := by omega
  have hK0 : ((K : Nat) : Int) ≥ 0 := by omega
  clear L hx hK
  have hW := wantF I l (by omega) tl H L1 rfl 0
  clear H
  go_enter Tryz.func224, Tryz.ntmps224
  go_wp2_with fail
  refine hW.mono ?_
  rintro v w1 ⟨k1, h⟩
  clear hW
  cases hq : wantE X b l 0 s with
  | bad er po =>
    rw [hq] at h
    obtain ⟨rfl, h0, s', C⟩ := h
    have HQ : Hid (_ = _) := hq
    clear hq
    go_wp2_with fail
    go_ret
    exact EP.bad (by rw [Hr.out, HQ.out]; rfl) k1 h0 C
  | ok u s1 =>
    rw [hq] at h
    obtain ⟨rfl, C1⟩ := h
    have HQ : Hid (_ = _) := hq
    clear hq
    clear hnb r415 n0 n1 n2 n3 n4 n5 n6 n7 r0 r161 r162 r163 r164 r325 r414 r416 r417 r418 r419 hz hlt hlt2 hlt3 ty0 tyz rf0 rfz
    obtain ⟨_, hnb, r415, n0, n1, n2, n3, n4, n5, n6, n7, n8⟩ := C1.node hn
    try simp only at n0 n1 n2 n3 n4 n5 n6 n7 n8
    obtain ⟨r0, r161, r162, r163, r164, r325, r414, r416, r417, r418, r419, hz⟩ := C1.regs
    obtain ⟨hlt, hlt2, hlt3⟩ := C1.blt
    have ty0 := C1.tyb.cell (o := K) hk
    have tyz := C1.tyb.frozen
    have rf0 := C1.rfb.cell (o := K) hk
    have rfz := C1.rfb.frozen
    have hW := wantF I r (by omega) tr C1 L2 rfl 0
    clear C1
    go_wp2_with fail
    refine hW.mono ?_
    rintro v w2 ⟨k2, h⟩
    clear hW
    cases hq2 : wantE X (b + szE l) r 0 s1 with
    | bad er po =>
      rw [hq2] at h
      obtain ⟨rfl, h0, s', C⟩ := h
      have HQ2 : Hid (_ = _) := hq2
      clear hq2
      go_wp2_with fail
      go_ret
      exact EP.bad (by rw [Hr.out, HQ.out]; show (wantE X (b + szE l) r 0 s1).bind _ = _; rw [HQ2.out]; rfl) (k1.trans k2 (fun _ _ h => h)) h0 C
    | ok u2 s2 =>
      rw [hq2] at h
      obtain ⟨rfl, C2⟩ := h
      have HQ2 : Hid (_ = _) := hq2
      clear hq2
      go_wp2_with fail
      go_ret
      exact EP.ok (by rw [Hr.out, HQ.out]; show (wantE X (b + szE l) r 0 s1).bind _ = _; rw [HQ2.out]; rfl) (k1.trans k2 (fun _ _ h => h)) C2
set_option maxRecDepth 100000 in
set_option maxHeartbeats 8000000 in
theorem bin_31 (I : ExC A X cur n) (H : CM w A X cur s 0 0) {b : Nat} {nx x : Int} {k p : Int} {l r : Exp} (L : Lie A.ns b (flE b nx (.bin k p l r))) (tl : TyE l) (tr : TyE r) (hsz : szE l + szE r ≤ n) (hx : x = rtE b (.bin k p l r)) (hkk : k = 31) : Calls Tryz.prog 224 #[.pointer (some ⟨A.c, 0, none⟩), .int .i64 x] w (EP w A X cur (binT X b k l r s)) := by
  subst hkk
  have Hr : Hid (binT X b 31 l r s = (wantE X b l 0 s).bind fun _ s => (wantE X (b + szE l) r 0 s).bind fun _ s => .ok 1 s) := by
    show _ = _
    simp [binT, sideT, givesT]
  obtain ⟨K, hK⟩ : ∃ K, K = b + szE l + szE r := ⟨_, rfl⟩
  obtain rfl : x = ((K : Nat) : Int) := by rw [hx, hK]; simp [rtE, szE]; omega
  obtain ⟨L1, L2, hn⟩ := Lie.two (by simpa only [flE] using L)
  rw [← hK] at hn
  obtain ⟨hk, hnb, r415, n0, n1, n2, n3, n4, n5, n6, n7, n8⟩ := H.node hn
  try simp only at n0 n1 n2 n3 n4 n5 n6 n7 n8
  obtain ⟨r0, r161, r162, r163, r164, r325, r414, r416, r417, r418, r419, hz⟩ := H.regs
  obtain ⟨hlt, hlt2, hlt3⟩ := H.blt
  have ty0 := H.tyb.cell (o := K) hk
  have tyz := H.tyb.frozen
  have rf0 := H.rfb.cell (o := K) hk
  have rfz := H.rfb.frozen
  have h200 := H.le
  have hkl : ((K : Nat) : Int) < A.ns.length := by omega
  have hK0 : ((K : Nat) : Int) ≥ 0 := by omega
  clear L hx hK
  have hW := wantF I l (by omega) tl H L1 rfl 0
  clear H
  go_enter Tryz.func224, Tryz.ntmps224
  go_wp2_with fail
  refine hW.mono ?_
  rintro v w1 ⟨k1, h⟩
  clear hW
  cases hq : wantE X b l 0 s with
  | bad er po =>
    rw [hq] at h
    obtain ⟨rfl, h0, s', C⟩ := h
    have HQ : Hid (_ = _) := hq
    clear hq
    go_wp2_with fail
    go_ret
    exact EP.bad (by rw [Hr.out, HQ.out]; rfl) k1 h0 C
  | ok u s1 =>
    rw [hq] at h
    obtain ⟨rfl, C1⟩ := h
    have HQ : Hid (_ = _) := hq
    clear hq
    clear hnb r415 n0 n1 n2 n3 n4 n5 n6 n7 r0 r161 r162 r163 r164 r325 r414 r416 r417 r418 r419 hz hlt hlt2 hlt3 ty0 tyz rf0 rfz
    obtain ⟨_, hnb, r415, n0, n1, n2, n3, n4, n5, n6, n7, n8⟩ := C1.node hn
    try simp only at n0 n1 n2 n3 n4 n5 n6 n7 n8
    obtain ⟨r0, r161, r162, r163, r164, r325, r414, r416, r417, r418, r419, hz⟩ := C1.regs
    obtain ⟨hlt, hlt2, hlt3⟩ := C1.blt
    have ty0 := C1.tyb.cell (o := K) hk
    have tyz := C1.tyb.frozen
    have rf0 := C1.rfb.cell (o := K) hk
    have rfz := C1.rfb.frozen
    have hW := wantF I r (by omega) tr C1 L2 rfl 0
    clear C1
    go_wp2_with fail
    refine hW.mono ?_
    rintro v w2 ⟨k2, h⟩
    clear hW
    cases hq2 : wantE X (b + szE l) r 0 s1 with
    | bad er po =>
      rw [hq2] at h
      obtain ⟨rfl, h0, s', C⟩ := h
      have HQ2 : Hid (_ = _) := hq2
      clear hq2
      go_wp2_with fail
      go_ret
      exact EP.bad (by rw [Hr.out, HQ.out]; show (wantE X (b + szE l) r 0 s1).bind _ = _; rw [HQ2.out]; rfl) (k1.trans k2 (fun _ _ h => h)) h0 C
    | ok u2 s2 =>
      rw [hq2] at h
      obtain ⟨rfl, C2⟩ := h
      have HQ2 : Hid (_ = _) := hq2
      clear hq2
      go_wp2_with fail
      go_ret
      exact EP.ok (by rw [Hr.out, HQ.out]; show (wantE X (b + szE l) r 0 s1).bind _ = _; rw [HQ2.out]; rfl) (k1.trans k2 (fun _ _ h => h)) C2
set_option maxRecDepth 100000 in
set_option maxHeartbeats 8000000 in
theorem bin_other (I : ExC A X cur n) (H : CM w A X cur s 0 0) {b : Nat} {nx x : Int} {k p : Int} {l r : Exp} (L : Lie A.ns b (flE b nx (.bin k p l r))) (tl : TyE l) (tr : TyE r) (hsz : szE l + szE r ≤ n) (hx : x = rtE b (.bin k p l r)) (hkk : k ≠ 38 ∧ k ≠ 37 ∧ k ≠ 28 ∧ k ≠ 29 ∧ k ≠ 30 ∧ k ≠ 31 ∧ k ≠ 26 ∧ k ≠ 27) : Calls Tryz.prog 224 #[.pointer (some ⟨A.c, 0, none⟩), .int .i64 x] w (EP w A X cur (binT X b k l r s)) := by
  obtain ⟨k1', k2', k3', k4', k5', k6', k7', k8'⟩ := hkk
  have Hr : Hid (binT X b k l r s = (wantE X b l 0 s).bind fun _ s => (wantE X (b + szE l) r 0 s).bind fun _ s => .ok 0 s) := by
    show _ = _
    simp [binT, sideT, givesT, *]
  have y0 : (k == 38) = false := by simpa using k1'
  have y1 : (k == 37) = false := by simpa using k2'
  have y2 : (k == 28) = false := by simpa using k3'
  have y3 : (k == 29) = false := by simpa using k4'
  have y4 : (k == 30) = false := by simpa using k5'
  have y5 : (k == 31) = false := by simpa using k6'
  have y6 : (k == 26) = false := by simpa using k7'
  have y7 : (k == 27) = false := by simpa using k8'
  clear k1' k2' k3' k4' k5' k6' k7' k8'
  obtain ⟨K, hK⟩ : ∃ K, K = b + szE l + szE r := ⟨_, rfl⟩
  obtain rfl : x = ((K : Nat) : Int) := by rw [hx, hK]; simp [rtE, szE]; omega
  obtain ⟨L1, L2, hn⟩ := Lie.two (by simpa only [flE] using L)
  rw [← hK] at hn
  obtain ⟨hk, hnb, r415, n0, n1, n2, n3, n4, n5, n6, n7, n8⟩ := H.node hn
  try simp only at n0 n1 n2 n3 n4 n5 n6 n7 n8
  obtain ⟨r0, r161, r162, r163, r164, r325, r414, r416, r417, r418, r419, hz⟩ := H.regs
  obtain ⟨hlt, hlt2, hlt3⟩ := H.blt
  have ty0 := H.tyb.cell (o := K) hk
  have tyz := H.tyb.frozen
  have rf0 := H.rfb.cell (o := K) hk
  have rfz := H.rfb.frozen
  have h200 := H.le
  have hkl : ((K : Nat) : Int) < A.ns.length := by omega
  have hK0 : ((K : Nat) : Int) ≥ 0 := by omega
  clear L hx hK
  have hW := wantF I l (by omega) tl H L1 rfl 0
  clear H
  go_enter Tryz.func224, Tryz.ntmps224
  go_wp2_with fail
  refine hW.mono ?_
  rintro v w1 ⟨k1, h⟩
  clear hW
  cases hq : wantE X b l 0 s with
  | bad er po =>
    rw [hq] at h
    obtain ⟨rfl, h0, s', C⟩ := h
    have HQ : Hid (_ = _) := hq
    clear hq
    go_wp2_with fail
    go_ret
    exact EP.bad (by rw [Hr.out, HQ.out]; rfl) k1 h0 C
  | ok u s1 =>
    rw [hq] at h
    obtain ⟨rfl, C1⟩ := h
    have HQ : Hid (_ = _) := hq
    clear hq
    clear hnb r415 n0 n1 n2 n3 n4 n5 n6 n7 r0 r161 r162 r163 r164 r325 r414 r416 r417 r418 r419 hz hlt hlt2 hlt3 ty0 tyz rf0 rfz
    obtain ⟨_, hnb, r415, n0, n1, n2, n3, n4, n5, n6, n7, n8⟩ := C1.node hn
    try simp only at n0 n1 n2 n3 n4 n5 n6 n7 n8
    obtain ⟨r0, r161, r162, r163, r164, r325, r414, r416, r417, r418, r419, hz⟩ := C1.regs
    obtain ⟨hlt, hlt2, hlt3⟩ := C1.blt
    have ty0 := C1.tyb.cell (o := K) hk
    have tyz := C1.tyb.frozen
    have rf0 := C1.rfb.cell (o := K) hk
    have rfz := C1.rfb.frozen
    have hW := wantF I r (by omega) tr C1 L2 rfl 0
    clear C1
    go_wp2_with fail
    refine hW.mono ?_
    rintro v w2 ⟨k2, h⟩
    clear hW
    cases hq2 : wantE X (b + szE l) r 0 s1 with
    | bad er po =>
      rw [hq2] at h
      obtain ⟨rfl, h0, s', C⟩ := h
      have HQ2 : Hid (_ = _) := hq2
      clear hq2
      go_wp2_with fail
      go_ret
      exact EP.bad (by rw [Hr.out, HQ.out]; show (wantE X (b + szE l) r 0 s1).bind _ = _; rw [HQ2.out]; rfl) (k1.trans k2 (fun _ _ h => h)) h0 C
    | ok u2 s2 =>
      rw [hq2] at h
      obtain ⟨rfl, C2⟩ := h
      have HQ2 : Hid (_ = _) := hq2
      clear hq2
      go_wp2_with fail
      go_ret
      exact EP.ok (by rw [Hr.out, HQ.out]; show (wantE X (b + szE l) r 0 s1).bind _ = _; rw [HQ2.out]; rfl) (k1.trans k2 (fun _ _ h => h)) C2
set_option maxRecDepth 100000 in
set_option maxHeartbeats 8000000 in
theorem bin_26 (I : ExC A X cur n) (H : CM w A X cur s 0 0) {b : Nat} {nx x : Int} {k p : Int} {l r : Exp} (L : Lie A.ns b (flE b nx (.bin k p l r))) (tl : TyE l) (tr : TyE r) (hsz : szE l + szE r ≤ n) (hx : x = rtE b (.bin k p l r)) (hkk : k = 26) : Calls Tryz.prog 224 #[.pointer (some ⟨A.c, 0, none⟩), .int .i64 x] w (EP w A X cur (binT X b k l r s)) := by
  subst hkk
  have Hr : Hid (binT X b 26 l r s = (ckE X b l s).bind fun t s => if 2 ≤ t then .bad 17 (poE l) else (wantE X (b + szE l) r t s).bind fun _ s => .ok 1 s) := by
    show _ = _
    simp [binT]
  obtain ⟨K, hK⟩ : ∃ K, K = b + szE l + szE r := ⟨_, rfl⟩
  obtain rfl : x = ((K : Nat) : Int) := by rw [hx, hK]; simp [rtE, szE]; omega
  obtain ⟨L1, L2, hn⟩ := Lie.two (by simpa only [flE] using L)
  rw [← hK] at hn
  obtain ⟨hk, hnb, r415, n0, n1, n2, n3, n4, n5, n6, n7, n8⟩ := H.node hn
  try simp only at n0 n1 n2 n3 n4 n5 n6 n7 n8
  obtain ⟨r0, r161, r162, r163, r164, r325, r414, r416, r417, r418, r419, hz⟩ := H.regs
  obtain ⟨hlt, hlt2, hlt3⟩ := H.blt
  have ty0 := H.tyb.cell (o := K) hk
  have tyz := H.tyb.frozen
  have rf0 := H.rfb.cell (o := K) hk
  have rfz := H.rfb.frozen
  have h200 := H.le
  have hkl : ((K : Nat) : Int) < A.ns.length := by omega
  have hK0 : ((K : Nat) : Int) ≥ 0 := by omega
  clear L hx hK
  have hE := I l (by omega) tl w s b (-1) (rtE b l) H L1 rfl
  have hkeep := keepE X l b s
  have hv := H.vt
  obtain ⟨nd2, hn2, _, hpos2, _⟩ := L1.root
  obtain ⟨J, hJ⟩ : ∃ J, J = b + szE l - 1 := ⟨_, rfl⟩
  rw [rtE_nat b l, ← hJ] at n1 hE
  rw [← hJ] at hn2
  rw [rtE_nat b l, ← hJ] at hn
  clear H hJ
  go_enter Tryz.func224, Tryz.ntmps224
  go_wp2_with fail
  refine hE.mono ?_
  rintro v w1 ⟨k1, h⟩
  clear hE
  cases hq : ckE X b l s with
  | bad er po =>
    rw [hq] at h
    obtain ⟨rfl, h0, s', C⟩ := h
    have HQ : Hid (_ = _) := hq
    clear hq hkeep
    go_wp2_with fail
    go_ret
    exact EP.bad (by rw [Hr.out, HQ.out]; rfl) k1 h0 C
  | ok t s1 =>
    rw [hq] at h
    obtain ⟨rfl, C1⟩ := h
    obtain ⟨t0, t8⟩ := (hkeep t s1 hq).2.2 hv tl
    have HQ : Hid (_ = _) := hq
    have z0 : decide (t < 0) = false := decide_eq_false (by omega)
    clear hq hkeep hv
    clear hnb r415 n0 n1 n2 n3 n4 n5 n6 n7 r0 r161 r162 r163 r164 r325 r414 r416 r417 r418 r419 hz hlt hlt2 hlt3 ty0 tyz rf0 rfz
    obtain ⟨_, hnb, r415, n0, n1, n2, n3, n4, n5, n6, n7, n8⟩ := C1.node hn
    try simp only at n0 n1 n2 n3 n4 n5 n6 n7 n8
    obtain ⟨r0, r161, r162, r163, r164, r325, r414, r416, r417, r418, r419, hz⟩ := C1.regs
    obtain ⟨hlt, hlt2, hlt3⟩ := C1.blt
    have ty0 := C1.tyb.cell (o := K) hk
    have tyz := C1.tyb.frozen
    have rf0 := C1.rfb.cell (o := K) hk
    have rfz := C1.rfb.frozen
    by_cases ht : 2 ≤ t
    · have z1 : decide (t ≥ 2) = true := decide_eq_true ht
      obtain ⟨j1, _, _, j4, j5, j6, j7, j8, j9, j10, j11, _⟩ := C1.node hn2
      rw [hpos2] at j10
      have hjl : (J : Int) < A.ns.length := by omega
      have hN1 := noneC (C1.same ((Fr.refl _ _).drew)) 17 (poE l)
      have HT : Hid _ := ht
      have Hk : Hid _ := k1
      clear ht C1 k1
      go_wp2_with fail
      refine wp_region_text (by kernel_rfl) (by kernel_rfl) ?_
      go_wp2_with fail
      refine hN1.mono ?_
      rintro v w3 ⟨rfl, C3, k3⟩
      go_wp2_with fail
      refine ⟨by kernel_rfl, ?_⟩
      go_wp2_with fail
      go_ret
      exact EP.bad (by rw [Hr.out, HQ.out]; show (if 2 ≤ t then _ else _) = _; rw [if_pos HT.out]) ((Hk.out.drew).trans k3 (fun _ _ h => h)) (by decide) C3
    · have z1 : decide (t ≥ 2) = false := decide_eq_false ht
      have HT : Hid _ := ht
      have hW := wantF I r (by omega) tr C1 L2 rfl t
      clear ht C1
      go_wp2_with fail
      refine hW.mono ?_
      rintro v w2 ⟨k2, h⟩
      clear hW
      cases hq2 : wantE X (b + szE l) r t s1 with
      | bad er po =>
        rw [hq2] at h
        obtain ⟨rfl, h0, s', C⟩ := h
        have HQ2 : Hid (_ = _) := hq2
        clear hq2
        go_wp2_with fail
        go_ret
        exact EP.bad (by rw [Hr.out, HQ.out]; show (if 2 ≤ t then _ else _) = _; rw [if_neg (show ¬ 2 ≤ t by have := HT.out; omega), HQ2.out]; rfl) (k1.trans k2 (fun _ _ h => h)) h0 C
      | ok u s2 =>
        rw [hq2] at h
        obtain ⟨rfl, C2⟩ := h
        have HQ2 : Hid (_ = _) := hq2
        clear hq2
        go_wp2_with fail
        go_ret
        exact EP.ok (by rw [Hr.out, HQ.out]; show (if 2 ≤ t then _ else _) = _; rw [if_neg (show ¬ 2 ≤ t by have := HT.out; omega), HQ2.out]; rfl) (k1.trans k2 (fun _ _ h => h)) C2
set_option maxRecDepth 100000 in
set_option maxHeartbeats 8000000 in
theorem bin_27 (I : ExC A X cur n) (H : CM w A X cur s 0 0) {b : Nat} {nx x : Int} {k p : Int} {l r : Exp} (L : Lie A.ns b (flE b nx (.bin k p l r))) (tl : TyE l) (tr : TyE r) (hsz : szE l + szE r ≤ n) (hx : x = rtE b (.bin k p l r)) (hkk : k = 27) : Calls Tryz.prog 224 #[.pointer (some ⟨A.c, 0, none⟩), .int .i64 x] w (EP w A X cur (binT X b k l r s)) := by
  subst hkk
  have Hr : Hid (binT X b 27 l r s = (ckE X b l s).bind fun t s => if 2 ≤ t then .bad 17 (poE l) else (wantE X (b + szE l) r t s).bind fun _ s => .ok 1 s) := by
    show _ = _
    simp [binT]
  obtain ⟨K, hK⟩ : ∃ K, K = b + szE l + szE r := ⟨_, rfl⟩
  obtain rfl : x = ((K : Nat) : Int) := by rw [hx, hK]; simp [rtE, szE]; omega
  obtain ⟨L1, L2, hn⟩ := Lie.two (by simpa only [flE] using L)
  rw [← hK] at hn
  obtain ⟨hk, hnb, r415, n0, n1, n2, n3, n4, n5, n6, n7, n8⟩ := H.node hn
  try simp only at n0 n1 n2 n3 n4 n5 n6 n7 n8
  obtain ⟨r0, r161, r162, r163, r164, r325, r414, r416, r417, r418, r419, hz⟩ := H.regs
  obtain ⟨hlt, hlt2, hlt3⟩ := H.blt
  have ty0 := H.tyb.cell (o := K) hk
  have tyz := H.tyb.frozen
  have rf0 := H.rfb.cell (o := K) hk
  have rfz := H.rfb.frozen
  have h200 := H.le
  have hkl : ((K : Nat) : Int) < A.ns.length := by omega
  have hK0 : ((K : Nat) : Int) ≥ 0 := by omega
  clear L hx hK
  have hE := I l (by omega) tl w s b (-1) (rtE b l) H L1 rfl
  have hkeep := keepE X l b s
  have hv := H.vt
  obtain ⟨nd2, hn2, _, hpos2, _⟩ := L1.root
  obtain ⟨J, hJ⟩ : ∃ J, J = b + szE l - 1 := ⟨_, rfl⟩
  rw [rtE_nat b l, ← hJ] at n1 hE
  rw [← hJ] at hn2
  rw [rtE_nat b l, ← hJ] at hn
  clear H hJ
  go_enter Tryz.func224, Tryz.ntmps224
  go_wp2_with fail
  refine hE.mono ?_
  rintro v w1 ⟨k1, h⟩
  clear hE
  cases hq : ckE X b l s with
  | bad er po =>
    rw [hq] at h
    obtain ⟨rfl, h0, s', C⟩ := h
    have HQ : Hid (_ = _) := hq
    clear hq hkeep
    go_wp2_with fail
    go_ret
    exact EP.bad (by rw [Hr.out, HQ.out]; rfl) k1 h0 C
  | ok t s1 =>
    rw [hq] at h
    obtain ⟨rfl, C1⟩ := h
    obtain ⟨t0, t8⟩ := (hkeep t s1 hq).2.2 hv tl
    have HQ : Hid (_ = _) := hq
    have z0 : decide (t < 0) = false := decide_eq_false (by omega)
    clear hq hkeep hv
    clear hnb r415 n0 n1 n2 n3 n4 n5 n6 n7 r0 r161 r162 r163 r164 r325 r414 r416 r417 r418 r419 hz hlt hlt2 hlt3 ty0 tyz rf0 rfz
    obtain ⟨_, hnb, r415, n0, n1, n2, n3, n4, n5, n6, n7, n8⟩ := C1.node hn
    try simp only at n0 n1 n2 n3 n4 n5 n6 n7 n8
    obtain ⟨r0, r161, r162, r163, r164, r325, r414, r416, r417, r418, r419, hz⟩ := C1.regs
    obtain ⟨hlt, hlt2, hlt3⟩ := C1.blt
    have ty0 := C1.tyb.cell (o := K) hk
    have tyz := C1.tyb.frozen
    have rf0 := C1.rfb.cell (o := K) hk
    have rfz := C1.rfb.frozen
    by_cases ht : 2 ≤ t
    · have z1 : decide (t ≥ 2) = true := decide_eq_true ht
      obtain ⟨j1, _, _, j4, j5, j6, j7, j8, j9, j10, j11, _⟩ := C1.node hn2
      rw [hpos2] at j10
      have hjl : (J : Int) < A.ns.length := by omega
      have hN1 := noneC (C1.same ((Fr.refl _ _).drew)) 17 (poE l)
      have HT : Hid _ := ht
      have Hk : Hid _ := k1
      clear ht C1 k1
      go_wp2_with fail
      refine wp_region_text (by kernel_rfl) (by kernel_rfl) ?_
      go_wp2_with fail
      refine hN1.mono ?_
      rintro v w3 ⟨rfl, C3, k3⟩
      go_wp2_with fail
      refine ⟨by kernel_rfl, ?_⟩
      go_wp2_with fail
      go_ret
      exact EP.bad (by rw [Hr.out, HQ.out]; show (if 2 ≤ t then _ else _) = _; rw [if_pos HT.out]) ((Hk.out.drew).trans k3 (fun _ _ h => h)) (by decide) C3
    · have z1 : decide (t ≥ 2) = false := decide_eq_false ht
      have HT : Hid _ := ht
      have hW := wantF I r (by omega) tr C1 L2 rfl t
      clear ht C1
      go_wp2_with fail
      refine hW.mono ?_
      rintro v w2 ⟨k2, h⟩
      clear hW
      cases hq2 : wantE X (b + szE l) r t s1 with
      | bad er po =>
        rw [hq2] at h
        obtain ⟨rfl, h0, s', C⟩ := h
        have HQ2 : Hid (_ = _) := hq2
        clear hq2
        go_wp2_with fail
        go_ret
        exact EP.bad (by rw [Hr.out, HQ.out]; show (if 2 ≤ t then _ else _) = _; rw [if_neg (show ¬ 2 ≤ t by have := HT.out; omega), HQ2.out]; rfl) (k1.trans k2 (fun _ _ h => h)) h0 C
      | ok u s2 =>
        rw [hq2] at h
        obtain ⟨rfl, C2⟩ := h
        have HQ2 : Hid (_ = _) := hq2
        clear hq2
        go_wp2_with fail
        go_ret
        exact EP.ok (by rw [Hr.out, HQ.out]; show (if 2 ≤ t then _ else _) = _; rw [if_neg (show ¬ 2 ≤ t by have := HT.out; omega), HQ2.out]; rfl) (k1.trans k2 (fun _ _ h => h)) C2
theorem binC (I : ExC A X cur n) (H : CM w A X cur s 0 0) {b : Nat} {nx x : Int} {k p : Int} {l r : Exp} (L : Lie A.ns b (flE b nx (.bin k p l r))) (tl : TyE l) (tr : TyE r) (hsz : szE l + szE r ≤ n) (hx : x = rtE b (.bin k p l r)) : Calls Tryz.prog 224 #[.pointer (some ⟨A.c, 0, none⟩), .int .i64 x] w (EP w A X cur (binT X b k l r s)) := by
  by_cases h38 : k = 38
  · exact bin_38 I H L tl tr hsz hx h38
  by_cases h37 : k = 37
  · exact bin_37 I H L tl tr hsz hx h37
  by_cases h28 : k = 28
  · exact bin_28 I H L tl tr hsz hx h28
  by_cases h29 : k = 29
  · exact bin_29 I H L tl tr hsz hx h29
  by_cases h30 : k = 30
  · exact bin_30 I H L tl tr hsz hx h30
  by_cases h31 : k = 31
  · exact bin_31 I H L tl tr hsz hx h31
  by_cases h26 : k = 26
  · exact bin_26 I H L tl tr hsz hx h26
  by_cases h27 : k = 27
  · exact bin_27 I H L tl tr hsz hx h27
  exact bin_other I H L tl tr hsz hx ⟨h38, h37, h28, h29, h30, h31, h26, h27⟩
theorem binT_pos (b : Nat) (k : Int) (l r : Exp) (t : Int) (s' : Ck) (h : binT X b k l r s = .ok t s') : 0 ≤ t := by
  unfold binT at h
  split at h
  · obtain ⟨u, s1, _, h2⟩ := Rc.bind_eq h
    split at h2
    · cases h2
    · obtain ⟨_, s2, _, h3⟩ := Rc.bind_eq h2
      injection h3 with h3 _
      omega
  · obtain ⟨u, s1, _, h2⟩ := Rc.bind_eq h
    obtain ⟨_, s2, _, h3⟩ := Rc.bind_eq h2
    injection h3 with h3 _
    rw [← h3]
    unfold givesT
    split <;> omega
set_option maxRecDepth 100000 in
set_option maxHeartbeats 8000000 in
theorem ex_bin (I : ExC A X cur n) (H : CM w A X cur s 0 0) {b : Nat} {nx x : Int} {k p : Int} {l r : Exp} (L : Lie A.ns b (flE b nx (.bin k p l r))) (tl : TyE l) (tr : TyE r) (hsz : szE l + szE r ≤ n) (hx : x = rtE b (.bin k p l r)) : Calls Tryz.prog 191 #[.pointer (some ⟨A.c, 0, none⟩), .int .i64 x] w (EP w A X cur (ckE X b (.bin k p l r) s)) := by
  have hB0 := binC I H L tl tr hsz hx
  obtain ⟨K, hK⟩ : ∃ K, K = b + szE l + szE r := ⟨_, rfl⟩
  obtain rfl : x = ((K : Nat) : Int) := by rw [hx, hK]; simp [rtE, szE]; try omega
  obtain ⟨L1, L2, hn⟩ := Lie.two (by simpa only [flE] using L)
  rw [← hK] at hn
  have hr := ckE_bin (X := X) b k p l r s
  rw [← hK] at hr
  have Hr : Hid (_ = _) := hr
  obtain ⟨hk, hnb, r415, n0, n1, n2, n3, n4, n5, n6, n7, n8⟩ := H.node hn
  try simp only at n0 n1 n2 n3 n4 n5 n6 n7 n8
  obtain ⟨r0, r161, r162, r163, r164, r325, r414, r416, r417, r418, r419, hz⟩ := H.regs
  obtain ⟨hlt, hlt2, hlt3⟩ := H.blt
  have ty0 := H.tyb.cell (o := K) hk
  have tyz := H.tyb.frozen
  have rf0 := H.rfb.cell (o := K) hk
  have rfz := H.rfb.frozen
  have h200 := H.le
  have hkl : ((K : Nat) : Int) < A.ns.length := by omega
  have hK0 : ((K : Nat) : Int) ≥ 0 := by omega
  have HK : Hid _ := hK
  clear hr L hx hK
  have hB := hB0
  clear hB0
  have hpos := binT_pos (X := X) (s := s) b k l r
  clear H
  go_enter Tryz.func191, Tryz.ntmps191
  go_wp2_with fail
  refine hB.mono ?_
  rintro v w1 ⟨k1, h⟩
  clear hB
  cases hq : binT X b k l r s with
  | bad er po =>
    rw [hq] at h
    obtain ⟨rfl, h0, s', C⟩ := h
    have HQ : Hid (_ = _) := hq
    clear hq hpos
    go_wp2_with fail
    go_ret
    exact EP.bad (by rw [Hr.out, HQ.out]; rfl) k1 h0 C
  | ok t s1 =>
    rw [hq] at h
    obtain ⟨rfl, C1⟩ := h
    have t0 := hpos t s1 hq
    have z0 : decide (t ≥ 0) = true := decide_eq_true t0
    have HQ : Hid (_ = _) := hq
    clear hq hpos
    clear hnb r415 n0 n1 n2 n3 n4 n5 n6 n7 r0 r161 r162 r163 r164 r325 r414 r416 r417 r418 r419 hz hlt hlt2 hlt3 ty0 tyz rf0 rfz
    obtain ⟨_, hnb, r415, n0, n1, n2, n3, n4, n5, n6, n7, n8⟩ := C1.node hn
    try simp only at n0 n1 n2 n3 n4 n5 n6 n7 n8
    obtain ⟨r0, r161, r162, r163, r164, r325, r414, r416, r417, r418, r419, hz⟩ := C1.regs
    obtain ⟨hlt, hlt2, hlt3⟩ := C1.blt
    have ty0 := C1.tyb.cell (o := K) hk
    have tyz := C1.tyb.frozen
    have rf0 := C1.rfb.cell (o := K) hk
    have rfz := C1.rfb.frozen
    have HN : Hid _ := C1.note K (t)
    have HF : Hid _ := k1
    clear C1 k1
    go_wp2_with fail
    go_ret
    exact EP.ok (by rw [Hr.out, HQ.out]; rfl) (HF.out.trans HN.out.2 (fun _ _ h => h)) HN.out.1
end
end Go.Proofs.Qxb6500277aGreat
