/- The real checker: each statement. -/
import Derived.Test.Qxb6500277aGreatCS1
namespace Go.Proofs.Qxb6500277aGreat
open Go Go.RowKit

section
variable {w w' : World} {A : Ca} {X : Cx} {cur : Nat} {s : Ck} {er po : Int} {n : Nat}
theorem mayD_keep {nm : ByteArray} {t p : Int} {s' : Ck} (h : mayD nm t p s = .ok () s) (k : Kp s s') : mayD nm t p s' = .ok () s' := by
  unfold mayD at h ⊢
  rw [k.vs, k.lvl, k.nr, k.ni]
  split at h
  · cases h
  · rename_i h1
    rw [if_neg h1]
    split at h
    · rename_i h2
      rw [if_pos h2]
      split at h
      · cases h
      · rename_i h3; rw [if_neg h3]
    · rename_i h2
      rw [if_neg h2]
      split at h
      · cases h
      · rename_i h3; rw [if_neg h3]
set_option maxRecDepth 100000 in
set_option maxHeartbeats 8000000 in
theorem st_prt (H : CM w A X cur s 0 0) {b : Nat} {nx x : Int} {p : Int} {e : Exp} (te : TyE e) (L : Lie A.ns b (flS b nx (.prt p e))) (hx : x = rtS b (.prt p e)) : Calls Tryz.prog 150 #[.pointer (some ⟨A.c, 0, none⟩), .int .i64 x] w (CB w A X cur (ckS X cur b (.prt p e) s)) := by
  obtain ⟨K, hK⟩ : ∃ K, K = b + szE e := ⟨_, rfl⟩
  obtain rfl : x = ((K : Nat) : Int) := by rw [hx, hK]; simp [rtS, szS]; try omega
  obtain ⟨L1, hn⟩ := Lie.un (by simpa only [flS] using L)
  rw [← hK] at hn
  have hr := (show ckS X cur b (.prt p e) s = wantE X b e (0) s by simp only [ckS])
  try rw [← hK] at hr
  have Hr : Hid (_ = _) := hr
  obtain ⟨hk, hnb, r415, n0, n1, n2, n3, n4, n5, n6, n7, n8⟩ := H.node hn
  try simp only at n0 n1 n2 n3 n4 n5 n6 n7 n8
  obtain ⟨r0, r161, r162, r163, r164, r325, r414, r416, r417, r418, r419, hz⟩ := H.regs
  obtain ⟨hlt, hlt2, hlt3⟩ := H.blt
  have ty0 := H.tyb.cell (o := K) hk
  have tyz := H.tyb.frozen
  have rf0 := H.rfb.cell (o := K) hk
  have rfz := H.rfb.frozen
  have h200 := H.le
  have hkl : ((K : Nat) : Int) < A.ns.length := by omega
  have hK0 : ((K : Nat) : Int) ≥ 0 := by omega
  have HK : Hid _ := hK
  clear hr L hx hK
  go_enter Tryz.func150, Tryz.ntmps150
  have hW := wantC e te (H) L1 rfl (0)
  clear H
  go_wp2_with fail
  refine hW.mono ?_
  rintro v w1 ⟨k1, h⟩
  clear hW
  cases hq : wantE X b e (0) s with
  | bad er po =>
    rw [hq] at h
    obtain ⟨rfl, h0, s', C⟩ := h
    have HQ1 : Hid (_ = _) := hq
    clear hq
    go_wp2_with fail
    go_ret
    exact CB.bad (by rw [Hr.out, HQ1.out]) (k1) h0 C
  | ok u1 s1 =>
    rw [hq] at h
    obtain ⟨rfl, C1⟩ := h
    have HQ1 : Hid (_ = _) := hq
    clear hq
    go_wp2_with fail
    go_ret
    exact CB.ok (by rw [Hr.out, HQ1.out]) (k1) C1
set_option maxRecDepth 100000 in
set_option maxHeartbeats 8000000 in
theorem st_ret (H : CM w A X cur s 0 0) {b : Nat} {nx x : Int} {p : Int} {e : Exp} (te : TyE e) (hc : cur < X.fs.length) (L : Lie A.ns b (flS b nx (.ret p e))) (hx : x = rtS b (.ret p e)) : Calls Tryz.prog 150 #[.pointer (some ⟨A.c, 0, none⟩), .int .i64 x] w (CB w A X cur (ckS X cur b (.ret p e) s)) := by
  obtain ⟨K, hK⟩ : ∃ K, K = b + szE e := ⟨_, rfl⟩
  obtain rfl : x = ((K : Nat) : Int) := by rw [hx, hK]; simp [rtS, szS]; try omega
  obtain ⟨L1, hn⟩ := Lie.un (by simpa only [flS] using L)
  rw [← hK] at hn
  have hr := (show ckS X cur b (.ret p e) s = wantE X b e ((fAt X.fs cur).ret) s by simp only [ckS])
  try rw [← hK] at hr
  have Hr : Hid (_ = _) := hr
  obtain ⟨hk, hnb, r415, n0, n1, n2, n3, n4, n5, n6, n7, n8⟩ := H.node hn
  try simp only at n0 n1 n2 n3 n4 n5 n6 n7 n8
  obtain ⟨r0, r161, r162, r163, r164, r325, r414, r416, r417, r418, r419, hz⟩ := H.regs
  obtain ⟨hlt, hlt2, hlt3⟩ := H.blt
  have ty0 := H.tyb.cell (o := K) hk
  have tyz := H.tyb.frozen
  have rf0 := H.rfb.cell (o := K) hk
  have rfz := H.rfb.frozen
  have h200 := H.le
  have hkl : ((K : Nat) : Int) < A.ns.length := by omega
  have hK0 : ((K : Nat) : Int) ≥ 0 := by omega
  have HK : Hid _ := hK
  clear hr L hx hK
  obtain ⟨f0', f1', f2', f3', f4', f5', f6'⟩ := H.func hc
  have hx8 := H.xok.le
  have hc8 : cur < 8 := by omega
  go_enter Tryz.func150, Tryz.ntmps150
  have hW := wantC e te (H.same ((Fr.refl _ _).drew)) L1 rfl ((fAt X.fs cur).ret)
  clear H
  go_wp2_with fail
  refine wp_region_text (by kernel_rfl) (by kernel_rfl) ?_
  go_wp2_with fail
  refine hW.mono ?_
  rintro v w1 ⟨k1, h⟩
  clear hW
  cases hq : wantE X b e ((fAt X.fs cur).ret) s with
  | bad er po =>
    rw [hq] at h
    obtain ⟨rfl, h0, s', C⟩ := h
    have HQ1 : Hid (_ = _) := hq
    clear hq
    go_wp2_with fail
    refine ⟨by kernel_rfl, ?_⟩
    go_wp2_with fail
    go_ret
    exact CB.bad (by rw [Hr.out, HQ1.out]) ((Fr.refl (CS A) w).drew.trans k1 (fun _ _ h => h)) h0 C
  | ok u1 s1 =>
    rw [hq] at h
    obtain ⟨rfl, C1⟩ := h
    have HQ1 : Hid (_ = _) := hq
    clear hq
    go_wp2_with fail
    refine ⟨by kernel_rfl, ?_⟩
    go_wp2_with fail
    go_ret
    exact CB.ok (by rw [Hr.out, HQ1.out]) ((Fr.refl (CS A) w).drew.trans k1 (fun _ _ h => h)) C1
set_option maxRecDepth 100000 in
set_option maxHeartbeats 8000000 in
theorem st_exp (H : CM w A X cur s 0 0) {b : Nat} {nx x : Int} {e : Exp} (te : TyE e) (L : Lie A.ns b (flS b nx (.exp e))) (hx : x = rtS b (.exp e)) : Calls Tryz.prog 150 #[.pointer (some ⟨A.c, 0, none⟩), .int .i64 x] w (CB w A X cur (ckS X cur b (.exp e) s)) := by
  obtain ⟨K, hK⟩ : ∃ K, K = b + szE e := ⟨_, rfl⟩
  obtain rfl : x = ((K : Nat) : Int) := by rw [hx, hK]; simp [rtS, szS]; try omega
  obtain ⟨L1, hn⟩ := Lie.un (by simpa only [flS] using L)
  rw [← hK] at hn
  have hr := (show ckS X cur b (.exp e) s = (ckE X b e s).bind fun _ s => .ok () s by simp only [ckS])
  try rw [← hK] at hr
  have Hr : Hid (_ = _) := hr
  obtain ⟨hk, hnb, r415, n0, n1, n2, n3, n4, n5, n6, n7, n8⟩ := H.node hn
  try simp only at n0 n1 n2 n3 n4 n5 n6 n7 n8
  obtain ⟨r0, r161, r162, r163, r164, r325, r414, r416, r417, r418, r419, hz⟩ := H.regs
  obtain ⟨hlt, hlt2, hlt3⟩ := H.blt
  have ty0 := H.tyb.cell (o := K) hk
  have tyz := H.tyb.frozen
  have rf0 := H.rfb.cell (o := K) hk
  have rfz := H.rfb.frozen
  have h200 := H.le
  have hkl : ((K : Nat) : Int) < A.ns.length := by omega
  have hK0 : ((K : Nat) : Int) ≥ 0 := by omega
  have HK : Hid _ := hK
  clear hr L hx hK
  have hkeep := keepE X e b s
  have hv := H.vt
  go_enter Tryz.func150, Tryz.ntmps150
  have hW := exC e te H L1 rfl
  clear H
  go_wp2_with fail
  refine hW.mono ?_
  rintro v w1 ⟨k1, h⟩
  clear hW
  cases hq : ckE X b e s with
  | bad er po =>
    rw [hq] at h
    obtain ⟨rfl, h0, s', C⟩ := h
    have HQ1 : Hid (_ = _) := hq
    clear hq
    go_wp2_with fail
    go_ret
    exact CB.bad (by rw [Hr.out, HQ1.out]; rfl) (k1) h0 C
  | ok u1 s1 =>
    rw [hq] at h
    obtain ⟨rfl, C1⟩ := h
    have HQ1 : Hid (_ = _) := hq
    have t0 := ((hkeep u1 s1 hq).2.2 hv te).1
    have z0 : decide (u1 ≥ 0) = true := decide_eq_true t0
    clear hq hkeep
    go_wp2_with fail
    go_ret
    refine CB.ok (u := ()) (by rw [Hr.out, HQ1.out]; rfl) k1 C1
set_option maxRecDepth 100000 in
set_option maxHeartbeats 8000000 in
theorem st_asg (H : CM w A X cur s 0 0) {b : Nat} {nx x : Int} {p : Int} {a c : Exp} (ta : TyE a) (tc : TyE c) (L : Lie A.ns b (flS b nx (.asg p a c))) (hx : x = rtS b (.asg p a c)) : Calls Tryz.prog 150 #[.pointer (some ⟨A.c, 0, none⟩), .int .i64 x] w (CB w A X cur (ckS X cur b (.asg p a c) s)) := by
  obtain ⟨K, hK⟩ : ∃ K, K = b + szE a + szE c := ⟨_, rfl⟩
  obtain rfl : x = ((K : Nat) : Int) := by rw [hx, hK]; simp [rtS, szS]; try omega
  obtain ⟨L1, L2, hn⟩ := Lie.two (by simpa only [flS] using L)
  rw [← hK] at hn
  have hr := (show ckS X cur b (.asg p a c) s = (ckE X b a s).bind fun t s => wantE X (b + szE a) c t s by simp only [ckS])
  try rw [← hK] at hr
  have Hr : Hid (_ = _) := hr
  obtain ⟨hk, hnb, r415, n0, n1, n2, n3, n4, n5, n6, n7, n8⟩ := H.node hn
  try simp only at n0 n1 n2 n3 n4 n5 n6 n7 n8
  obtain ⟨r0, r161, r162, r163, r164, r325, r414, r416, r417, r418, r419, hz⟩ := H.regs
  obtain ⟨hlt, hlt2, hlt3⟩ := H.blt
  have ty0 := H.tyb.cell (o := K) hk
  have tyz := H.tyb.frozen
  have rf0 := H.rfb.cell (o := K) hk
  have rfz := H.rfb.frozen
  have h200 := H.le
  have hkl : ((K : Nat) : Int) < A.ns.length := by omega
  have hK0 : ((K : Nat) : Int) ≥ 0 := by omega
  have HK : Hid _ := hK
  clear hr L hx hK
  have hkeep := keepE X a b s
  have hv := H.vt
  go_enter Tryz.func150, Tryz.ntmps150
  have hW := exC a ta H L1 rfl
  clear H
  go_wp2_with fail
  refine hW.mono ?_
  rintro v w1 ⟨k1, h⟩
  clear hW
  cases hq : ckE X b a s with
  | bad er po =>
    rw [hq] at h
    obtain ⟨rfl, h0, s', C⟩ := h
    have HQ1 : Hid (_ = _) := hq
    clear hq
    go_wp2_with fail
    go_ret
    exact CB.bad (by rw [Hr.out, HQ1.out]; rfl) (k1) h0 C
  | ok u1 s1 =>
    rw [hq] at h
    obtain ⟨rfl, C1⟩ := h
    have HQ1 : Hid (_ = _) := hq
    have t0 := ((hkeep u1 s1 hq).2.2 hv ta).1
    have z0 : decide (u1 ≥ 0) = true := decide_eq_true t0
    clear hq hkeep
    clear hnb r415 n0 n1 n2 n3 n4 n5 n6 n7 r0 r161 r162 r163 r164 r325 r414 r416 r417 r418 r419 hz hlt hlt2 hlt3 ty0 tyz rf0 rfz
    obtain ⟨_, hnb, r415, n0, n1, n2, n3, n4, n5, n6, n7, n8⟩ := C1.node hn
    try simp only at n0 n1 n2 n3 n4 n5 n6 n7 n8
    obtain ⟨r0, r161, r162, r163, r164, r325, r414, r416, r417, r418, r419, hz⟩ := C1.regs
    obtain ⟨hlt, hlt2, hlt3⟩ := C1.blt
    have ty0 := C1.tyb.cell (o := K) hk
    have tyz := C1.tyb.frozen
    have rf0 := C1.rfb.cell (o := K) hk
    have rfz := C1.rfb.frozen
    have hW := wantC c tc C1 L2 rfl u1
    clear C1
    go_wp2_with fail
    refine hW.mono ?_
    rintro v w2 ⟨k2, h⟩
    clear hW
    cases hq : wantE X (b + szE a) c u1 s1 with
    | bad er po =>
      rw [hq] at h
      obtain ⟨rfl, h0, s', C⟩ := h
      have HQ2 : Hid (_ = _) := hq
      clear hq
      go_wp2_with fail
      go_ret
      exact CB.bad (by rw [Hr.out, HQ1.out]; exact HQ2.out) (k1.trans k2 (fun _ _ h => h)) h0 C
    | ok u2 s2 =>
      rw [hq] at h
      obtain ⟨rfl, C2⟩ := h
      have HQ2 : Hid (_ = _) := hq
      clear hq
      go_wp2_with fail
      go_ret
      exact CB.ok (by rw [Hr.out, HQ1.out]; exact HQ2.out) (k1.trans k2 (fun _ _ h => h)) C2
set_option maxRecDepth 100000 in
set_option maxHeartbeats 8000000 in
theorem st_vd (H : CM w A X cur s 0 0) {b : Nat} {nx x : Int} {nm : ByteArray} {p t : Int} {e : Exp} (te : TyE e) (ht8 : 0 ≤ t ∧ t < 8) (hc : cur < X.fs.length) (L : Lie A.ns b (flS b nx (.vd nm p t e))) (hx : x = rtS b (.vd nm p t e)) : Calls Tryz.prog 150 #[.pointer (some ⟨A.c, 0, none⟩), .int .i64 x] w (CB w A X cur (ckS X cur b (.vd nm p t e) s)) := by
  obtain ⟨K, hK⟩ : ∃ K, K = b + szE e := ⟨_, rfl⟩
  obtain rfl : x = ((K : Nat) : Int) := by rw [hx, hK]; simp [rtS, szS]; try omega
  obtain ⟨L1, hn⟩ := Lie.un (by simpa only [flS] using L)
  rw [← hK] at hn
  have hr := (show ckS X cur b (.vd nm p t e) s = (mayD nm t p s).bind fun _ s => (wantE X b e t s).bind fun _ s => .ok () (decl cur (b + szE e) nm t s) by simp only [ckS])
  try rw [← hK] at hr
  have Hr : Hid (_ = _) := hr
  obtain ⟨hk, hnb, r415, n0, n1, n2, n3, n4, n5, n6, n7, n8⟩ := H.node hn
  try simp only at n0 n1 n2 n3 n4 n5 n6 n7 n8
  obtain ⟨r0, r161, r162, r163, r164, r325, r414, r416, r417, r418, r419, hz⟩ := H.regs
  obtain ⟨hlt, hlt2, hlt3⟩ := H.blt
  have ty0 := H.tyb.cell (o := K) hk
  have tyz := H.tyb.frozen
  have rf0 := H.rfb.cell (o := K) hk
  have rfz := H.rfb.frozen
  have h200 := H.le
  have hkl : ((K : Nat) : Int) < A.ns.length := by omega
  have hK0 : ((K : Nat) : Int) ≥ 0 := by omega
  have HK : Hid _ := hK
  clear hr L hx hK
  go_enter Tryz.func150, Tryz.ntmps150
  have hW := mayDC H hn
  clear H
  go_wp2_with fail
  refine hW.mono ?_
  rintro v w1 ⟨k1, h⟩
  clear hW
  try simp only at h
  cases hq : mayD nm t p s with
  | bad er po =>
    rw [hq] at h
    obtain ⟨rfl, h0, s', C⟩ := h
    have HQ1 : Hid (_ = _) := hq
    clear hq
    go_wp2_with fail
    go_ret
    exact CB.bad (by rw [Hr.out, HQ1.out]; rfl) (k1) h0 C
  | ok u1 s1 =>
    rw [hq] at h
    obtain ⟨rfl, C1⟩ := h
    have HQ1 : Hid (_ = _) := hq
    obtain ⟨rfl, _⟩ := mayD_eq hq
    clear hq
    clear hnb r415 n0 n1 n2 n3 n4 n5 n6 n7 r0 r161 r162 r163 r164 r325 r414 r416 r417 r418 r419 hz hlt hlt2 hlt3 ty0 tyz rf0 rfz
    obtain ⟨_, hnb, r415, n0, n1, n2, n3, n4, n5, n6, n7, n8⟩ := C1.node hn
    try simp only at n0 n1 n2 n3 n4 n5 n6 n7 n8
    obtain ⟨r0, r161, r162, r163, r164, r325, r414, r416, r417, r418, r419, hz⟩ := C1.regs
    obtain ⟨hlt, hlt2, hlt3⟩ := C1.blt
    have ty0 := C1.tyb.cell (o := K) hk
    have tyz := C1.tyb.frozen
    have rf0 := C1.rfb.cell (o := K) hk
    have rfz := C1.rfb.frozen
    have hW := wantC e te (C1.same ((Fr.refl _ _).drew)) L1 rfl t
    clear C1
    go_wp2_with fail
    refine wp_region_text (by kernel_rfl) (by kernel_rfl) ?_
    go_wp2_with fail
    refine hW.mono ?_
    rintro v w2 ⟨k2, h⟩
    clear hW
    cases hq : wantE X b e t s1 with
    | bad er po =>
      rw [hq] at h
      obtain ⟨rfl, h0, s', C⟩ := h
      have HQ2 : Hid (_ = _) := hq
      clear hq
      go_wp2_with fail
      refine ⟨by kernel_rfl, ?_⟩
      go_wp2_with fail
      go_ret
      exact CB.bad (by rw [Hr.out, HQ1.out]; show (wantE X b e t s1).bind _ = _; rw [HQ2.out]; rfl) ((k1.drew).trans k2 (fun _ _ h => h)) h0 C
    | ok u2 s2 =>
      rw [hq] at h
      obtain ⟨rfl, C2⟩ := h
      have HQ2 : Hid (_ = _) := hq
      have hkp := wantE_eq hq
      have hD := declC C2 hn (mayD_keep HQ1.out hkp) ht8 hc
      have HF : Hid _ := (k1.drew).trans k2 (fun _ _ h => h)
      clear hq hkp C2
      go_wp2_with fail
      refine ⟨by kernel_rfl, ?_⟩
      go_wp2_with fail
      refine hD.mono ?_
      rintro v w3 ⟨rfl, C3, k3⟩
      go_wp2_with fail
      go_ret
      refine CB.ok (u := ()) (by rw [Hr.out, HQ1.out]; show (wantE X b e t s1).bind _ = _; rw [HQ2.out, Rc.bind_ok]) (HF.out.trans k3 (fun _ _ h => h)) C3
set_option maxRecDepth 100000 in
set_option maxHeartbeats 8000000 in
theorem st_iff (H : CM w A X cur s 0 0) {b : Nat} {nx x : Int} {p bp : Int} {e : Exp} {ss : Stms} (te : TyE e) (ts : TySs ss) (I : BlkQ A X cur n) (hsz : szSs ss ≤ n) (hl : s.lvl + szSs ss + 1 ≤ 4000) (L : Lie A.ns b (flS b nx (.iff p e bp ss))) (hx : x = rtS b (.iff p e bp ss)) : Calls Tryz.prog 150 #[.pointer (some ⟨A.c, 0, none⟩), .int .i64 x] w (CB w A X cur (ckS X cur b (.iff p e bp ss) s)) := by
  obtain ⟨K, hK⟩ : ∃ K, K = b + szE e + (szSs ss + 1) := ⟨_, rfl⟩
  obtain rfl : x = ((K : Nat) : Int) := by rw [hx, hK]; simp [rtS, szS]; try omega
  obtain ⟨L1, LB, hn⟩ := Lie.eb (by simpa only [flS] using L)
  obtain ⟨L2, hnb2⟩ := LB.blk
  obtain ⟨Q, hQ⟩ : ∃ Q, Q = b + szE e + szSs ss := ⟨_, rfl⟩
  rw [← hQ] at hn hnb2
  rw [← hK] at hn
  have hr := (show ckS X cur b (.iff p e bp ss) s = (wantE X b e 1 s).bind fun _ s => inB (ckSs X cur (b + szE e) ss) s by simp only [ckS])
  try rw [← hK] at hr
  have Hr : Hid (_ = _) := hr
  clear hQ LB
  obtain ⟨hk, hnb, r415, n0, n1, n2, n3, n4, n5, n6, n7, n8⟩ := H.node hn
  try simp only at n0 n1 n2 n3 n4 n5 n6 n7 n8
  obtain ⟨r0, r161, r162, r163, r164, r325, r414, r416, r417, r418, r419, hz⟩ := H.regs
  obtain ⟨hlt, hlt2, hlt3⟩ := H.blt
  have ty0 := H.tyb.cell (o := K) hk
  have tyz := H.tyb.frozen
  have rf0 := H.rfb.cell (o := K) hk
  have rfz := H.rfb.frozen
  have h200 := H.le
  have hkl : ((K : Nat) : Int) < A.ns.length := by omega
  have hK0 : ((K : Nat) : Int) ≥ 0 := by omega
  have HK : Hid _ := hK
  clear hr L hx hK
  go_enter Tryz.func150, Tryz.ntmps150
  have hW := wantC e te H L1 rfl 1
  clear H
  go_wp2_with fail
  refine hW.mono ?_
  rintro v w1 ⟨k1, h⟩
  clear hW
  cases hq : wantE X b e 1 s with
  | bad er po =>
    rw [hq] at h
    obtain ⟨rfl, h0, s', C⟩ := h
    have HQ1 : Hid (_ = _) := hq
    clear hq
    go_wp2_with fail
    go_ret
    exact CB.bad (by rw [Hr.out, HQ1.out]; rfl) (k1) h0 C
  | ok u1 s1 =>
    rw [hq] at h
    obtain ⟨rfl, C1⟩ := h
    have HQ1 : Hid (_ = _) := hq
    have hkp := wantE_eq hq
    clear hq
    clear hnb r415 n0 n1 n2 n3 n4 n5 n6 n7 r0 r161 r162 r163 r164 r325 r414 r416 r417 r418 r419 hz hlt hlt2 hlt3 ty0 tyz rf0 rfz
    obtain ⟨_, hnb, r415, n0, n1, n2, n3, n4, n5, n6, n7, n8⟩ := C1.node hn
    try simp only at n0 n1 n2 n3 n4 n5 n6 n7 n8
    obtain ⟨r0, r161, r162, r163, r164, r325, r414, r416, r417, r418, r419, hz⟩ := C1.regs
    obtain ⟨hlt, hlt2, hlt3⟩ := C1.blt
    have ty0 := C1.tyb.cell (o := K) hk
    have tyz := C1.tyb.frozen
    have rf0 := C1.rfb.cell (o := K) hk
    have rfz := C1.rfb.frozen
    have hW := I ss hsz ts w1 s1 (b + szE e) Q bp C1 (by rw [hkp.lvl]; exact hl) L2 hnb2
    clear C1 hkp
    go_wp2_with fail
    refine hW.mono ?_
    rintro v w2 ⟨k2, h⟩
    clear hW
    cases hq : inB (ckSs X cur (b + szE e) ss) s1 with
    | bad er po =>
      rw [hq] at h
      obtain ⟨rfl, h0, s', C⟩ := h
      have HQ2 : Hid (_ = _) := hq
      clear hq
      go_wp2_with fail
      go_ret
      exact CB.bad (by rw [Hr.out, HQ1.out]; exact HQ2.out) (k1.trans k2 (fun _ _ h => h)) h0 C
    | ok u2 s2 =>
      rw [hq] at h
      obtain ⟨rfl, C2⟩ := h
      have HQ2 : Hid (_ = _) := hq
      clear hq
      clear hnb r415 n0 n1 n2 n3 n4 n5 n6 n7 r0 r161 r162 r163 r164 r325 r414 r416 r417 r418 r419 hz hlt hlt2 hlt3 ty0 tyz rf0 rfz
      obtain ⟨_, hnb, r415, n0, n1, n2, n3, n4, n5, n6, n7, n8⟩ := C2.node hn
      try simp only at n0 n1 n2 n3 n4 n5 n6 n7 n8
      obtain ⟨r0, r161, r162, r163, r164, r325, r414, r416, r417, r418, r419, hz⟩ := C2.regs
      obtain ⟨hlt, hlt2, hlt3⟩ := C2.blt
      have ty0 := C2.tyb.cell (o := K) hk
      have tyz := C2.tyb.frozen
      have rf0 := C2.rfb.cell (o := K) hk
      have rfz := C2.rfb.frozen
      go_wp2_with fail
      go_ret
      exact CB.ok (by rw [Hr.out, HQ1.out]; exact HQ2.out) (k1.trans k2 (fun _ _ h => h)) C2
set_option maxRecDepth 100000 in
set_option maxHeartbeats 8000000 in
theorem st_whl (H : CM w A X cur s 0 0) {b : Nat} {nx x : Int} {p bp : Int} {e : Exp} {ss : Stms} (te : TyE e) (ts : TySs ss) (I : BlkQ A X cur n) (hsz : szSs ss ≤ n) (hl : s.lvl + szSs ss + 1 ≤ 4000) (L : Lie A.ns b (flS b nx (.whl p e bp ss))) (hx : x = rtS b (.whl p e bp ss)) : Calls Tryz.prog 150 #[.pointer (some ⟨A.c, 0, none⟩), .int .i64 x] w (CB w A X cur (ckS X cur b (.whl p e bp ss) s)) := by
  obtain ⟨K, hK⟩ : ∃ K, K = b + szE e + (szSs ss + 1) := ⟨_, rfl⟩
  obtain rfl : x = ((K : Nat) : Int) := by rw [hx, hK]; simp [rtS, szS]; try omega
  obtain ⟨L1, LB, hn⟩ := Lie.eb (by simpa only [flS] using L)
  obtain ⟨L2, hnb2⟩ := LB.blk
  obtain ⟨Q, hQ⟩ : ∃ Q, Q = b + szE e + szSs ss := ⟨_, rfl⟩
  rw [← hQ] at hn hnb2
  rw [← hK] at hn
  have hr := (show ckS X cur b (.whl p e bp ss) s = (wantE X b e 1 s).bind fun _ s => inB (ckSs X cur (b + szE e) ss) s by simp only [ckS])
  try rw [← hK] at hr
  have Hr : Hid (_ = _) := hr
  clear hQ LB
  obtain ⟨hk, hnb, r415, n0, n1, n2, n3, n4, n5, n6, n7, n8⟩ := H.node hn
  try simp only at n0 n1 n2 n3 n4 n5 n6 n7 n8
  obtain ⟨r0, r161, r162, r163, r164, r325, r414, r416, r417, r418, r419, hz⟩ := H.regs
  obtain ⟨hlt, hlt2, hlt3⟩ := H.blt
  have ty0 := H.tyb.cell (o := K) hk
  have tyz := H.tyb.frozen
  have rf0 := H.rfb.cell (o := K) hk
  have rfz := H.rfb.frozen
  have h200 := H.le
  have hkl : ((K : Nat) : Int) < A.ns.length := by omega
  have hK0 : ((K : Nat) : Int) ≥ 0 := by omega
  have HK : Hid _ := hK
  clear hr L hx hK
  go_enter Tryz.func150, Tryz.ntmps150
  have hW := wantC e te H L1 rfl 1
  clear H
  go_wp2_with fail
  refine hW.mono ?_
  rintro v w1 ⟨k1, h⟩
  clear hW
  cases hq : wantE X b e 1 s with
  | bad er po =>
    rw [hq] at h
    obtain ⟨rfl, h0, s', C⟩ := h
    have HQ1 : Hid (_ = _) := hq
    clear hq
    go_wp2_with fail
    go_ret
    exact CB.bad (by rw [Hr.out, HQ1.out]; rfl) (k1) h0 C
  | ok u1 s1 =>
    rw [hq] at h
    obtain ⟨rfl, C1⟩ := h
    have HQ1 : Hid (_ = _) := hq
    have hkp := wantE_eq hq
    clear hq
    clear hnb r415 n0 n1 n2 n3 n4 n5 n6 n7 r0 r161 r162 r163 r164 r325 r414 r416 r417 r418 r419 hz hlt hlt2 hlt3 ty0 tyz rf0 rfz
    obtain ⟨_, hnb, r415, n0, n1, n2, n3, n4, n5, n6, n7, n8⟩ := C1.node hn
    try simp only at n0 n1 n2 n3 n4 n5 n6 n7 n8
    obtain ⟨r0, r161, r162, r163, r164, r325, r414, r416, r417, r418, r419, hz⟩ := C1.regs
    obtain ⟨hlt, hlt2, hlt3⟩ := C1.blt
    have ty0 := C1.tyb.cell (o := K) hk
    have tyz := C1.tyb.frozen
    have rf0 := C1.rfb.cell (o := K) hk
    have rfz := C1.rfb.frozen
    have hW := I ss hsz ts w1 s1 (b + szE e) Q bp C1 (by rw [hkp.lvl]; exact hl) L2 hnb2
    clear C1 hkp
    go_wp2_with fail
    refine hW.mono ?_
    rintro v w2 ⟨k2, h⟩
    clear hW
    cases hq : inB (ckSs X cur (b + szE e) ss) s1 with
    | bad er po =>
      rw [hq] at h
      obtain ⟨rfl, h0, s', C⟩ := h
      have HQ2 : Hid (_ = _) := hq
      clear hq
      go_wp2_with fail
      go_ret
      exact CB.bad (by rw [Hr.out, HQ1.out]; exact HQ2.out) (k1.trans k2 (fun _ _ h => h)) h0 C
    | ok u2 s2 =>
      rw [hq] at h
      obtain ⟨rfl, C2⟩ := h
      have HQ2 : Hid (_ = _) := hq
      clear hq
      go_wp2_with fail
      go_ret
      exact CB.ok (by rw [Hr.out, HQ1.out]; exact HQ2.out) (k1.trans k2 (fun _ _ h => h)) C2
set_option maxRecDepth 100000 in
set_option maxHeartbeats 8000000 in
theorem st_ife (H : CM w A X cur s 0 0) {b : Nat} {nx x : Int} {p bp cp : Int} {e : Exp} {ss cs : Stms} (te : TyE e) (ts : TySs ss) (tc : TySs cs) (I : BlkQ A X cur n) (hsz : szSs ss ≤ n) (hsc : szSs cs ≤ n) (hl : s.lvl + szSs ss + 1 ≤ 4000) (hlc : s.lvl + szSs cs + 1 ≤ 4000) (L : Lie A.ns b (flS b nx (.ife p e bp ss cp cs))) (hx : x = rtS b (.ife p e bp ss cp cs)) : Calls Tryz.prog 150 #[.pointer (some ⟨A.c, 0, none⟩), .int .i64 x] w (CB w A X cur (ckS X cur b (.ife p e bp ss cp cs) s)) := by
  obtain ⟨K, hK⟩ : ∃ K, K = b + szE e + (szSs ss + 1) + (szSs cs + 1) := ⟨_, rfl⟩
  obtain rfl : x = ((K : Nat) : Int) := by rw [hx, hK]; simp [rtS, szS]; try omega
  obtain ⟨L1, LB, LC, hn⟩ := Lie.ebb (by simpa only [flS] using L)
  obtain ⟨L2, hnb2⟩ := LB.blk
  obtain ⟨L3, hnc2⟩ := LC.blk
  obtain ⟨Q, hQ⟩ : ∃ Q, Q = b + szE e + szSs ss := ⟨_, rfl⟩
  obtain ⟨R, hR⟩ : ∃ R, R = b + szE e + (szSs ss + 1) + szSs cs := ⟨_, rfl⟩
  rw [← hQ] at hnb2
  rw [← hR] at hnc2
  rw [← hQ, ← hR] at hn
  rw [← hK] at hn
  have hr := (show ckS X cur b (.ife p e bp ss cp cs) s = (wantE X b e 1 s).bind fun _ s => (inB (ckSs X cur (b + szE e) ss) s).bind fun _ s => inB (ckSs X cur (b + szE e + (szSs ss + 1)) cs) s by simp only [ckS])
  try rw [← hK] at hr
  have Hr : Hid (_ = _) := hr
  clear hQ hR LB LC
  obtain ⟨hk, hnb, r415, n0, n1, n2, n3, n4, n5, n6, n7, n8⟩ := H.node hn
  try simp only at n0 n1 n2 n3 n4 n5 n6 n7 n8
  obtain ⟨r0, r161, r162, r163, r164, r325, r414, r416, r417, r418, r419, hz⟩ := H.regs
  obtain ⟨hlt, hlt2, hlt3⟩ := H.blt
  have ty0 := H.tyb.cell (o := K) hk
  have tyz := H.tyb.frozen
  have rf0 := H.rfb.cell (o := K) hk
  have rfz := H.rfb.frozen
  have h200 := H.le
  have hkl : ((K : Nat) : Int) < A.ns.length := by omega
  have hK0 : ((K : Nat) : Int) ≥ 0 := by omega
  have HK : Hid _ := hK
  clear hr L hx hK
  go_enter Tryz.func150, Tryz.ntmps150
  have hW := wantC e te H L1 rfl 1
  clear H
  go_wp2_with fail
  refine hW.mono ?_
  rintro v w1 ⟨k1, h⟩
  clear hW
  cases hq : wantE X b e 1 s with
  | bad er po =>
    rw [hq] at h
    obtain ⟨rfl, h0, s', C⟩ := h
    have HQ1 : Hid (_ = _) := hq
    clear hq
    go_wp2_with fail
    go_ret
    exact CB.bad (by rw [Hr.out, HQ1.out]; rfl) (k1) h0 C
  | ok u1 s1 =>
    rw [hq] at h
    obtain ⟨rfl, C1⟩ := h
    have HQ1 : Hid (_ = _) := hq
    have hkp := wantE_eq hq
    clear hq
    clear hnb r415 n0 n1 n2 n3 n4 n5 n6 n7 r0 r161 r162 r163 r164 r325 r414 r416 r417 r418 r419 hz hlt hlt2 hlt3 ty0 tyz rf0 rfz
    obtain ⟨_, hnb, r415, n0, n1, n2, n3, n4, n5, n6, n7, n8⟩ := C1.node hn
    try simp only at n0 n1 n2 n3 n4 n5 n6 n7 n8
    obtain ⟨r0, r161, r162, r163, r164, r325, r414, r416, r417, r418, r419, hz⟩ := C1.regs
    obtain ⟨hlt, hlt2, hlt3⟩ := C1.blt
    have ty0 := C1.tyb.cell (o := K) hk
    have tyz := C1.tyb.frozen
    have rf0 := C1.rfb.cell (o := K) hk
    have rfz := C1.rfb.frozen
    have hW := I ss hsz ts w1 s1 (b + szE e) Q bp C1 (by rw [hkp.lvl]; exact hl) L2 hnb2
    clear C1
    go_wp2_with fail
    refine hW.mono ?_
    rintro v w2 ⟨k2, h⟩
    clear hW
    cases hq : inB (ckSs X cur (b + szE e) ss) s1 with
    | bad er po =>
      rw [hq] at h
      obtain ⟨rfl, h0, s', C⟩ := h
      have HQ2 : Hid (_ = _) := hq
      clear hq
      go_wp2_with fail
      go_ret
      exact CB.bad (by rw [Hr.out, HQ1.out]; show (inB (ckSs X cur (b + szE e) ss) s1).bind _ = _; rw [HQ2.out]; rfl) (k1.trans k2 (fun _ _ h => h)) h0 C
    | ok u2 s2 =>
      rw [hq] at h
      obtain ⟨rfl, C2⟩ := h
      have HQ2 : Hid (_ = _) := hq
      have hl2 := (inB_ext (fun s x s' h => keepSs X cur ss ts (b + szE e) s x s' h) hq).1.lvl
      have z0 : decide ((R : Int) < 0) = false := decide_eq_false (by omega)
      clear hq
      clear hnb r415 n0 n1 n2 n3 n4 n5 n6 n7 r0 r161 r162 r163 r164 r325 r414 r416 r417 r418 r419 hz hlt hlt2 hlt3 ty0 tyz rf0 rfz
      obtain ⟨_, hnb, r415, n0, n1, n2, n3, n4, n5, n6, n7, n8⟩ := C2.node hn
      try simp only at n0 n1 n2 n3 n4 n5 n6 n7 n8
      obtain ⟨r0, r161, r162, r163, r164, r325, r414, r416, r417, r418, r419, hz⟩ := C2.regs
      obtain ⟨hlt, hlt2, hlt3⟩ := C2.blt
      have ty0 := C2.tyb.cell (o := K) hk
      have tyz := C2.tyb.frozen
      have rf0 := C2.rfb.cell (o := K) hk
      have rfz := C2.rfb.frozen
      have hW := I cs hsc tc w2 s2 (b + szE e + (szSs ss + 1)) R cp C2 (by rw [hl2, hkp.lvl]; exact hlc) L3 hnc2
      clear C2 hl2 hkp
      go_wp2_with fail
      refine hW.mono ?_
      rintro v w3 ⟨k3, h⟩
      clear hW
      cases hq : inB (ckSs X cur (b + szE e + (szSs ss + 1)) cs) s2 with
      | bad er po =>
        rw [hq] at h
        obtain ⟨rfl, h0, s', C⟩ := h
        have HQ3 : Hid (_ = _) := hq
        clear hq
        go_wp2_with fail
        go_ret
        exact CB.bad (by rw [Hr.out, HQ1.out]; show (inB (ckSs X cur (b + szE e) ss) s1).bind _ = _; rw [HQ2.out]; exact HQ3.out) ((k1.trans k2 (fun _ _ h => h)).trans k3 (fun _ _ h => h)) h0 C
      | ok u3 s3 =>
        rw [hq] at h
        obtain ⟨rfl, C3⟩ := h
        have HQ3 : Hid (_ = _) := hq
        clear hq
        go_wp2_with fail
        go_ret
        exact CB.ok (by rw [Hr.out, HQ1.out]; show (inB (ckSs X cur (b + szE e) ss) s1).bind _ = _; rw [HQ2.out]; exact HQ3.out) ((k1.trans k2 (fun _ _ h => h)).trans k3 (fun _ _ h => h)) C3
/-- All statements. -/
theorem stmAll (A : Ca) (X : Cx) (cur : Nat) (hc : cur < X.fs.length) : ∀ n, StmQ A X cur n
  | 0 => fun e hn _ => by have := szS_pos e; omega
  | n + 1 => fun e hn ht w s b nx x H hl L hx => by
    have I := blkF (stmAll A X cur hc n)
    cases e with
    | vd nm p t e => simp only [TyS] at ht; exact st_vd H ht.2 ht.1 hc L hx
    | asg p a c => simp only [TyS] at ht; exact st_asg H ht.1 ht.2 L hx
    | iff p e bp ss => simp only [TyS] at ht; simp only [szS] at hn hl; exact st_iff H ht.1 ht.2 I (by omega) (by omega) L hx
    | ife p e bp ss cp cs => simp only [TyS] at ht; simp only [szS] at hn hl; exact st_ife H ht.1 ht.2.1 ht.2.2 I (by omega) (by omega) (by omega) (by omega) L hx
    | whl p e bp ss => simp only [TyS] at ht; simp only [szS] at hn hl; exact st_whl H ht.1 ht.2 I (by omega) (by omega) L hx
    | ret p e => simp only [TyS] at ht; exact st_ret H ht hc L hx
    | prt p e => simp only [TyS] at ht; exact st_prt H ht L hx
    | exp e => simp only [TyS] at ht; exact st_exp H ht L hx
theorem blkAll (hc : cur < X.fs.length) (ss : Stms) (ht : TySs ss) (H : CM w A X cur s 0 0) {b x : Nat} {p : Int} (hl : s.lvl + szSs ss + 1 ≤ 4000) (L : Lie A.ns b (flSs b ss)) (hx : A.ns[x]? = some ⟨2, hdS b ss, -1, -1, -1, 0, p, ⟨#[]⟩⟩) : Calls Tryz.prog 90 #[.pointer (some ⟨A.c, 0, none⟩), .int .i64 x] w (CB w A X cur (inB (ckSs X cur b ss) s)) := blkF (stmAll A X cur hc _) ss (Nat.le_refl _) ht w s b x p H hl L hx
end
end Go.Proofs.Qxb6500277aGreat
