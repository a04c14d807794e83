/- The model checker: statements with blocks. -/
import Derived.Test.Qxb6500277aGreatMD5
namespace Go.Proofs.Qxb6500277aGreat
open Go Go.RowKit

section
variable {w w' : World} {B : Nat} {A : Ma} {X : Cx} {cur : Nat} {s : Ck} {er po : Int} {fv vv : Value} {n : Nat}
set_option maxRecDepth 100000 in
set_option maxHeartbeats 8000000 in
theorem sm_whl (hPC : PCh X A.ns) (H : MXc w B A X cur s 0 0 fv vv) {b : Nat} {nx x : Int} {p bp : Int} {e : Exp} {ss : Stms} (hG : Good s) (te : TyE e) (ts : TySs ss) (I : BlkM B A X cur n fv) (hsz : szSs ss ≤ n) (hl : s.lvl + szSs ss + 1 ≤ 4000) (L : Lie A.ns b (flS b nx (.whl p e bp ss))) (hx : x = rtS b (.whl p e bp ss)) : Calls Tryz.prog 132 #[.pointer (some ⟨A.m, 0, none⟩), .int .i64 x] w (SMP w B A X cur s fv vv (ckS X cur b (.whl p e bp ss) s)) := by
  obtain ⟨K, hK⟩ : ∃ K, K = b + szE e + (szSs ss + 1) := ⟨_, rfl⟩
  obtain rfl : x = ((K : Nat) : Int) := by rw [hx, hK]; simp [rtS, szS]; try omega
  obtain ⟨L1, LB, hn⟩ := Lie.eb (by simpa only [flS] using L)
  obtain ⟨L2, hnb2⟩ := LB.blk
  obtain ⟨Q, hQ⟩ : ∃ Q, Q = b + szE e + szSs ss := ⟨_, rfl⟩
  rw [← hQ] at hn hnb2
  rw [← hK] at hn
  have hr := (show ckS X cur b (.whl p e bp ss) s = (wantE X b e 1 s).bind fun _ s => inB (ckSs X cur (b + szE e) ss) s by simp only [ckS])
  try rw [← hK] at hr
  have Hr : Hid (_ = _) := hr
  clear hQ LB
  obtain ⟨-, r1, r2, r3, r4, r5, r6, r7, r8, r9, r10, hz, hlt, hltt, hltr⟩ := H.regs
  obtain ⟨hk, hnb, r0, n0, n1, n2, n3, n4, n5, n6, n7⟩ := H.node hn
  try simp only at n0 n1 n2 n3 n4 n5 n6 n7
  have ty0 := H.tyb.cell (o := K) hk
  have tyz := H.tyb.frozen
  have rf0 := H.rfb.cell (o := K) hk
  have rfz := H.rfb.frozen
  have h200 := H.le
  have hkl : ((K : Nat) : Int) < A.ns.length := by omega
  have hK0 : ((K : Nat) : Int) ≥ 0 := by omega
  have BX := boxN_blk w ⟨6, rtE b e, (Q : Int), -1, nx, 0, p, ⟨#[]⟩⟩
  have FX := (Fr.refl (fun _ => False) w).alloc (boxN ⟨6, rtE b e, (Q : Int), -1, nx, 0, p, ⟨#[]⟩⟩)
  have HA := H.same FX
  have HHA : Hid (MXc (w.alloc (boxN ⟨6, rtE b e, (Q : Int), -1, nx, 0, p, ⟨#[]⟩⟩)) B A X cur s 0 0 fv vv ∧ Blk (w.alloc (boxN ⟨6, rtE b e, (Q : Int), -1, nx, 0, p, ⟨#[]⟩⟩)) w.heap.size 8 (ndCell ⟨6, rtE b e, (Q : Int), -1, nx, 0, p, ⟨#[]⟩⟩) ∧ Fr (fun _ => False) w (w.alloc (boxN ⟨6, rtE b e, (Q : Int), -1, nx, 0, p, ⟨#[]⟩⟩))) := ⟨HA, BX, FX⟩
  have Hnew : Hid (∀ d, w.heap.size ≤ d → ¬ MSc A fv vv d) := H.new
  clear BX FX HA
  have HK : Hid _ := hK
  clear hr L hx hK
  have hW := isMA hPC e te HHA.out.1 L1 rfl 1
  clear H
  go_enter Tryz.func132, Tryz.ntmps132
  go_wp2_with fail
  refine hW.mono ?_
  rintro v w1 ⟨k1, rfl, h⟩
  clear hW
  clear r1 r2 r3 r4 r5 r6 r7 r8 r9 r10 hz hlt hltt hltr hnb r0 n0 n1 n2 n3 n4 n5 n6 n7 ty0 tyz rf0 rfz
  have BX1 := HHA.out.2.1.frame (k1) (Hnew.out _ (Nat.le_refl _))
  have b0 := BX1.cell (o := 0) (by omega)
  have b1 := BX1.cell (o := 1) (by omega)
  have b2 := BX1.cell (o := 2) (by omega)
  have b3 := BX1.cell (o := 3) (by omega)
  have b4 := BX1.cell (o := 4) (by omega)
  have b5 := BX1.cell (o := 5) (by omega)
  have b6 := BX1.cell (o := 6) (by omega)
  have b7 := BX1.cell (o := 7) (by omega)
  simp only [ndCell] at b0 b1 b2 b3 b4 b5 b6 b7
  have bl := BX1.lt
  cases hq : wantE X b e 1 s with
  | bad er po =>
    rw [hq] at h
    obtain ⟨h0, s', C1, kp⟩ := h
    have HQ : Hid (_ = _) := hq
    have y1 : (er == 0) = false := by simpa using h0
    have HD : Hid _ := And.intro C1 (And.intro k1 (And.intro h0 kp))
    obtain ⟨-, d1, d2, d3, d4, d5, d6, d7, d8, d9, d10, dz, dl, dlt, dlr⟩ := C1.regs
    clear hq C1 BX1
    go_wp2_with fail
    go_end0
    exact (SMP.bad (by rw [Hr.out, HQ.out]; rfl) HD.out.2.1 HD.out.2.2.1 selfB HD.out.1 HD.out.2.2.2.ext).pre HHA.out.2.2
  | ok u s1 =>
    rw [hq] at h
    have kp := wantE_eq hq
    have HKP : Hid (Kp s s1) := kp
    have HQ : Hid (_ = _) := hq
    have G1 : Good s1 := hG.keep kp
    have hW := I ss hsz ts w1 s1 vv (b + szE e) Q bp h G1 (by rw [kp.lvl]; exact hl) L2 hnb2
    obtain ⟨-, d1, d2, d3, d4, d5, d6, d7, d8, d9, d10, dz, dl, dlt, dlr⟩ := h.regs
    clear hq h kp
    go_wp2_with fail
    refine hW.mono ?_
    rintro v w2 ⟨rfl, k2, vv2, hvb2, h⟩
    clear hW d1 d2 d3 d4 d5 d6 d7 d8 d9 d10 dz dl dlt dlr
    have k12 := k1.trans k2 (fun _ _ h => h)
    have hvb : ∀ d, isBlk vv2 d → isBlk vv d ∨ (w.alloc (boxN ⟨6, rtE b e, (Q : Int), -1, nx, 0, p, ⟨#[]⟩⟩)).heap.size ≤ d := fun d hd => (hvb2 d hd).imp id (fun h => Nat.le_trans k1.size h)
    go_wp2_with fail
    go_end0
    refine SMP.pre HHA.out.2.2 ?_
    cases hq2 : inB (ckSs X cur (b + szE e) ss) s1 with
    | bad er po =>
      rw [hq2] at h
      obtain ⟨h0, s', C2, hE⟩ := h
      exact SMP.bad (by rw [Hr.out, HQ.out]; exact hq2) k12 h0 hvb C2 (HKP.out.ext.trans hE)
    | ok u2 s2 =>
      rw [hq2] at h
      exact SMP.ok (u := ()) (by rw [Hr.out, HQ.out]; exact hq2) k12 hvb h
set_option maxRecDepth 100000 in
set_option maxHeartbeats 8000000 in
theorem sm_iff (hPC : PCh X A.ns) (H : MXc w B A X cur s 0 0 fv vv) {b : Nat} {nx x : Int} {p bp : Int} {e : Exp} {ss : Stms} (hG : Good s) (te : TyE e) (ts : TySs ss) (I : BlkM B A X cur n fv) (hsz : szSs ss ≤ n) (hl : s.lvl + szSs ss + 1 ≤ 4000) (L : Lie A.ns b (flS b nx (.iff p e bp ss))) (hx : x = rtS b (.iff p e bp ss)) : Calls Tryz.prog 132 #[.pointer (some ⟨A.m, 0, none⟩), .int .i64 x] w (SMP w B A X cur s fv vv (ckS X cur b (.iff p e bp ss) s)) := by
  obtain ⟨K, hK⟩ : ∃ K, K = b + szE e + (szSs ss + 1) := ⟨_, rfl⟩
  obtain rfl : x = ((K : Nat) : Int) := by rw [hx, hK]; simp [rtS, szS]; try omega
  obtain ⟨L1, LB, hn⟩ := Lie.eb (by simpa only [flS] using L)
  obtain ⟨L2, hnb2⟩ := LB.blk
  obtain ⟨Q, hQ⟩ : ∃ Q, Q = b + szE e + szSs ss := ⟨_, rfl⟩
  rw [← hQ] at hn hnb2
  rw [← hK] at hn
  have hr := (show ckS X cur b (.iff p e bp ss) s = (wantE X b e 1 s).bind fun _ s => inB (ckSs X cur (b + szE e) ss) s by simp only [ckS])
  try rw [← hK] at hr
  have Hr : Hid (_ = _) := hr
  clear hQ LB
  obtain ⟨-, r1, r2, r3, r4, r5, r6, r7, r8, r9, r10, hz, hlt, hltt, hltr⟩ := H.regs
  obtain ⟨hk, hnb, r0, n0, n1, n2, n3, n4, n5, n6, n7⟩ := H.node hn
  try simp only at n0 n1 n2 n3 n4 n5 n6 n7
  have ty0 := H.tyb.cell (o := K) hk
  have tyz := H.tyb.frozen
  have rf0 := H.rfb.cell (o := K) hk
  have rfz := H.rfb.frozen
  have h200 := H.le
  have hkl : ((K : Nat) : Int) < A.ns.length := by omega
  have hK0 : ((K : Nat) : Int) ≥ 0 := by omega
  have BX := boxN_blk w ⟨5, rtE b e, (Q : Int), -1, nx, 0, p, ⟨#[]⟩⟩
  have FX := (Fr.refl (fun _ => False) w).alloc (boxN ⟨5, rtE b e, (Q : Int), -1, nx, 0, p, ⟨#[]⟩⟩)
  have HA := H.same FX
  have HHA : Hid (MXc (w.alloc (boxN ⟨5, rtE b e, (Q : Int), -1, nx, 0, p, ⟨#[]⟩⟩)) B A X cur s 0 0 fv vv ∧ Blk (w.alloc (boxN ⟨5, rtE b e, (Q : Int), -1, nx, 0, p, ⟨#[]⟩⟩)) w.heap.size 8 (ndCell ⟨5, rtE b e, (Q : Int), -1, nx, 0, p, ⟨#[]⟩⟩) ∧ Fr (fun _ => False) w (w.alloc (boxN ⟨5, rtE b e, (Q : Int), -1, nx, 0, p, ⟨#[]⟩⟩))) := ⟨HA, BX, FX⟩
  have Hnew : Hid (∀ d, w.heap.size ≤ d → ¬ MSc A fv vv d) := H.new
  clear BX FX HA
  have HK : Hid _ := hK
  clear hr L hx hK
  have hW := isMA hPC e te HHA.out.1 L1 rfl 1
  clear H
  go_enter Tryz.func132, Tryz.ntmps132
  go_wp2_with fail
  refine hW.mono ?_
  rintro v w1 ⟨k1, rfl, h⟩
  clear hW
  clear r1 r2 r3 r4 r5 r6 r7 r8 r9 r10 hz hlt hltt hltr hnb r0 n0 n1 n2 n3 n4 n5 n6 n7 ty0 tyz rf0 rfz
  have BX1 := HHA.out.2.1.frame (k1) (Hnew.out _ (Nat.le_refl _))
  have b0 := BX1.cell (o := 0) (by omega)
  have b1 := BX1.cell (o := 1) (by omega)
  have b2 := BX1.cell (o := 2) (by omega)
  have b3 := BX1.cell (o := 3) (by omega)
  have b4 := BX1.cell (o := 4) (by omega)
  have b5 := BX1.cell (o := 5) (by omega)
  have b6 := BX1.cell (o := 6) (by omega)
  have b7 := BX1.cell (o := 7) (by omega)
  simp only [ndCell] at b0 b1 b2 b3 b4 b5 b6 b7
  have bl := BX1.lt
  cases hq : wantE X b e 1 s with
  | bad er po =>
    rw [hq] at h
    obtain ⟨h0, s', C1, kp⟩ := h
    have HQ : Hid (_ = _) := hq
    have y1 : (er == 0) = false := by simpa using h0
    have HD : Hid _ := And.intro C1 (And.intro k1 (And.intro h0 kp))
    obtain ⟨-, d1, d2, d3, d4, d5, d6, d7, d8, d9, d10, dz, dl, dlt, dlr⟩ := C1.regs
    clear hq C1 BX1
    go_wp2_with fail
    go_end0
    exact (SMP.bad (by rw [Hr.out, HQ.out]; rfl) HD.out.2.1 HD.out.2.2.1 selfB HD.out.1 HD.out.2.2.2.ext).pre HHA.out.2.2
  | ok u s1 =>
    rw [hq] at h
    have kp := wantE_eq hq
    have HKP : Hid (Kp s s1) := kp
    have HQ : Hid (_ = _) := hq
    have G1 : Good s1 := hG.keep kp
    have hW := I ss hsz ts w1 s1 vv (b + szE e) Q bp h G1 (by rw [kp.lvl]; exact hl) L2 hnb2
    obtain ⟨-, d1, d2, d3, d4, d5, d6, d7, d8, d9, d10, dz, dl, dlt, dlr⟩ := h.regs
    clear hq h kp
    go_wp2_with fail
    refine hW.mono ?_
    rintro v w2 ⟨rfl, k2, vv2, hvb2, h⟩
    clear hW d1 d2 d3 d4 d5 d6 d7 d8 d9 d10 dz dl dlt dlr
    have k12 := k1.trans k2 (fun _ _ h => h)
    have hvb : ∀ d, isBlk vv2 d → isBlk vv d ∨ (w.alloc (boxN ⟨5, rtE b e, (Q : Int), -1, nx, 0, p, ⟨#[]⟩⟩)).heap.size ≤ d := fun d hd => (hvb2 d hd).imp id (fun h => Nat.le_trans k1.size h)
    clear b0 b1 b2 b3 b4 b5 b6 b7 bl BX1
    have BX1 := HHA.out.2.1.frame (k12) (Hnew.out _ (Nat.le_refl _))
    have b0 := BX1.cell (o := 0) (by omega)
    have b1 := BX1.cell (o := 1) (by omega)
    have b2 := BX1.cell (o := 2) (by omega)
    have b3 := BX1.cell (o := 3) (by omega)
    have b4 := BX1.cell (o := 4) (by omega)
    have b5 := BX1.cell (o := 5) (by omega)
    have b6 := BX1.cell (o := 6) (by omega)
    have b7 := BX1.cell (o := 7) (by omega)
    simp only [ndCell] at b0 b1 b2 b3 b4 b5 b6 b7
    have bl := BX1.lt
    cases hq2 : inB (ckSs X cur (b + szE e) ss) s1 with
    | bad er po =>
      rw [hq2] at h
      obtain ⟨h0, s', C2, hE⟩ := h
      have HQ2 : Hid (_ = _) := hq2
      have y1 : (er == 0) = false := by simpa using h0
      have HD : Hid _ := And.intro C2 (And.intro k12 (And.intro h0 (And.intro hE hvb)))
      obtain ⟨-, d1, d2, d3, d4, d5, d6, d7, d8, d9, d10, dz, dl, dlt, dlr⟩ := C2.regs
      clear hq2 C2 BX1
      go_wp2_with fail
      go_end0
      exact (SMP.bad (by rw [Hr.out, HQ.out]; exact HQ2.out) HD.out.2.1 HD.out.2.2.1 HD.out.2.2.2.2 HD.out.1 (HKP.out.ext.trans HD.out.2.2.2.1)).pre HHA.out.2.2
    | ok u2 s2 =>
      rw [hq2] at h
      have HQ2 : Hid (_ = _) := hq2
      have HD : Hid _ := And.intro h (And.intro k12 hvb)
      obtain ⟨-, d1, d2, d3, d4, d5, d6, d7, d8, d9, d10, dz, dl, dlt, dlr⟩ := h.regs
      clear hq2 h BX1
      go_wp2_with fail
      go_end0
      exact (SMP.ok (u := ()) (by rw [Hr.out, HQ.out]; exact HQ2.out) HD.out.2.1 HD.out.2.2 HD.out.1).pre HHA.out.2.2
set_option maxRecDepth 100000 in
set_option maxHeartbeats 8000000 in
theorem sm_ife (hPC : PCh X A.ns) (H : MXc w B A X cur s 0 0 fv vv) {b : Nat} {nx x : Int} {p bp cp : Int} {e : Exp} {ss cs : Stms} (hG : Good s) (te : TyE e) (ts : TySs ss) (tc : TySs cs) (I : BlkM B A X cur n fv) (hsz : szSs ss ≤ n) (hsc : szSs cs ≤ n) (hl : s.lvl + szSs ss + 1 ≤ 4000) (hlc : s.lvl + szSs cs + 1 ≤ 4000) (L : Lie A.ns b (flS b nx (.ife p e bp ss cp cs))) (hx : x = rtS b (.ife p e bp ss cp cs)) : Calls Tryz.prog 132 #[.pointer (some ⟨A.m, 0, none⟩), .int .i64 x] w (SMP w B A X cur s fv vv (ckS X cur b (.ife p e bp ss cp cs) s)) := by
  obtain ⟨K, hK⟩ : ∃ K, K = b + szE e + (szSs ss + 1) + (szSs cs + 1) := ⟨_, rfl⟩
  obtain rfl : x = ((K : Nat) : Int) := by rw [hx, hK]; simp [rtS, szS]; try omega
  obtain ⟨L1, LB, LC, hn⟩ := Lie.ebb (by simpa only [flS] using L)
  obtain ⟨L2, hnb2⟩ := LB.blk
  obtain ⟨L3, hnc2⟩ := LC.blk
  obtain ⟨Q, hQ⟩ : ∃ Q, Q = b + szE e + szSs ss := ⟨_, rfl⟩
  obtain ⟨R, hR⟩ : ∃ R, R = b + szE e + (szSs ss + 1) + szSs cs := ⟨_, rfl⟩
  rw [← hQ] at hnb2
  rw [← hR] at hnc2
  rw [← hQ, ← hR] at hn
  rw [← hK] at hn
  have hr := (show ckS X cur b (.ife p e bp ss cp cs) s = (wantE X b e 1 s).bind fun _ s => (inB (ckSs X cur (b + szE e) ss) s).bind fun _ s => inB (ckSs X cur (b + szE e + (szSs ss + 1)) cs) s by simp only [ckS])
  try rw [← hK] at hr
  have Hr : Hid (_ = _) := hr
  clear hQ hR LB LC
  obtain ⟨-, r1, r2, r3, r4, r5, r6, r7, r8, r9, r10, hz, hlt, hltt, hltr⟩ := H.regs
  obtain ⟨hk, hnb, r0, n0, n1, n2, n3, n4, n5, n6, n7⟩ := H.node hn
  try simp only at n0 n1 n2 n3 n4 n5 n6 n7
  have ty0 := H.tyb.cell (o := K) hk
  have tyz := H.tyb.frozen
  have rf0 := H.rfb.cell (o := K) hk
  have rfz := H.rfb.frozen
  have h200 := H.le
  have hkl : ((K : Nat) : Int) < A.ns.length := by omega
  have hK0 : ((K : Nat) : Int) ≥ 0 := by omega
  have BX := boxN_blk w ⟨5, rtE b e, (Q : Int), (R : Int), nx, 0, p, ⟨#[]⟩⟩
  have FX := (Fr.refl (fun _ => False) w).alloc (boxN ⟨5, rtE b e, (Q : Int), (R : Int), nx, 0, p, ⟨#[]⟩⟩)
  have HA := H.same FX
  have HHA : Hid (MXc (w.alloc (boxN ⟨5, rtE b e, (Q : Int), (R : Int), nx, 0, p, ⟨#[]⟩⟩)) B A X cur s 0 0 fv vv ∧ Blk (w.alloc (boxN ⟨5, rtE b e, (Q : Int), (R : Int), nx, 0, p, ⟨#[]⟩⟩)) w.heap.size 8 (ndCell ⟨5, rtE b e, (Q : Int), (R : Int), nx, 0, p, ⟨#[]⟩⟩) ∧ Fr (fun _ => False) w (w.alloc (boxN ⟨5, rtE b e, (Q : Int), (R : Int), nx, 0, p, ⟨#[]⟩⟩))) := ⟨HA, BX, FX⟩
  have Hnew : Hid (∀ d, w.heap.size ≤ d → ¬ MSc A fv vv d) := H.new
  clear BX FX HA
  have HK : Hid _ := hK
  clear hr L hx hK
  have hW := isMA hPC e te HHA.out.1 L1 rfl 1
  clear H
  go_enter Tryz.func132, Tryz.ntmps132
  go_wp2_with fail
  refine hW.mono ?_
  rintro v w1 ⟨k1, rfl, h⟩
  clear hW
  clear r1 r2 r3 r4 r5 r6 r7 r8 r9 r10 hz hlt hltt hltr hnb r0 n0 n1 n2 n3 n4 n5 n6 n7 ty0 tyz rf0 rfz
  have BX1 := HHA.out.2.1.frame (k1) (Hnew.out _ (Nat.le_refl _))
  have b0 := BX1.cell (o := 0) (by omega)
  have b1 := BX1.cell (o := 1) (by omega)
  have b2 := BX1.cell (o := 2) (by omega)
  have b3 := BX1.cell (o := 3) (by omega)
  have b4 := BX1.cell (o := 4) (by omega)
  have b5 := BX1.cell (o := 5) (by omega)
  have b6 := BX1.cell (o := 6) (by omega)
  have b7 := BX1.cell (o := 7) (by omega)
  simp only [ndCell] at b0 b1 b2 b3 b4 b5 b6 b7
  have bl := BX1.lt
  cases hq : wantE X b e 1 s with
  | bad er po =>
    rw [hq] at h
    obtain ⟨h0, s', C1, kp⟩ := h
    have HQ : Hid (_ = _) := hq
    have y1 : (er == 0) = false := by simpa using h0
    have HD : Hid _ := And.intro C1 (And.intro k1 (And.intro h0 kp))
    obtain ⟨-, d1, d2, d3, d4, d5, d6, d7, d8, d9, d10, dz, dl, dlt, dlr⟩ := C1.regs
    clear hq C1 BX1
    go_wp2_with fail
    go_end0
    exact (SMP.bad (by rw [Hr.out, HQ.out]; rfl) HD.out.2.1 HD.out.2.2.1 selfB HD.out.1 HD.out.2.2.2.ext).pre HHA.out.2.2
  | ok u s1 =>
    rw [hq] at h
    have kp := wantE_eq hq
    have HKP : Hid (Kp s s1) := kp
    have HQ : Hid (_ = _) := hq
    have G1 : Good s1 := hG.keep kp
    have hW := I ss hsz ts w1 s1 vv (b + szE e) Q bp h G1 (by rw [kp.lvl]; exact hl) L2 hnb2
    obtain ⟨-, d1, d2, d3, d4, d5, d6, d7, d8, d9, d10, dz, dl, dlt, dlr⟩ := h.regs
    clear hq h kp
    go_wp2_with fail
    refine hW.mono ?_
    rintro v w2 ⟨rfl, k2, vv2, hvb2, h⟩
    clear hW d1 d2 d3 d4 d5 d6 d7 d8 d9 d10 dz dl dlt dlr
    have k12 := k1.trans k2 (fun _ _ h => h)
    have hvb : ∀ d, isBlk vv2 d → isBlk vv d ∨ (w.alloc (boxN ⟨5, rtE b e, (Q : Int), (R : Int), nx, 0, p, ⟨#[]⟩⟩)).heap.size ≤ d := fun d hd => (hvb2 d hd).imp id (fun h => Nat.le_trans k1.size h)
    clear b0 b1 b2 b3 b4 b5 b6 b7 bl BX1
    have BX1 := HHA.out.2.1.frame (k12) (Hnew.out _ (Nat.le_refl _))
    have b0 := BX1.cell (o := 0) (by omega)
    have b1 := BX1.cell (o := 1) (by omega)
    have b2 := BX1.cell (o := 2) (by omega)
    have b3 := BX1.cell (o := 3) (by omega)
    have b4 := BX1.cell (o := 4) (by omega)
    have b5 := BX1.cell (o := 5) (by omega)
    have b6 := BX1.cell (o := 6) (by omega)
    have b7 := BX1.cell (o := 7) (by omega)
    simp only [ndCell] at b0 b1 b2 b3 b4 b5 b6 b7
    have bl := BX1.lt
    cases hq2 : inB (ckSs X cur (b + szE e) ss) s1 with
    | bad er po =>
      rw [hq2] at h
      obtain ⟨h0, s', C2, hE⟩ := h
      have HQ2 : Hid (_ = _) := hq2
      have y1 : (er == 0) = false := by simpa using h0
      have HD : Hid _ := And.intro C2 (And.intro k12 (And.intro h0 (And.intro hE hvb)))
      obtain ⟨-, d1, d2, d3, d4, d5, d6, d7, d8, d9, d10, dz, dl, dlt, dlr⟩ := C2.regs
      clear hq2 C2 BX1
      go_wp2_with fail
      go_end0
      exact (SMP.bad (by rw [Hr.out, HQ.out, Rc.bind_ok, HQ2.out]; rfl) HD.out.2.1 HD.out.2.2.1 HD.out.2.2.2.2 HD.out.1 (HKP.out.ext.trans HD.out.2.2.2.1)).pre HHA.out.2.2
    | ok u2 s2 =>
      rw [hq2] at h
      have hie := inB_ext (fun s x s' h => keepSs X cur ss ts (b + szE e) s x s' h) hq2
      have HQ2 : Hid (_ = _) := hq2
      have z0 : decide ((R : Int) ≥ 0) = true := decide_eq_true (by omega)
      have hW := I cs hsc tc w2 s2 vv2 (b + szE e + (szSs ss + 1)) R cp h (hie.2 G1) (by rw [hie.1.lvl, HKP.out.lvl]; exact hlc) L3 hnc2
      have HEX : Hid (Ext s s2) := HKP.out.ext.trans hie.1
      obtain ⟨-, d1, d2, d3, d4, d5, d6, d7, d8, d9, d10, dz, dl, dlt, dlr⟩ := h.regs
      have HKV : Hid (_ ∧ _) := ⟨k12, hvb⟩
      clear hq2 h BX1 hie k12 hvb
      go_wp2_with fail
      refine hW.mono ?_
      rintro v w3 ⟨rfl, k3, vv3, hvb3, h⟩
      clear hW
      go_wp2_with fail
      go_end0
      refine SMP.pre HHA.out.2.2 ?_
      have hvv : ∀ d, isBlk vv3 d → isBlk vv d ∨ (w.alloc (boxN ⟨5, rtE b e, (Q : Int), (R : Int), nx, 0, p, ⟨#[]⟩⟩)).heap.size ≤ d := fun d hd => by
        rcases hvb3 d hd with h | h
        · exact HKV.out.2 d h
        · exact .inr (Nat.le_trans HKV.out.1.size h)
      have kk := HKV.out.1.trans k3 (fun i hi hh => MSc.back HKV.out.2 i hi hh)
      cases hq3 : inB (ckSs X cur (b + szE e + (szSs ss + 1)) cs) s2 with
      | bad er po =>
        rw [hq3] at h
        obtain ⟨h0, s', C3, hE⟩ := h
        exact SMP.bad (by rw [Hr.out, HQ.out, Rc.bind_ok, HQ2.out]; exact hq3) kk h0 hvv C3 (HEX.out.trans hE)
      | ok u3 s3 =>
        rw [hq3] at h
        exact SMP.ok (u := ()) (by rw [Hr.out, HQ.out, Rc.bind_ok, HQ2.out]; exact hq3) kk hvv h
theorem stmMA (B : Nat) (A : Ma) (X : Cx) (cur : Nat) (fv : Value) (hPC : PCh X A.ns) (hc : cur < X.fs.length) : ∀ n, StmM B A X cur n fv
  | 0 => fun e hn _ => by have := szS_pos e; omega
  | n + 1 => fun e hn ht w s vv b nx x H hG hl L hx => by
    have I := blkM (stmMA B A X cur fv hPC hc n)
    cases e with
    | vd nm p t e => simp only [TyS] at ht; exact sm_vd hPC H hG ht.2 ht.1 hc L hx
    | asg p a c => simp only [TyS] at ht; exact sm_asg hPC H ht.1 ht.2 L hx
    | iff p e bp ss => simp only [TyS] at ht; simp only [szS] at hn hl; exact sm_iff hPC H hG ht.1 ht.2 I (by omega) (by omega) L hx
    | ife p e bp ss cp cs => simp only [TyS] at ht; simp only [szS] at hn hl; exact sm_ife hPC H hG ht.1 ht.2.1 ht.2.2 I (by omega) (by omega) (by omega) (by omega) L hx
    | whl p e bp ss => simp only [TyS] at ht; simp only [szS] at hn hl; exact sm_whl hPC H hG ht.1 ht.2 I (by omega) (by omega) L hx
    | ret p e => simp only [TyS] at ht; exact sm_ret hPC H ht hc L hx
    | prt p e => simp only [TyS] at ht; exact sm_prt hPC H ht L hx
    | exp e => simp only [TyS] at ht; exact sm_exp hPC H ht L hx
theorem blkMA (hPC : PCh X A.ns) (hc : cur < X.fs.length) (ss : Stms) (ht : TySs ss) (H : MXc w B A X cur s 0 0 fv vv) (hG : Good s) {b x : Nat} {p : Int} (hl : s.lvl + szSs ss + 1 ≤ 4000) (L : Lie A.ns b (flSs b ss)) (hx : A.ns[x]? = some ⟨2, hdS b ss, -1, -1, -1, 0, p, ⟨#[]⟩⟩) : Calls Tryz.prog 78 #[.pointer (some ⟨A.m, 0, none⟩), .int .i64 x] w (SMP w B A X cur s fv vv (inB (ckSs X cur b ss) s)) := blkM (stmMA B A X cur fv hPC hc _) ss (Nat.le_refl _) ht w s vv b x p H hG hl L hx
end
end Go.Proofs.Qxb6500277aGreat
