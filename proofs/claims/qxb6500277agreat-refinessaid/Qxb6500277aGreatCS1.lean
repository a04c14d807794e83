/- The real checker: statements. -/
import Derived.Test.Qxb6500277aGreatCX5
namespace Go.Proofs.Qxb6500277aGreat
open Go Go.RowKit

section
variable {w w' : World} {A : Ca} {X : Cx} {cur : Nat} {s : Ck} {er po : Int} {n : Nat}
theorem CB.bad {r : Rc Unit} {e p : Int} (hr : r = .bad e p) (k : Fr (CS A) w w') (h0 : e ≠ 0) {s' : Ck} (C : CM w' A X cur s' e p) : CB w A X cur r (.returned (.bool false)) w' := ⟨k, by rw [hr]; exact ⟨rfl, h0, s', C⟩⟩
theorem CB.ok {r : Rc Unit} {u : Unit} {s' : Ck} (hr : r = .ok u s') (k : Fr (CS A) w w') (C : CM w' A X cur s' 0 0) : CB w A X cur r (.returned (.bool true)) w' := ⟨k, by rw [hr]; exact ⟨rfl, C⟩⟩
theorem rtS_nat (b : Nat) (e : Stm) : rtS b e = ((b + szS e - 1 : Nat) : Int) := by have := szS_pos e; unfold rtS; omega
/-- stmt over all statements of at most n nodes. -/
def StmQ (A : Ca) (X : Cx) (cur n : Nat) : Prop := ∀ (e : Stm), szS e ≤ n → TyS e → ∀ (w : World) (s : Ck) (b : Nat) (nx x : Int), CM w A X cur s 0 0 → s.lvl + szS e ≤ 4000 → Lie A.ns b (flS b nx e) → x = rtS b e → Calls Tryz.prog 150 #[.pointer (some ⟨A.c, 0, none⟩), .int .i64 x] w (CB w A X cur (ckS X cur b e s))
/-- A block whose statements have at most n nodes. -/
def BlkQ (A : Ca) (X : Cx) (cur n : Nat) : Prop := ∀ (ss : Stms), szSs ss ≤ n → TySs ss → ∀ (w : World) (s : Ck) (b x : Nat) (p : Int), CM w A X cur s 0 0 → s.lvl + szSs ss + 1 ≤ 4000 → Lie A.ns b (flSs b ss) → A.ns[x]? = some ⟨2, hdS b ss, -1, -1, -1, 0, p, ⟨#[]⟩⟩ → Calls Tryz.prog 90 #[.pointer (some ⟨A.c, 0, none⟩), .int .i64 x] w (CB w A X cur (inB (ckSs X cur b ss) s))
theorem openC2 (H : CM w A X cur s 0 0) (hl : s.lvl + 1 ≤ 4000) : CM (w.setCell ⟨A.c, 164, none⟩ (.int .i64 ((s.lvl : Int) + 1))) A X cur (openB s) 0 0 ∧ Fr (CS A) w (w.setCell ⟨A.c, 164, none⟩ (.int .i64 ((s.lvl : Int) + 1))) := by
  obtain ⟨f, b1, b2, b3, b4, b5⟩ := H.blk
  have F := (Fr.refl (fun b => b = A.c) w).setC A.c 164 (.int .i64 ((s.lvl : Int) + 1)) (fun _ => rfl)
  have far : ∀ k, k ≠ 164 → upd f 164 (.int .i64 ((s.lvl : Int) + 1)) k = f k := fun k h => upd_other _ _ _ _ h
  refine ⟨CM.turn H F (b1.set 164 _) (b2.turn H.xok.le (fun i hi => (H.xok.p4 i hi).1) (far 0 (by omega)) (b2.tv.congr fun k _ h => far k (by omega)) ?_ ?_ ?_ ?_ ?_ ?_ (fun i hi => ?_) (fun k h1 h2 _ => far k (by omega))) (fun hn => ?_) ?_ ?_ rfl rfl H.good.openB H.nms H.xok H.lim hl H.lm, F.mono (fun _ _ h => .inl h)⟩
  · rw [far 162 (by omega)]; exact b2.ni
  · rw [far 163 (by omega)]; exact b2.nr
  · rw [upd_same]; simp [openB]
  · rw [far 414 (by omega)]; exact b2.cu
  · rw [far 418 (by omega)]; exact b2.er
  · rw [far 419 (by omega)]; exact b2.po
  · obtain ⟨_, _, _, _, c4, c5, _⟩ := b2.fn i hi
    exact ⟨by rw [far _ (by omega)]; exact c4, by rw [far _ (by omega)]; exact c5⟩
  · rw [far 415 (by omega)]; exact b3 hn
  · rw [far 416 (by omega)]; exact b4
  · rw [far 417 (by omega)]; exact b5
/-- The level goes back. -/
theorem shutC {s0 : Ck} (H : CM w A X cur s 0 0) (hv : s.vs = s0.vs) (hl : s.lvl = s0.lvl + 1) (g0 : Good s0) : CM (w.setCell ⟨A.c, 164, none⟩ (.int .i64 (s0.lvl : Nat))) A X cur (shut s0 s) 0 0 ∧ Fr (CS A) w (w.setCell ⟨A.c, 164, none⟩ (.int .i64 (s0.lvl : Nat))) := by
  obtain ⟨f, b1, b2, b3, b4, b5⟩ := H.blk
  have F := (Fr.refl (fun b => b = A.c) w).setC A.c 164 (.int .i64 (s0.lvl : Nat)) (fun _ => rfl)
  have far : ∀ k, k ≠ 164 → upd f 164 (.int .i64 (s0.lvl : Nat)) k = f k := fun k h => upd_other _ _ _ _ h
  have en : s.ni = s0.ni ∧ s.nr = s0.nr := ⟨by rw [H.good.ni, g0.ni, hv], by rw [H.good.nr, g0.nr, hv]⟩
  have hlv := H.lvl
  refine ⟨CM.turn H F (b1.set 164 _) (b2.turn H.xok.le (fun i hi => (H.xok.p4 i hi).1) (far 0 (by omega)) ?_ ?_ ?_ ?_ ?_ ?_ ?_ (fun i hi => ?_) (fun k h1 h2 _ => far k (by omega))) (fun hn => ?_) ?_ ?_ rfl rfl g0.shut ?_ H.xok H.lim (by show s0.lvl ≤ 4000; omega) H.lm, F.mono (fun _ _ h => .inl h)⟩
  · show Tab _ 1 s0.vs
    rw [← hv]; exact b2.tv.congr fun k _ h => far k (by omega)
  · rw [far 162 (by omega), b2.ni, en.1]; rfl
  · rw [far 163 (by omega), b2.nr, en.2]; rfl
  · rw [upd_same]; rfl
  · rw [far 414 (by omega)]; exact b2.cu
  · rw [far 418 (by omega)]; exact b2.er
  · rw [far 419 (by omega)]; exact b2.po
  · obtain ⟨_, _, _, _, c4, c5, _⟩ := b2.fn i hi
    exact ⟨by rw [far _ (by omega)]; exact c4, by rw [far _ (by omega)]; exact c5⟩
  · rw [far 415 (by omega)]; exact b3 hn
  · rw [far 416 (by omega)]; exact b4
  · rw [far 417 (by omega)]; exact b5
  · show ∀ i, i < s0.vs.length → (vAt s0.vs i).name.size ≤ 8
    rw [← hv]; exact H.nms
set_option maxRecDepth 100000 in
set_option maxHeartbeats 8000000 in
theorem blkF (I : StmQ A X cur n) : BlkQ A X cur n := by
  intro ss hn ht w s b x p H hl L hx
  obtain ⟨hk, hnb, r415, n0, n1, n2, n3, n4, n5, n6, n7, n8⟩ := H.node hx
  try simp only at n0 n1 n2 n3 n4 n5 n6 n7 n8
  obtain ⟨r0, r161, r162, r163, r164, r325, r414, r416, r417, r418, r419, hz⟩ := H.regs
  obtain ⟨hlt, hlt2, hlt3⟩ := H.blt
  have ty0 := H.tyb.cell (o := x) hk
  have tyz := H.tyb.frozen
  have rf0 := H.rfb.cell (o := x) hk
  have rfz := H.rfb.frozen
  have h200 := H.le
  have hkl : ((x : Nat) : Int) < A.ns.length := by omega
  have hK0 : ((x : Nat) : Int) ≥ 0 := by omega
  obtain ⟨O, FO⟩ := openC2 H (by omega)
  have HO : Hid (_ ∧ _) := ⟨O, FO⟩
  have G0 := H.good
  have Hg : Hid _ := G0
  have hl1 : (s.lvl : Int) < 4000 := by omega
  obtain ⟨d1, d2, d3, d4, d5, d6⟩ := H.dis
  have Hin : Hid (inB (ckSs X cur b ss) s = (ckSs X cur b ss (openB s)).bind fun _ s' => .ok () (shut s s')) := rfl
  have Hkp := keepSs X cur ss ht b (openB s)
  have HKp : Hid _ := Hkp
  clear O FO H G0 Hkp
  go_enter Tryz.func90, Tryz.ntmps90
  go_wp2_with fail
  generalize hw0 : w.setCell _ _ = w0
  have C0 : CM w0 A X cur (openB s) 0 0 := by rw [← hw0]; exact HO.out.1
  have F0 : Fr (CS A) w w0 := by rw [← hw0]; exact HO.out.2
  have HC0 : Hid (_ ∧ _) := ⟨C0, F0⟩
  clear HO hw0 C0 F0 hnb r415 n0 n1 n2 n3 n4 n5 n6 n7 r0 r161 r162 r163 r164 r325 r414 r416 r417 r418 r419 hz hlt hlt2 hlt3 ty0 tyz rf0 rfz
  go_loopg [6] (szSs ss) (fun g av wr => ∃ (b' : Nat) (es : Stms) (s1 : Ck), av = .int .i64 (hdS b' es) ∧ Lie A.ns b' (flSs b' es) ∧ TySs es ∧ szSs es ≤ g ∧ szSs es ≤ n ∧ s1.lvl = s.lvl + 1 ∧ s1.lvl + szSs es ≤ 4000 ∧ CM wr A X cur s1 0 0 ∧ Fr (CS A) w wr ∧ ckSs X cur b ss (openB s) = ckSs X cur b' es s1)
  case atStart => exact ⟨b, ss, openB s, rfl, L, ht, Nat.le_refl _, hn, rfl, by show s.lvl + 1 + szSs ss ≤ 4000; omega, HC0.out.1, HC0.out.2, rfl⟩
  case round =>
    clear HC0
    obtain ⟨b', es, s1, rfl, L, te, hg, hsn, hlv, hl4, C, F, hE⟩ := hrel
    cases es with
    | nil =>
      simp only [ckSs] at hE
      rw [show hdS b' .nil = -1 from rfl]
      have z0 : decide ((-1 : Int) ≥ 0) = false := by decide
      have hU := undoC C s.vs.length
      have hX := (HKp.out () s1 hE).1
      have HE : Hid (_ = _) := hE
      have HX : Hid _ := hX
      have Hlv : Hid _ := hlv
      have HF : Hid _ := F
      have r161 := 0
      clear C L te hg hsn hlv hl4 hE hX F r161
      go_wp2_with fail
      refine hU.mono ?_
      rintro v w2 ⟨rfl, ⟨s2, C2, e1, e2, e3, e4, e5⟩, F2⟩
      have ev : s2.vs = s.vs := by rw [e1]; exact HX.out.take
      have el : s2.lvl = s.lvl + 1 := e2.trans Hlv.out
      obtain ⟨S1, S2⟩ := shutC C2 ev el Hg.out
      have esh : shut s s2 = shut s s1 := by unfold shut; rw [e3, e4, e5]
      obtain ⟨r0, r161, r162, r163, r164, r325, r414, r416, r417, r418, r419, hz⟩ := C2.regs
      have hlt := C2.blt.1
      rw [el] at r164
      rw [esh] at S1
      have e9 : ((s.lvl + 1 : Nat) : Int) - 1 = (s.lvl : Nat) := by omega
      have HS : Hid (_ ∧ _) := ⟨S1, S2⟩
      have HF2 : Hid _ := HF.out.trans F2 (fun _ _ h => h)
      clear C2 S1 S2 e1 e2 e3 e4 e5 ev el esh F2
      go_wp2_with fail
      go_ret
      exact CB.ok (by rw [Hin.out, HE.out]; rfl) (HF2.out.trans HS.out.2 (fun _ _ h => h)) HS.out.1
    | cons e es =>
      obtain ⟨La, Lb⟩ := L.stms
      simp only [TySs] at te
      simp only [szSs] at hg hsn hl4
      have hp := szS_pos e
      obtain ⟨nd, hn1, hn2⟩ := La.rootS
      obtain ⟨J, hJ⟩ : ∃ J, J = b' + szS e - 1 := ⟨_, rfl⟩
      have hX := I e (by omega) te.1 wr s1 b' (hdS (b' + szS e) es) (rtS b' e) C (by omega) La rfl
      rw [show hdS b' (.cons e es) = rtS b' e from rfl]
      rw [rtS_nat, ← hJ] at hX ⊢
      rw [← hJ] at hn1
      obtain ⟨hJl, _⟩ := C.node hn1
      have z0 : decide ((J : Int) ≥ 0) = true := decide_eq_true (by omega)
      have hks := keepS X cur e te.1 b' s1
      have hE2 : ckSs X cur b ss (openB s) = (ckS X cur b' e s1).bind fun _ s => ckSs X cur (b' + szS e) es s := by rw [hE]; simp only [ckSs]
      have HE : Hid (_ = _) := hE2
      clear C hJ hE hE2
      go_wp2_with fail
      refine hX.mono ?_
      rintro v w1 ⟨k1, h⟩
      clear hX
      cases hq : ckS X cur b' e s1 with
      | bad er po =>
        rw [hq] at h
        obtain ⟨rfl, h0, s', C⟩ := h
        have HQ : Hid (_ = _) := hq
        have HF : Hid _ := F
        clear hq F hks
        go_wp2_with fail
        go_ret
        exact CB.bad (by rw [Hin.out, HE.out, HQ.out]; rfl) (HF.out.trans k1 (fun _ _ h => h)) h0 C
      | ok u s2 =>
        rw [hq] at h
        obtain ⟨rfl, C1⟩ := h
        have hl2 := (hks u s2 hq).1.lvl
        obtain ⟨_, g1, g2, g3, g4, g5, g6, g7, g8, g9, g10, _⟩ := C1.node hn1
        rw [hn2] at g7
        have h200 := C1.le
        have hJi : (J : Int) < A.ns.length := by omega
        have hlt := C1.blt.1
        have HQ : Hid (_ = _) := hq
        have HF : Hid _ := F.trans k1 (fun _ _ h => h)
        have HL : Hid (_ ∧ _) := ⟨Lb, te.2⟩
        have HS : Hid (szS e + szSs es ≤ gk ∧ szS e + szSs es ≤ n ∧ s1.lvl + (szS e + szSs es) ≤ 4000 ∧ 0 < szS e ∧ s1.lvl = s.lvl + 1 ∧ s2.lvl = s1.lvl) := ⟨hg, hsn, hl4, hp, hlv, hl2⟩
        have HC : Hid (CM w1 A X cur s2 0 0) := C1
        clear hq hks F k1 La Lb te hg hsn hl4 hp hlv hl2 C1
        go_wp2_with fail
        go_roundg (szSs es)
        case measure => have := HS.out; omega
        case rel => exact ⟨b' + szS e, es, s2, rfl, HL.out.1, HL.out.2, Nat.le_refl _, by have := HS.out; omega, by have := HS.out; omega, by have := HS.out; omega, HC.out, HF.out, by rw [HE.out, HQ.out]; rfl⟩
end
end Go.Proofs.Qxb6500277aGreat
