/- The model checker: block. -/
import Derived.Test.Qxb6500277aGreatMD3
import Derived.Test.Qxb6500277aGreatCS1
namespace Go.Proofs.Qxb6500277aGreat
open Go Go.RowKit

section
variable {w w' : World} {B : Nat} {A : Ma} {X : Cx} {cur : Nat} {s : Ck} {er po : Int} {fv vv : Value} {n : Nat}
/-- What a statement of the model leaves. -/
def SMP (w : World) (B : Nat) (A : Ma) (X : Cx) (cur : Nat) (s : Ck) (fv vv : Value) (r : Rc Unit) (e : Ending) (w' : World) : Prop := e = .returned (.tuple #[]) ∧ Fr (MSc A fv vv) w w' ∧ ∃ vv', (∀ b, isBlk vv' b → isBlk vv b ∨ w.heap.size ≤ b) ∧ match r with
  | .ok _ s' => MXc w' B A X cur s' 0 0 fv vv'
  | .bad er po => er ≠ 0 ∧ ∃ s', MXc w' B A X cur s' er po fv vv' ∧ Ext s s'
theorem SMP.ok {r : Rc Unit} {u : Unit} {s' : Ck} {vv' : Value} (hr : r = .ok u s') (k : Fr (MSc A fv vv) w w') (hb : ∀ b, isBlk vv' b → isBlk vv b ∨ w.heap.size ≤ b) (C : MXc w' B A X cur s' 0 0 fv vv') : SMP w B A X cur s fv vv r (.returned (.tuple #[])) w' := ⟨rfl, k, vv', hb, by rw [hr]; exact C⟩
theorem SMP.bad {r : Rc Unit} {e p : Int} {s' : Ck} {vv' : Value} (hr : r = .bad e p) (k : Fr (MSc A fv vv) w w') (h0 : e ≠ 0) (hb : ∀ b, isBlk vv' b → isBlk vv b ∨ w.heap.size ≤ b) (C : MXc w' B A X cur s' e p fv vv') (hx : Ext s s') : SMP w B A X cur s fv vv r (.returned (.tuple #[])) w' := ⟨rfl, k, vv', hb, by rw [hr]; exact ⟨h0, s', C, hx⟩⟩
theorem MSc.back {vv' : Value} (hb : ∀ b, isBlk vv' b → isBlk vv b ∨ w.heap.size ≤ b) : ∀ i, i < w.heap.size → MSc A fv vv' i → MSc A fv vv i := fun i hi h => by
  rcases h with h | h | h | h | h
  · exact .inl h
  · exact .inr (.inl h)
  · exact .inr (.inr (.inl h))
  · exact .inr (.inr (.inr (.inl h)))
  · rcases hb i h with h | h
    · exact .inr (.inr (.inr (.inr h)))
    · omega
def StmM (B : Nat) (A : Ma) (X : Cx) (cur n : Nat) (fv : Value) : Prop := ∀ (e : Stm), szS e ≤ n → TyS e → ∀ (w : World) (s : Ck) (vv : Value) (b : Nat) (nx x : Int), MXc w B A X cur s 0 0 fv vv → Good s → s.lvl + szS e ≤ 4000 → Lie A.ns b (flS b nx e) → x = rtS b e → Calls Tryz.prog 132 #[.pointer (some ⟨A.m, 0, none⟩), .int .i64 x] w (SMP w B A X cur s fv vv (ckS X cur b e s))
def BlkM (B : Nat) (A : Ma) (X : Cx) (cur n : Nat) (fv : Value) : Prop := ∀ (ss : Stms), szSs ss ≤ n → TySs ss → ∀ (w : World) (s : Ck) (vv : Value) (b x : Nat) (p : Int), MXc w B A X cur s 0 0 fv vv → Good s → s.lvl + szSs ss + 1 ≤ 4000 → Lie A.ns b (flSs b ss) → A.ns[x]? = some ⟨2, hdS b ss, -1, -1, -1, 0, p, ⟨#[]⟩⟩ → Calls Tryz.prog 78 #[.pointer (some ⟨A.m, 0, none⟩), .int .i64 x] w (SMP w B A X cur s fv vv (inB (ckSs X cur b ss) s))
theorem SlV.take {a : Option Addr} {c m : Nat} {vs : List Vr} (h : SlV w (.slice a vs.length c) vs) (hm : m ≤ vs.length) : SlV w (.slice a m c) (vs.take m) := by
  rcases h with ⟨e, rfl⟩ | ⟨b, cap, f, e, hc, hb, hf⟩
  · have : m = 0 := by simpa using hm
    subst this
    injection e with e1 e2 e3
    subst e1 e3
    exact .inl ⟨rfl, rfl⟩
  · injection e with e1 _ e3
    subst e1 e3
    have hl : (vs.take m).length = m := by simp; omega
    refine .inr ⟨b, c, f, by rw [hl], by rw [hl]; omega, hb, fun o ho => ?_⟩
    rw [hl] at ho
    rw [hf o (by omega)]
    unfold bufV
    rw [List.getD_eq_getElem?_getD, List.getD_eq_getElem?_getD, List.getElem?_take_of_lt (by omega)]
/-- A block is left: its variables go. -/
theorem MXc.leave {s0 : Ck} {a : Option Addr} {c : Nat} (H : MXc w B A X cur s er po fv (.slice a s.vs.length c)) (hx : Ext (openB s0) s) (hn12 : s0.ni ≤ 12 ∧ s0.nr ≤ 12) (hlv : s0.lvl ≤ 4000) (hB : B ≤ w.heap.size) (hnb : A.nb < w.heap.size) (hvt : ∀ i, 0 ≤ (vAt s0.vs i).ty ∧ (vAt s0.vs i).ty < 8) :
    MXc ((((w.setCell ⟨A.m, 8, none⟩ (.int .i64 (s0.lvl : Nat))).setCell ⟨A.m, 4, none⟩ (.slice a s0.vs.length c)).setCell ⟨A.m, 5, none⟩ (.int .i64 (s0.ni : Nat))).setCell ⟨A.m, 6, none⟩ (.int .i64 (s0.nr : Nat))) B A X cur (shut s0 s) er po fv (.slice a s0.vs.length c) := by
  have hle : s0.vs.length ≤ s.vs.length := hx.len
  have htk : s.vs.take s0.vs.length = s0.vs := hx.take
  have h1 := H.setLv s0.lvl hlv
  have hV := h1.vs.take (m := s0.vs.length) hle
  have h2 := h1.setVs (Fr.refl _ _) hV (fun b hb => by
    obtain ⟨n, c', e⟩ := hb
    injection e with e1 e2 e3
    exact .inr ⟨s.vs.length, c, by rw [e1]⟩) (by simpa using hB) (by simpa using hnb) (by have := H.vl; simp; omega) (by
      have e : ({ s with lvl := s0.lvl } : Ck).vs.take s0.vs.length = s0.vs := htk
      rw [e]; exact hvt)
  have e : ({ s with lvl := s0.lvl } : Ck).vs.take s0.vs.length = s0.vs := htk
  rw [e] at h2
  exact (h2.setNi s0.ni hn12.1).setNr s0.nr hn12.2
set_option maxRecDepth 100000 in
set_option maxHeartbeats 8000000 in
theorem blkM (I : StmM B A X cur n fv) : BlkM B A X cur n fv := by
  intro ss hn ht w s vv b x p H hG hl L hx
  obtain ⟨va, vc, rfl⟩ := H.vs.sl
  obtain ⟨-, r1, r2, r3, r4, r5, r6, r7, r8, r9, r10, hz, hlt, hltt, hltr⟩ := H.regs
  obtain ⟨hk, hnb, r0, n0, n1, n2, n3, n4, n5, n6, n7⟩ := H.node hx
  try simp only at n0 n1 n2 n3 n4 n5 n6 n7
  have h200 := H.le
  have hxl : (x : Int) < A.ns.length := by omega
  have hl1 : (s.lvl : Int) < 4000 := by omega
  have hBw : B ≤ w.heap.size := by have := H.lo.1; omega
  have HM0 : Hid (∀ (w1 : World), MXc w1 B A X cur s 0 0 fv (.slice va s.vs.length vc) → MXc (w1.setCell ⟨A.m, 8, none⟩ (.int .i64 ((s.lvl + 1 : Nat) : Int))) B A X cur (openB s) 0 0 fv (.slice va s.vs.length vc)) := fun w1 h => h.setLv (s.lvl + 1) (by omega)
  have HH : Hid (MXc w B A X cur s 0 0 fv (.slice va s.vs.length vc)) := H
  have Hin : Hid (inB (ckSs X cur b ss) s = (ckSs X cur b ss (openB s)).bind fun _ s' => .ok () (shut s s')) := rfl
  have HnB : Hid (A.nb < w.heap.size) := hnb
  have HG : Hid (Good s) := hG
  obtain ⟨d1, d2, d3, d4, d5, d6⟩ := H.dis
  have ec : ((s.lvl + 1 : Nat) : Int) = (s.lvl : Int) + 1 := by omega
  rw [ec] at HM0
  clear H hG ec
  go_enter Tryz.func78, Tryz.ntmps78
  go_wp2_with fail
  go_quiet (fail)
  go_wp2_with fail
  generalize hw0 : World.setCell _ _ _ = w0
  have HW0 : Hid (MXc w0 B A X cur (openB s) 0 0 fv (.slice va s.vs.length vc) ∧ Fr (MSc A fv (.slice va s.vs.length vc)) w w0) := by
    rw [← hw0]
    exact ⟨HM0.out _ (HH.out.same ((Fr.refl _ _).drewN _)), ((Fr.refl _ _).drewN _).setC A.m 8 _ (fun _ => .inl rfl)⟩
  clear HM0 hw0 r1 r2 r3 r4 r5 r6 r7 r8 r9 r10 hz hlt hltt hltr hnb r0 n0 n1 n2 n3 n4 n5 n6 n7
  go_loopg [7] (szSs ss) (fun g xv wr => ∃ (b' : Nat) (es : Stms) (vr : Value), xv = .int .i64 (hdS b' es) ∧ Lie A.ns b' (flSs b' es) ∧ TySs es ∧ szSs es ≤ g ∧ szSs es ≤ n ∧ s.lvl + 1 + szSs es ≤ 4000 ∧ Fr (MSc A fv (.slice va s.vs.length vc)) w wr ∧ (∀ d, isBlk vr d → isBlk (.slice va s.vs.length vc) d ∨ w.heap.size ≤ d) ∧
    ((∃ s1, MXc wr B A X cur s1 0 0 fv vr ∧ Good s1 ∧ Ext (openB s) s1 ∧ ckSs X cur b ss (openB s) = ckSs X cur b' es s1) ∨ ∃ er po s1, er ≠ 0 ∧ MXc wr B A X cur s1 er po fv vr ∧ Ext (openB s) s1 ∧ ckSs X cur b ss (openB s) = .bad er po))
  case atStart => exact ⟨b, ss, _, rfl, L, ht, Nat.le_refl _, hn, by omega, HW0.out.2, fun d hd => .inl hd, .inl ⟨openB s, HW0.out.1, HG.out.openB, Ext.refl _, rfl⟩⟩
  case round =>
    clear HW0
    obtain ⟨b', es, vr, rfl, L, te, hg, hsn, hl4, F, hvr, hst⟩ := hrel
    rcases hst with ⟨s1, M, G1, hE1, hE⟩ | ⟨er, po, s1, h0, M, hE1, hE⟩
    · cases es with
      | nil =>
        simp only [ckSs] at hE
        rw [show hdS b' .nil = -1 from rfl]
        have z0 : decide ((-1 : Int) ≥ 0) = false := by decide
        have HRES : Hid (inB (ckSs X cur b ss) s = .ok () (shut s s1)) := by show _ = _; rw [Hin.out, hE]; rfl
        have elv : s1.lvl = s.lvl + 1 := hE1.lvl
        have hsle : s.vs.length ≤ s1.vs.length := hE1.len
        obtain ⟨va2, vc2, rfl⟩ := M.vs.sl
        obtain ⟨-, r1, r2, r3, r4, r5, r6, r7, r8, r9, r10, hz, hlt, hltt, hltr⟩ := M.regs
        rw [elv] at r8
        have e8 : ((s.lvl + 1 : Nat) : Int) - 1 = (s.lvl : Nat) := by omega
        have hsz := F.size
        have hcap : s1.vs.length ≤ vc2 := by
          rcases M.vs with ⟨e, h⟩ | ⟨_, _, _, e, h, _⟩
          · injection e with _ e2 e3; omega
          · injection e with _ _ e3; omega
        have hvl := M.vl
        have FN := M.leave (s0 := s) hE1 HH.out.n12 HH.out.lvl (by omega) (by have := HnB.out; omega) HH.out.vt
        have HSH : Hid (Ext s (shut s s1)) := hE1.shut
        have HFN : Hid (_ ∧ (∀ d, isBlk (.slice va2 s1.vs.length vc2) d → isBlk (.slice va s.vs.length vc) d ∨ w.heap.size ≤ d) ∧ Fr (MSc A fv (.slice va s.vs.length vc)) w _) := ⟨FN, hvr, (((F.setC A.m 8 (.int .i64 (s.lvl : Nat)) (fun _ => .inl rfl)).setC A.m 4 (.slice va2 s.vs.length vc2) (fun _ => .inl rfl)).setC A.m 5 (.int .i64 (s.ni : Nat)) (fun _ => .inl rfl)).setC A.m 6 (.int .i64 (s.nr : Nat)) (fun _ => .inl rfl)⟩
        have hsi : (s.vs.length : Int) ≤ vc2 := by omega
        clear FN M F hvr L te hg hsn hl4 hE hE1 G1
        go_wp2_with fail
        go_end0
        exact SMP.ok HRES.out (HFN.out.2.2) (fun d hd => by
          obtain ⟨n', c', e⟩ := hd
          injection e with e1 e2 e3
          exact HFN.out.2.1 d ⟨_, _, by rw [e1]⟩) HFN.out.1
      | cons e es =>
        obtain ⟨La, Lb⟩ := L.stms
        simp only [TySs] at te
        simp only [szSs] at hg hsn hl4
        have hp := szS_pos e
        obtain ⟨nd, hn1, hn2⟩ := La.rootS
        obtain ⟨J, hJ⟩ : ∃ J, J = b' + szS e - 1 := ⟨_, rfl⟩
        have elv : s1.lvl = s.lvl + 1 := hE1.lvl
        have hX := I e (by omega) te.1 wr s1 vr b' (hdS (b' + szS e) es) (rtS b' e) M G1 (by omega) La rfl
        rw [show hdS b' (.cons e es) = rtS b' e from rfl]
        rw [rtS_nat, ← hJ] at hX ⊢
        rw [← hJ] at hn1
        have z0 : decide ((J : Int) ≥ 0) = true := decide_eq_true (by omega)
        obtain ⟨-, r1, r2, r3, r4, r5, r6, r7, r8, r9, r10, hz, hlt, hltt, hltr⟩ := M.regs
        have hks := keepS X cur e te.1 b' s1
        have hE2 : ckSs X cur b ss (openB s) = (ckS X cur b' e s1).bind fun _ s => ckSs X cur (b' + szS e) es s := by rw [hE]; simp only [ckSs]
        have HE : Hid (_ = _) := hE2
        have HS : Hid (szS e + szSs es ≤ gk ∧ szS e + szSs es ≤ n ∧ s.lvl + 1 + (szS e + szSs es) ≤ 4000 ∧ 0 < szS e) := ⟨hg, hsn, hl4, hp⟩
        have HL : Hid (_ ∧ _) := ⟨Lb, te.2⟩
        clear M hJ hE hE2 elv
        go_wp2_with fail
        refine hX.mono ?_
        rintro v w2 ⟨rfl, k2, vr2, hvr2, h⟩
        clear hX r1 r2 r3 r4 r5 r6 r7 r8 r9 r10 hz hlt hltt hltr
        have hsz := F.size
        have F2 := F.trans k2 (fun i hi hh => MSc.back hvr i hi hh)
        have hvr3 : ∀ d, isBlk vr2 d → isBlk (.slice va s.vs.length vc) d ∨ w.heap.size ≤ d := fun d hd => by
          rcases hvr2 d hd with h | h
          · exact hvr d h
          · exact .inr (by omega)
        cases hq : ckS X cur b' e s1 with
        | bad er po =>
          rw [hq] at h
          obtain ⟨h0, s2, C2, hE3⟩ := h
          obtain ⟨jk, jb, j0, j1, j2, j3, j4, j5, j6, j7, j8⟩ := C2.node hn1
          rw [hn2] at j5
          have hJi : (J : Int) < A.ns.length := by omega
          have dl := C2.blk.lt
          have HD : Hid (er ≠ 0 ∧ MXc w2 B A X cur s2 er po fv vr2 ∧ Ext (openB s) s2 ∧ ckSs X cur b ss (openB s) = .bad er po) := ⟨h0, C2, hE1.trans hE3, by rw [HE.out, hq]; rfl⟩
          have HF2 : Hid (_ ∧ _) := ⟨F2, hvr3⟩
          clear C2 hq hks F F2 hvr hvr2 hvr3 La Lb te hg hsn hl4 hp h0 hE1 hE3 k2 G1
          go_wp2_with fail
          go_roundg (szSs es)
          case measure => have := HS.out; omega
          case rel => exact ⟨b' + szS e, es, vr2, rfl, HL.out.1, HL.out.2, Nat.le_refl _, by have := HS.out; omega, by have := HS.out; omega, HF2.out.1, HF2.out.2, .inr ⟨er, po, s2, HD.out⟩⟩
        | ok u s2 =>
          rw [hq] at h
          obtain ⟨k9, k10⟩ := hks u s2 hq
          obtain ⟨jk, jb, j0, j1, j2, j3, j4, j5, j6, j7, j8⟩ := h.node hn1
          rw [hn2] at j5
          have hJi : (J : Int) < A.ns.length := by omega
          have dl := h.blk.lt
          have HD : Hid (MXc w2 B A X cur s2 0 0 fv vr2 ∧ Good s2 ∧ Ext (openB s) s2 ∧ ckSs X cur b ss (openB s) = ckSs X cur (b' + szS e) es s2) := ⟨h, k10 G1, hE1.trans k9, by rw [HE.out, hq]; rfl⟩
          have HF2 : Hid (_ ∧ _) := ⟨F2, hvr3⟩
          clear h hq hks F F2 hvr hvr2 hvr3 La Lb te hg hsn hl4 hp hE1 k2 G1 k9 k10
          go_wp2_with fail
          go_roundg (szSs es)
          case measure => have := HS.out; omega
          case rel => exact ⟨b' + szS e, es, vr2, rfl, HL.out.1, HL.out.2, Nat.le_refl _, by have := HS.out; omega, by have := HS.out; omega, HF2.out.1, HF2.out.2, .inl ⟨s2, HD.out⟩⟩
    · have HRES : Hid (inB (ckSs X cur b ss) s = .bad er po) := by show _ = _; rw [Hin.out, hE]; rfl
      have y0 : (er != 0) = true := by simpa using h0
      have y1 : (er == 0) = false := by simpa using h0
      have H0 : Hid (er ≠ 0) := h0
      by_cases ha : hdS b' es ≥ 0
      · have za : decide (hdS b' es ≥ 0) = true := decide_eq_true ha
        clear ha h0
        have elv : s1.lvl = s.lvl + 1 := hE1.lvl
        have hsle : s.vs.length ≤ s1.vs.length := hE1.len
        obtain ⟨va2, vc2, rfl⟩ := M.vs.sl
        obtain ⟨-, r1, r2, r3, r4, r5, r6, r7, r8, r9, r10, hz, hlt, hltt, hltr⟩ := M.regs
        rw [elv] at r8
        have e8 : ((s.lvl + 1 : Nat) : Int) - 1 = (s.lvl : Nat) := by omega
        have hsz := F.size
        have hcap : s1.vs.length ≤ vc2 := by
          rcases M.vs with ⟨e, h⟩ | ⟨_, _, _, e, h, _⟩
          · injection e with _ e2 e3; omega
          · injection e with _ _ e3; omega
        have hvl := M.vl
        have FN := M.leave (s0 := s) hE1 HH.out.n12 HH.out.lvl (by omega) (by have := HnB.out; omega) HH.out.vt
        have HSH : Hid (Ext s (shut s s1)) := hE1.shut
        have HFN : Hid (_ ∧ (∀ d, isBlk (.slice va2 s1.vs.length vc2) d → isBlk (.slice va s.vs.length vc) d ∨ w.heap.size ≤ d) ∧ Fr (MSc A fv (.slice va s.vs.length vc)) w _) := ⟨FN, hvr, (((F.setC A.m 8 (.int .i64 (s.lvl : Nat)) (fun _ => .inl rfl)).setC A.m 4 (.slice va2 s.vs.length vc2) (fun _ => .inl rfl)).setC A.m 5 (.int .i64 (s.ni : Nat)) (fun _ => .inl rfl)).setC A.m 6 (.int .i64 (s.nr : Nat)) (fun _ => .inl rfl)⟩
        have hsi : (s.vs.length : Int) ≤ vc2 := by omega
        clear FN M F hvr L te hg hsn hl4 hE hE1
        go_wp2_with fail
        go_end0
        exact SMP.bad HRES.out (HFN.out.2.2) H0.out (fun d hd => by
          obtain ⟨n', c', e⟩ := hd
          injection e with e1 e2 e3
          exact HFN.out.2.1 d ⟨_, _, by rw [e1]⟩) HFN.out.1 HSH.out
      · have za : decide (hdS b' es ≥ 0) = false := decide_eq_false ha
        clear ha h0
        have elv : s1.lvl = s.lvl + 1 := hE1.lvl
        have hsle : s.vs.length ≤ s1.vs.length := hE1.len
        obtain ⟨va2, vc2, rfl⟩ := M.vs.sl
        obtain ⟨-, r1, r2, r3, r4, r5, r6, r7, r8, r9, r10, hz, hlt, hltt, hltr⟩ := M.regs
        rw [elv] at r8
        have e8 : ((s.lvl + 1 : Nat) : Int) - 1 = (s.lvl : Nat) := by omega
        have hsz := F.size
        have hcap : s1.vs.length ≤ vc2 := by
          rcases M.vs with ⟨e, h⟩ | ⟨_, _, _, e, h, _⟩
          · injection e with _ e2 e3; omega
          · injection e with _ _ e3; omega
        have hvl := M.vl
        have FN := M.leave (s0 := s) hE1 HH.out.n12 HH.out.lvl (by omega) (by have := HnB.out; omega) HH.out.vt
        have HSH : Hid (Ext s (shut s s1)) := hE1.shut
        have HFN : Hid (_ ∧ (∀ d, isBlk (.slice va2 s1.vs.length vc2) d → isBlk (.slice va s.vs.length vc) d ∨ w.heap.size ≤ d) ∧ Fr (MSc A fv (.slice va s.vs.length vc)) w _) := ⟨FN, hvr, (((F.setC A.m 8 (.int .i64 (s.lvl : Nat)) (fun _ => .inl rfl)).setC A.m 4 (.slice va2 s.vs.length vc2) (fun _ => .inl rfl)).setC A.m 5 (.int .i64 (s.ni : Nat)) (fun _ => .inl rfl)).setC A.m 6 (.int .i64 (s.nr : Nat)) (fun _ => .inl rfl)⟩
        have hsi : (s.vs.length : Int) ≤ vc2 := by omega
        clear FN M F hvr L te hg hsn hl4 hE hE1
        go_wp2_with fail
        go_end0
        exact SMP.bad HRES.out (HFN.out.2.2) H0.out (fun d hd => by
          obtain ⟨n', c', e⟩ := hd
          injection e with e1 e2 e3
          exact HFN.out.2.1 d ⟨_, _, by rw [e1]⟩) HFN.out.1 HSH.out
end
end Go.Proofs.Qxb6500277aGreat
