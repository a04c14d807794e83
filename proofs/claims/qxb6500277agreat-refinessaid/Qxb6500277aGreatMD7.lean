/- The model checker: a function's body. -/
import Derived.Test.Qxb6500277aGreatMD6
import Derived.Test.Qxb6500277aGreatCB1
namespace Go.Proofs.Qxb6500277aGreat
open Go Go.RowKit

section
variable {w w' : World} {B : Nat} {A : Ma} {X : Cx} {cur : Nat} {s : Ck} {er po : Int} {fv vv : Value} {n : Nat}
theorem MXc.setCur (H : MXc w B A X cur s er po fv vv) (i : Nat) : MXc (w.setCell ⟨A.m, 7, none⟩ (.int .i64 (i : Nat))) B A X i s er po fv vv :=
  H.turn ((Fr.refl (fun b => b = A.m) w).setC A.m 7 _ (fun _ => rfl)) ((H.blk.set 7 (.int .i64 (i : Nat))).congr fun o ho => by
    rcases lt11c ho with rfl | rfl | rfl | rfl | rfl | rfl | rfl | rfl | rfl | rfl | rfl <;> simp [upd, mCell]) rfl rfl rfl rfl H.n12 H.lvl
theorem MXc.reset (H : MXc w B A X cur s er po fv vv) (i : Nat) (hB : B ≤ w.heap.size) (hnb : A.nb < w.heap.size) :
    MXc (((((w.setCell ⟨A.m, 7, none⟩ (.int .i64 (i : Nat))).setCell ⟨A.m, 4, none⟩ (.slice none 0 0)).setCell ⟨A.m, 5, none⟩ (.int .i64 (0 : Nat))).setCell ⟨A.m, 6, none⟩ (.int .i64 (0 : Nat))).setCell ⟨A.m, 8, none⟩ (.int .i64 (0 : Nat))) B A X i (fresh0 s) er po fv (.slice none 0 0) :=
  ((((H.setCur i).setVs (vs' := []) (v' := .slice none 0 0) (Fr.refl _ _) (.inl ⟨rfl, rfl⟩) (fun b hb => absurd hb (nilB b)) (by simpa using hB) (by simpa using hnb) (by simp) (fun i => by simp [vAt])).setNi 0 (by omega)).setNr 0 (by omega)).setLv 0 (by omega)
/-- What a body of the model leaves. -/
def BdM (w : World) (B : Nat) (A : Ma) (X : Cx) (i : Nat) (fv vv : Value) (r : Rc Unit) (e : Ending) (w' : World) : Prop := e = .returned (.tuple #[]) ∧ Fr (MSc A fv vv) w w' ∧ ∃ vv', (∀ b, isBlk vv' b → isBlk vv b ∨ w.heap.size ≤ b) ∧ match r with
  | .ok _ s' => ∃ sm, MXc w' B A X i sm 0 0 fv vv' ∧ fresh0 sm = s'
  | .bad er po => er ≠ 0 ∧ ∃ sm, MXc w' B A X i sm er po fv vv'
theorem BdM.bad {i : Nat} {r : Rc Unit} {e p : Int} {s' : Ck} {vv' : Value} (hr : r = .bad e p) (k : Fr (MSc A fv vv) w w') (h0 : e ≠ 0) (hb : ∀ b, isBlk vv' b → isBlk vv b ∨ w.heap.size ≤ b) (C : MXc w' B A X i s' e p fv vv') : BdM w B A X i fv vv r (.returned (.tuple #[])) w' := ⟨rfl, k, vv', hb, by rw [hr]; exact ⟨h0, s', C⟩⟩
theorem BdM.ok {i : Nat} {r : Rc Unit} {u : Unit} {s' : Ck} {vv' : Value} (hr : r = .ok u (fresh0 s')) (k : Fr (MSc A fv vv) w w') (hb : ∀ b, isBlk vv' b → isBlk vv b ∨ w.heap.size ≤ b) (C : MXc w' B A X i s' 0 0 fv vv') : BdM w B A X i fv vv r (.returned (.tuple #[])) w' := ⟨rfl, k, vv', hb, by rw [hr]; exact ⟨s', C, rfl⟩⟩
set_option maxRecDepth 100000 in
set_option maxHeartbeats 8000000 in
theorem bodyM (hPC : PCh X A.ns) (H : MXc w B A X cur s 0 0 fv vv) {i b : Nat} {nx : Int} {f : Fnc} (hok : OkF f) (hi : i < X.fs.length) (hnode : (fAt X.fs i).node = rtF b f) (L : Lie A.ns b (flF b nx f)) : Calls Tryz.prog 52 #[.pointer (some ⟨A.m, 0, none⟩), .int .i64 i] w (BdM w B A X i fv vv (ckF X i b f s)) := by
  obtain ⟨Lp, Ls, hnB, hnF⟩ := L.fn
  obtain ⟨ok1, ok2, ok3⟩ := hok
  obtain ⟨J, hJ⟩ : ∃ J, J = b + szF f - 1 := ⟨_, rfl⟩
  obtain ⟨Q, hQ⟩ : ∃ Q, Q = b + f.ps.length + szSs f.ss := ⟨_, rfl⟩
  rw [rtF_nat, ← hJ] at hnode
  rw [← hJ, ← hQ] at hnF
  rw [← hQ] at hnB
  obtain ⟨-, r1, r2, r3, r4, r5, r6, r7, r8, r9, r10, hz, hlt, hltt, hltr⟩ := H.regs
  obtain ⟨hk, hnb, r0, n0, n1, n2, n3, n4, n5, n6, n7⟩ := H.node hnF
  try simp only at n0 n1 n2 n3 n4 n5 n6 n7
  obtain ⟨fb, cap, efv, hfb, ibf, c0, c1, c2, c3, c4, c5, c6, cz⟩ := H.func hi
  rw [hnode] at c0
  rw [efv] at r3
  have h200 := H.le
  have hx8 := H.xok.le
  have hi8 : i < 8 := by omega
  have hii : (i : Int) < (X.fs.length : Nat) := by omega
  have hJi : (J : Int) < A.ns.length := by omega
  obtain ⟨d1, d2, d3, d4, d5, d6⟩ := H.dis
  obtain ⟨v1, v2, v3, v4, v5, v6⟩ := H.fd fb ibf
  have hBw : B ≤ w.heap.size := by have := H.lo.1; omega
  have HM0 : Hid (_ ∧ _) := ⟨H.reset i hBw hnb, (((((Fr.refl (MSc A fv vv) w).setC A.m 7 (.int .i64 (i : Nat)) (fun _ => .inl rfl)).setC A.m 4 (.slice none 0 0) (fun _ => .inl rfl)).setC A.m 5 (.int .i64 (0 : Nat)) (fun _ => .inl rfl)).setC A.m 6 (.int .i64 (0 : Nat)) (fun _ => .inl rfl)).setC A.m 8 (.int .i64 (0 : Nat)) (fun _ => .inl rfl)⟩
  have HE : Hid (ckF X i b f s = (ckP i b f.ps (fresh0 s)).bind fun _ s => (inB (ckSs X i (b + f.ps.length) f.ss) s).bind fun _ s => .ok () (fresh0 s)) := rfl
  have hszQ : szSs f.ss + 1 ≤ 300 := by have := Ls.le; rw [flSs_len] at this; omega
  have tys := tySs_of _ _ ok3
  have Hnn : Hid _ := hnF
  simp only [Int.natCast_zero] at HM0
  clear H hJ hQ ok1 ok3 hnF efv ibf L
  go_enter Tryz.func52, Tryz.ntmps52
  go_wp2_with fail
  generalize hw0 : World.setCell _ _ _ = w0
  have HW0 : Hid (MXc w0 B A X i (fresh0 s) 0 0 fv (.slice none 0 0) ∧ Fr (MSc A fv vv) w w0) := by rw [← hw0]; exact HM0.out
  clear HM0 hw0 r1 r2 r3 r4 r5 r6 r7 r8 r9 r10 hz hlt hltt hltr hnb r0 n0 n1 n2 n3 n4 n5 n6 n7 hfb c0 c1 c2 c3 c4 c5 c6 cz
  go_loopg [5] f.ps.length (fun g av wr => ∃ (x' : Nat) (ps : List Prm) (s2 : Ck) (vr : Value), av = .int .i64 (hdP x' ps) ∧ ps.length ≤ g ∧ Lie A.ns x' (flP x' ps) ∧ (∀ x ∈ ps, OkP x) ∧ s2.lvl = 0 ∧ Good s2 ∧ MXc wr B A X i s2 0 0 fv vr ∧ (∀ d, isBlk vr d → isBlk vv d ∨ w.heap.size ≤ d) ∧ Fr (MSc A fv vv) w wr ∧ ckP i b f.ps (fresh0 s) = ckP i x' ps s2)
  case atStart => exact ⟨b, f.ps, fresh0 s, _, rfl, Nat.le_refl _, Lp, ok2, rfl, Good.fresh0 s, HW0.out.1, fun d hd => absurd hd (nilB d), HW0.out.2, rfl⟩
  case round =>
    clear HW0 ok2 Lp
    obtain ⟨x', ps, s2, vr, rfl, hpg, Lp, ok2, hl0, G2, M, hvr, F, hP⟩ := hrel
    cases ps with
    | nil =>
      simp only [ckP] at hP
      rw [show hdP x' [] = -1 from rfl]
      have z2 : decide ((-1 : Int) ≥ 0) = false := by decide
      obtain ⟨_, hnb, r0, n0, n1, n2, n3, n4, n5, n6, n7⟩ := M.node Hnn.out
      try simp only at n0 n1 n2 n3 n4 n5 n6 n7
      have hlt := M.blk.lt
      have hW := blkMA hPC hi f.ss tys M G2 (b := b + f.ps.length) (x := Q) (p := f.bp) (by rw [hl0]; omega) Ls hnB
      have HP : Hid (_ = _) := hP
      have HF : Hid (_ ∧ _) := ⟨F, hvr⟩
      clear M hP F hvr hpg Lp ok2
      go_wp2_with fail
      refine hW.mono ?_
      rintro v w2 ⟨rfl, k2, vr2, hvr2, h⟩
      clear hW
      go_wp2_with fail
      go_end0
      have kk := HF.out.1.trans k2 (fun i hi hh => MSc.back HF.out.2 i hi hh)
      have hvv : ∀ d, isBlk vr2 d → isBlk vv d ∨ w.heap.size ≤ d := fun d hd => by
        rcases hvr2 d hd with h | h
        · exact HF.out.2 d h
        · exact .inr (Nat.le_trans HF.out.1.size h)
      cases hq : inB (ckSs X i (b + f.ps.length) f.ss) s2 with
      | bad er po =>
        rw [hq] at h
        obtain ⟨h0, s', C, _⟩ := h
        exact BdM.bad (by rw [HE.out, HP.out, Rc.bind_ok, hq]; rfl) kk h0 hvv C
      | ok u s3 =>
        rw [hq] at h
        exact BdM.ok (u := ()) (by rw [HE.out, HP.out, Rc.bind_ok, hq]; rfl) kk hvv h
    | cons q ps =>
      obtain ⟨hnq, Lq⟩ := Lp.prm
      rw [show hdP x' (q :: ps) = (x' : Nat) from rfl]
      have z2 : decide ((x' : Int) ≥ 0) = true := decide_eq_true (by omega)
      obtain ⟨hxl, hnb, r0, n0, n1, n2, n3, n4, n5, n6, n7⟩ := M.node hnq
      try simp only at n0 n1 n2 n3 n4 n5 n6 n7
      have hlt := M.blk.lt
      have hxi : (x' : Int) < A.ns.length := by omega
      have hM := freeM (M.same ((Fr.refl _ _).drew)) q.s q.t q.p
      have hP2 : ckP i b f.ps (fresh0 s) = (mayD q.s q.t q.p s2).bind fun _ s => ckP i (x' + 1) ps (decl i x' q.s q.t s) := by rw [hP]; simp only [ckP]
      have HP : Hid (_ = _) := hP2
      have oq := ok2 q (List.mem_cons_self ..)
      simp only [List.length_cons] at hpg
      have HS : Hid (ps.length + 1 ≤ gk ∧ s2.lvl = 0) := ⟨hpg, hl0⟩
      have HL : Hid (Lie A.ns (x' + 1) (flP (x' + 1) ps) ∧ ∀ x ∈ ps, OkP x) := ⟨Lq, fun x hx => ok2 x (List.mem_cons_of_mem _ hx)⟩
      have HF : Hid (_ ∧ _) := ⟨F, hvr⟩
      have HG2 : Hid _ := G2
      clear M hP hP2 F hvr ok2 hpg hl0 Lq Lp G2
      go_wp2_with fail
      refine wp_region_text (by kernel_rfl) (by kernel_rfl) ?_
      go_wp2_with fail
      refine hM.mono ?_
      rintro v w2 ⟨k2, h⟩
      clear hM hnb r0 n0 n1 n2 n3 n4 n5 n6 n7 hlt
      have kk := HF.out.1.drew.trans k2 (fun i hi hh => MSc.back HF.out.2 i hi hh)
      cases hq : mayD q.s q.t q.p s2 with
      | bad er po =>
        rw [hq] at h
        obtain ⟨rfl, h0, C⟩ := h
        have HQ : Hid (_ = _) := hq
        clear hq
        go_wp2_with fail
        refine ⟨by kernel_rfl, ?_⟩
        go_wp2_with fail
        go_end0
        exact BdM.bad (by rw [HE.out, HP.out, HQ.out]; rfl) kk h0 HF.out.2 C
      | ok u s3 =>
        rw [hq] at h
        obtain ⟨rfl, rfl, C⟩ := h
        have h24 : s3.vs.length < 24 := by
          obtain ⟨_, _, m1, m2⟩ := mayD_eq hq
          have h1 := HG2.out.len
          have h2 := HG2.out.ni12
          have h3 := HG2.out.nr12
          by_cases hh : 2 ≤ q.t
          · have := m1 hh; omega
          · have := m2 hh; omega
        have hD := bindM C hnq hq h24 oq hi
        simp only at hD
        have HQ : Hid (_ = _) := hq
        have G3 : Good (decl i x' q.s q.t s3) := HG2.out.decl hq oq rfl rfl rfl rfl
        have HG3 : Hid _ := G3
        have hl2 := C.blk.lt
        clear hq C G3
        go_wp2_with fail
        refine ⟨by kernel_rfl, ?_⟩
        go_wp2_with fail
        refine hD.mono ?_
        rintro v w3 ⟨rfl, k3, vr3, C4, hvr3⟩
        clear hD
        obtain ⟨_, hnb, r0, n0, n1, n2, n3, n4, n5, n6, n7⟩ := C4.node hnq
        try simp only at n0 n1 n2 n3 n4 n5 n6 n7
        have hlt := C4.blk.lt
        have hlv := (Ext.decl i x' q.s q.t s3).lvl
        have ksz := kk.size
        have HX : Hid (MXc w3 B A X i (decl i x' q.s q.t s3) 0 0 fv vr3 ∧ (decl i x' q.s q.t s3).lvl = s3.lvl ∧ Fr (MSc A fv vv) w w3 ∧ ∀ d, isBlk vr3 d → isBlk vv d ∨ w.heap.size ≤ d) := ⟨C4, hlv, kk.trans k3 (fun i hi hh => MSc.back HF.out.2 i hi hh), fun d hd => by
          rcases hvr3 d hd with h | h
          · exact HF.out.2 d h
          · exact .inr (by omega)⟩
        clear C4 hlv k2 k3 kk ksz
        go_wp2_with fail
        go_roundg ps.length
        case measure => have := HS.out; omega
        case rel => exact ⟨x' + 1, ps, decl i x' q.s q.t s3, vr3, rfl, Nat.le_refl _, HL.out.1, HL.out.2, by rw [HX.out.2.1]; exact HS.out.2, HG3.out, HX.out.1, HX.out.2.2.2, HX.out.2.2.1, by rw [HP.out, HQ.out, Rc.bind_ok]⟩
end
end Go.Proofs.Qxb6500277aGreat
