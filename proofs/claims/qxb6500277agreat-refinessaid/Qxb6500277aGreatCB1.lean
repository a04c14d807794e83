/- The real checker: all bodies. -/
import Derived.Test.Qxb6500277aGreatCS2
namespace Go.Proofs.Qxb6500277aGreat
open Go Go.RowKit

/-- The functions' heads, as they lie in the tree. -/
def HdsAt (X : Cx) : Nat → Nat → List Fnc → Prop
  | _, i, [] => i = X.fs.length
  | b, i, f :: r => i < X.fs.length ∧ (fAt X.fs i).node = rtF b f ∧ (fAt X.fs i).ret = f.t ∧ (fAt X.fs i).name = f.s ∧ pAt X.pt i = f.ps.map (·.t) ∧ HdsAt X (b + szF f) (i + 1) r
theorem rtF_nat (b : Nat) (f : Fnc) : rtF b f = ((b + szF f - 1 : Nat) : Int) := by have := szF_pos f; unfold rtF; omega
def Blank (s : Ck) : Prop := s.vs = [] ∧ s.ni = 0 ∧ s.nr = 0 ∧ s.lvl = 0
theorem Blank.fresh {s : Ck} (h : Blank s) : fresh0 s = s := by
  obtain ⟨h1, h2, h3, h4⟩ := h
  obtain ⟨vs, ni, nr, lvl, lim, ty, rf⟩ := s
  simp only at h1 h2 h3 h4
  subst h1 h2 h3 h4
  rfl
/-- What a walk over functions answers. -/
def CBx (w : World) (A : Ca) (X : Cx) (r : Rc Unit) (e : Ending) (w' : World) : Prop := Fr (CS A) w w' ∧ match r with
  | .ok _ s' => e = .returned (.bool true) ∧ ∃ cur, CM w' A X cur s' 0 0
  | .bad er po => e = .returned (.bool false) ∧ er ≠ 0 ∧ ∃ cur s', CM w' A X cur s' er po
section
variable {w w' : World} {A : Ca} {X : Cx} {cur : Nat} {s : Ck} {er po : Int} {n : Nat}
theorem CBx.bad {r : Rc Unit} {e p : Int} (hr : r = .bad e p) (k : Fr (CS A) w w') (h0 : e ≠ 0) {s' : Ck} (C : CM w' A X cur s' e p) : CBx w A X r (.returned (.bool false)) w' := ⟨k, by rw [hr]; exact ⟨rfl, h0, cur, s', C⟩⟩
theorem CBx.ok {r : Rc Unit} {u : Unit} {s' : Ck} (hr : r = .ok u s') (k : Fr (CS A) w w') (C : CM w' A X cur s' 0 0) : CBx w A X r (.returned (.bool true)) w' := ⟨k, by rw [hr]; exact ⟨rfl, cur, C⟩⟩
theorem CM.setCur (H : CM w A X cur s 0 0) (i : Nat) : CM (w.setCell ⟨A.c, 414, none⟩ (.int .i64 (i : Nat))) A X i s 0 0 ∧ Fr (CS A) w (w.setCell ⟨A.c, 414, none⟩ (.int .i64 (i : Nat))) := by
  obtain ⟨f, b1, b2, b3, b4, b5⟩ := H.blk
  have F := (Fr.refl (fun b => b = A.c) w).setC A.c 414 (.int .i64 (i : Nat)) (fun _ => rfl)
  have far : ∀ k, k ≠ 414 → upd f 414 (.int .i64 (i : Nat)) k = f k := fun k h => upd_other _ _ _ _ h
  refine ⟨CM.turn H F (b1.set 414 _) (b2.turn H.xok.le (fun i hi => (H.xok.p4 i hi).1) (far 0 (by omega)) (b2.tv.congr fun k _ h => far k (by omega)) ?_ ?_ ?_ ?_ ?_ ?_ (fun i hi => ?_) (fun k h1 h2 _ => far k (by omega))) (fun hn => ?_) ?_ ?_ rfl rfl H.good H.nms H.xok H.lim H.lvl H.lm, F.mono (fun _ _ h => .inl h)⟩
  · rw [far 162 (by omega)]; exact b2.ni
  · rw [far 163 (by omega)]; exact b2.nr
  · rw [far 164 (by omega)]; exact b2.lv
  · rw [upd_same]
  · rw [far 418 (by omega)]; exact b2.er
  · rw [far 419 (by omega)]; exact b2.po
  · obtain ⟨_, _, _, _, c4, c5, _⟩ := b2.fn i hi
    have := H.xok.le
    exact ⟨by rw [far _ (by omega)]; exact c4, by rw [far _ (by omega)]; exact c5⟩
  · rw [far 415 (by omega)]; exact b3 hn
  · rw [far 416 (by omega)]; exact b4
  · rw [far 417 (by omega)]; exact b5
/-- One function's body is done: the tables are blank again. -/
theorem Blank.of {s' : Ck} (g : Good s') (h1 : s'.vs = []) (h2 : s'.lvl = 0) : Blank s' := ⟨h1, by rw [g.ni, h1]; rfl, by rw [g.nr, h1]; rfl, h2⟩
set_option maxRecDepth 100000 in
set_option maxHeartbeats 8000000 in
theorem bodiesC (H : CM w A X cur s 0 0) (hB : Blank s) {gs : List Fnc} (hO : ∀ f ∈ gs, OkF f) (L : Lie A.ns 0 (flFs 0 gs)) (hH : HdsAt X 0 0 gs) : Calls Tryz.prog 65 #[.pointer (some ⟨A.c, 0, none⟩)] w (CBx w A X (ckFs X 0 0 gs s)) := by
  have h200 := H.le
  have hx8 := H.xok.le
  go_enter Tryz.func65, Tryz.ntmps65
  go_wp2_with fail
  go_loopg [3] gs.length (fun g iv wr => ∃ (i b' : Nat) (fs : List Fnc) (s1 : Ck) (c1 : Nat), iv = .int .i64 i ∧ fs.length ≤ g ∧ Lie A.ns b' (flFs b' fs) ∧ (∀ f ∈ fs, OkF f) ∧ HdsAt X b' i fs ∧ CM wr A X c1 s1 0 0 ∧ Blank s1 ∧ Fr (CS A) w wr ∧ ckFs X 0 0 gs s = ckFs X i b' fs s1)
  case atStart => exact ⟨0, 0, gs, s, cur, rfl, Nat.le_refl _, L, hO, hH, H, hB, Fr.refl _ _, rfl⟩
  case round =>
    clear H hB L hH hO
    obtain ⟨i, b', fs, s1, c1, rfl, hg, L, hO, hH, C, hB, F, hE⟩ := hrel
    obtain ⟨r0, r161, r162, r163, r164, r325, r414, r416, r417, r418, r419, hz⟩ := C.regs
    obtain ⟨hlt, hlt2, hlt3⟩ := C.blt
    cases fs with
    | nil =>
      simp only [HdsAt] at hH
      have z0 : decide ((i : Int) < ((X.fs.length : Nat) : Int)) = false := decide_eq_false (by omega)
      have z1 : decide (i < X.fs.length) = false := decide_eq_false (by omega)
      have HE : Hid (ckFs X 0 0 gs s = .ok () s1) := by show _ = _; rw [hE]; simp only [ckFs]
      have Hh : Hid _ := hH
      clear hE hH
      go_wp2_with fail
      go_ret
      exact CBx.ok HE.out F C
    | cons f r =>
      simp only [HdsAt] at hH
      obtain ⟨hi, h1, h2, h3, h4, h5⟩ := hH
      have z0 : decide ((i : Int) < ((X.fs.length : Nat) : Int)) = true := decide_eq_true (by omega)
      obtain ⟨La, Lb⟩ := L.fns
      obtain ⟨Lp, Ls, hnB, hnF⟩ := La.fn
      obtain ⟨ok1, ok2, ok3⟩ := hO f (List.mem_cons_self ..)
      have hi8 : i < 8 := by omega
      obtain ⟨C2, F2⟩ := C.setCur i
      obtain ⟨f0', f1', f2', f3', f4', f5', f6'⟩ := C.func hi
      obtain ⟨J, hJ⟩ : ∃ J, J = b' + szF f - 1 := ⟨_, rfl⟩
      obtain ⟨Q, hQ⟩ : ∃ Q, Q = b' + f.ps.length + szSs f.ss := ⟨_, rfl⟩
      rw [h1, rtF_nat, ← hJ] at f0'
      rw [← hJ, ← hQ] at hnF
      rw [← hQ] at hnB
      obtain ⟨hk, hnb, r415, n0, n1, n2, n3, n4, n5, n6, n7, n8⟩ := C.node hnF
      try simp only at n0 n1 n2 n3 n4 n5 n6 n7 n8
      have hJi : (J : Int) < A.ns.length := by omega
      have hE2 : ckFs X 0 0 gs s = ((ckP i b' f.ps s1).bind fun _ s => (inB (ckSs X i (b' + f.ps.length) f.ss) s).bind fun _ s => .ok () (fresh0 s)).bind fun _ s => ckFs X (i + 1) (b' + szF f) r s := by
        rw [hE]; simp only [ckFs, ckF]; rw [hB.fresh]
      have HC2 : Hid (CM _ A X i s1 0 0 ∧ Fr (CS A) w _) := ⟨C2, F.trans F2 (fun _ _ h => h)⟩
      have HE : Hid (_ = _) := hE2
      have HR : Hid (Lie A.ns (b' + szF f) (flFs (b' + szF f) r) ∧ (∀ f ∈ r, OkF f) ∧ HdsAt X (b' + szF f) (i + 1) r ∧ r.length + 1 ≤ gk ∧ Blank s1) := ⟨Lb, fun f hf => hO f (List.mem_cons_of_mem _ hf), h5, hg, hB⟩
      have Hnn : Hid _ := hnF
      have hszQ : szSs f.ss + 1 ≤ 300 := by have := Ls.le; rw [flSs_len] at this; omega
      obtain ⟨d1, d2, d3, d4, d5, d6⟩ := C.dis
      have hcnb : A.c ≠ A.nb := d1
      have tys := tySs_of _ _ ok3
      clear C C2 F F2 hE hE2 h1 h2 h3 h4 h5 La Lb L hO hg hB hJ hQ ok1 ok3 hnF
      go_wp2_with fail
      generalize hw0 : wr.setCell _ _ = w0
      have HC3 : Hid (CM w0 A X i s1 0 0 ∧ Fr (CS A) w w0) := by rw [← hw0]; exact HC2.out
      clear HC2 hw0 r0 r161 r162 r163 r164 r325 r414 r416 r417 r418 r419 hz hlt hlt2 hlt3 f0' f1' f2' f3' f4' f5' f6' hnb r415 n0 n1 n2 n3 n4 n5 n6 n7
      go_loopg [5] f.ps.length (fun g av wq => ∃ (x' : Nat) (ps : List Prm) (s2 : Ck), av = .int .i64 (hdP x' ps) ∧ ps.length ≤ g ∧ x' + ps.length = b' + f.ps.length ∧ Lie A.ns x' (flP x' ps) ∧ (∀ x ∈ ps, OkP x) ∧ s2.lvl = 0 ∧ CM wq A X i s2 0 0 ∧ Fr (CS A) w wq ∧ ckP i b' f.ps s1 = ckP i x' ps s2)
      case atStart => exact ⟨b', f.ps, s1, rfl, Nat.le_refl _, rfl, Lp, ok2, HR.out.2.2.2.2.2.2.2, HC3.out.1, HC3.out.2, rfl⟩
      case round =>
        clear HC3 ok2 Lp
        obtain ⟨x', ps, s2, rfl, hpg, hxs, Lp, ok2, hl0, C, F, hP⟩ := hrel
        cases ps with
        | nil =>
          simp only [ckP] at hP
          rw [show hdP x' [] = -1 from rfl]
          have z2 : decide ((-1 : Int) ≥ 0) = false := by decide
          obtain ⟨_, hnb, r415, n0, n1, n2, n3, n4, n5, n6, n7, n8⟩ := C.node Hnn.out
          try simp only at n0 n1 n2 n3 n4 n5 n6 n7 n8
          have hlt := C.blt.1
          have hW := blkAll hi f.ss tys C (b := b' + f.ps.length) (x := Q) (p := f.bp) (by rw [hl0]; omega) Ls hnB
          have HP : Hid (_ = _) := hP
          have HF : Hid _ := F
          have hg2 := C.good
          have Hg2 : Hid _ := hg2
          clear C hP F hg2 hpg hxs Lp ok2
          go_wp2_with fail
          refine hW.mono ?_
          rintro v w2 ⟨k2, h⟩
          clear hW
          cases hq : inB (ckSs X i (b' + f.ps.length) f.ss) s2 with
          | bad er po =>
            rw [hq] at h
            obtain ⟨rfl, h0, s', C⟩ := h
            have HQ : Hid (_ = _) := hq
            clear hq
            go_wp2_with fail
            go_ret
            exact CBx.bad (by rw [HE.out, HP.out, Rc.bind_ok, HQ.out]; rfl) (HF.out.trans k2 (fun _ _ h => h)) h0 C
          | ok u s3 =>
            rw [hq] at h
            obtain ⟨rfl, C3⟩ := h
            have HQ : Hid (_ = _) := hq
            have hU := undoC C3 0
            have hlv3 := (inB_ext (fun s x s' h => keepSs X i f.ss tys (b' + f.ps.length) s x s' h) hq).1.lvl
            have Hl3 : Hid (s3.lvl = 0) := hlv3.trans hl0
            clear hq C3 hlv3
            go_wp2_with fail
            refine hU.mono ?_
            rintro v w4 ⟨rfl, ⟨s4, C4, e1, e2, e3, e4, e5⟩, F4⟩
            have hB4 : Blank s4 := Blank.of C4.good (by rw [e1]; rfl) (e2.trans Hl3.out)
            have es : fresh0 s3 = s4 := by rw [← hB4.fresh]; unfold fresh0; rw [e3, e4, e5]
            have HX : Hid (CM w4 A X i s4 0 0 ∧ Blank s4 ∧ Fr (CS A) w w4 ∧ ckFs X 0 0 gs s = ckFs X (i + 1) (b' + szF f) r s4) := ⟨C4, hB4, (HF.out.trans k2 (fun _ _ h => h)).trans F4 (fun _ _ h => h), by rw [HE.out, HP.out, Rc.bind_ok, HQ.out, Rc.bind_ok, Rc.bind_ok, es]⟩
            clear C4 hB4 es e1 e2 e3 e4 e5 F4 k2
            go_wp2_with fail
            go_roundg r.length
            case measure => have := HR.out.2.2.2.1; omega
            case rel => exact ⟨i + 1, b' + szF f, r, s4, i, by simp, Nat.le_refl _, HR.out.1, HR.out.2.1, HR.out.2.2.1, HX.out.1, HX.out.2.1, HX.out.2.2.1, HX.out.2.2.2⟩
        | cons q ps =>
          obtain ⟨hnq, Lq⟩ := Lp.prm
          rw [show hdP x' (q :: ps) = (x' : Nat) from rfl]
          have z2 : decide ((x' : Int) ≥ 0) = true := decide_eq_true (by omega)
          obtain ⟨hxl, _⟩ := C.node hnq
          have hxi : (x' : Int) < A.ns.length := by omega
          have hM := mayDC C hnq
          simp only at hM
          have hP2 : ckP i b' f.ps s1 = (mayD q.s q.t q.p s2).bind fun _ s => ckP i (x' + 1) ps (decl i x' q.s q.t s) := by rw [hP]; simp only [ckP]
          have HP : Hid (_ = _) := hP2
          have oq := ok2 q (List.mem_cons_self ..)
          simp only [List.length_cons] at hpg hxs
          have HS : Hid (ps.length + 1 ≤ gk ∧ x' + (ps.length + 1) = b' + f.ps.length ∧ s2.lvl = 0) := ⟨hpg, hxs, hl0⟩
          have HL : Hid (Lie A.ns (x' + 1) (flP (x' + 1) ps) ∧ ∀ x ∈ ps, OkP x) := ⟨Lq, fun x hx => ok2 x (List.mem_cons_of_mem _ hx)⟩
          have HF : Hid _ := F
          clear C hP hP2 F ok2 hpg hxs hl0 Lq Lp
          go_wp2_with fail
          refine hM.mono ?_
          rintro v w2 ⟨k2, h⟩
          clear hM
          cases hq : mayD q.s q.t q.p s2 with
          | bad er po =>
            rw [hq] at h
            obtain ⟨rfl, h0, s', C⟩ := h
            have HQ : Hid (_ = _) := hq
            clear hq
            go_wp2_with fail
            go_ret
            exact CBx.bad (by rw [HE.out, HP.out, HQ.out]; rfl) (HF.out.trans k2 (fun _ _ h => h)) h0 C
          | ok u s3 =>
            rw [hq] at h
            obtain ⟨rfl, C3⟩ := h
            obtain ⟨rfl, _⟩ := mayD_eq hq
            have hD := declC C3 hnq hq oq hi
            simp only at hD
            have HQ : Hid (_ = _) := hq
            clear hq C3
            go_wp2_with fail
            refine hD.mono ?_
            rintro v w3 ⟨rfl, C4, k3⟩
            clear hD
            obtain ⟨_, hnb, r415, n0, n1, n2, n3, n4, n5, n6, n7, n8⟩ := C4.node hnq
            try simp only at n0 n1 n2 n3 n4 n5 n6 n7 n8
            have hlt := C4.blt.1
            have hlv := (Ext.decl i x' q.s q.t s3).lvl
            have HX : Hid (CM w3 A X i (decl i x' q.s q.t s3) 0 0 ∧ (decl i x' q.s q.t s3).lvl = s3.lvl ∧ Fr (CS A) w w3) := ⟨C4, hlv, (HF.out.trans k2 (fun _ _ h => h)).trans k3 (fun _ _ h => h)⟩
            clear C4 hlv k2 k3
            go_wp2_with fail
            go_roundg ps.length
            case measure => have := HS.out; omega
            case rel => exact ⟨x' + 1, ps, decl i x' q.s q.t s3, rfl, Nat.le_refl _, by have := HS.out; omega, HL.out.1, HL.out.2, by rw [HX.out.2.1]; exact HS.out.2.2, HX.out.1, HX.out.2.2, by rw [HP.out, HQ.out, Rc.bind_ok]⟩
end
end Go.Proofs.Qxb6500277aGreat
