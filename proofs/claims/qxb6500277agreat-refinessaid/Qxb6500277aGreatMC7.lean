/- The model checker: calls. -/
import Derived.Test.Qxb6500277aGreatMC4
namespace Go.Proofs.Qxb6500277aGreat
open Go Go.RowKit

section
variable {w w' : World} {B : Nat} {A : Ma} {X : Cx} {cur : Nat} {s : Ck} {er po : Int} {fv vv : Value} {n : Nat}
/-- The parameters of each function lie in a chain of nodes. -/
def PCh (X : Cx) (ns : List Nd) : Prop := ∀ f, f < X.fs.length → ∃ (J : Nat) (nd : Nd) (bP : Nat) (ps : List Prm), (fAt X.fs f).node = (J : Nat) ∧ ns[J]? = some nd ∧ nd.a = hdP bP ps ∧ Lie ns bP (flP bP ps) ∧ pAt X.pt f = ps.map (·.t)
theorem Tys.head {b : Nat} {ty : List Int} {e : Exp} {es : Exps} {ts : List (Int × Int)} (h : Tys b ty (.cons e es) ts) : ∃ t r, ts = (t, poE e) :: r ∧ ty[b + szE e - 1]? = some t ∧ Tys (b + szE e) ty es r := h
theorem iL_at {l : List Int} {k : Nat} {t : Int} (h : l[k]? = some t) : iL l k = .int .i64 t := by unfold iL; simp [List.getD_eq_getElem?_getD, h]
set_option maxRecDepth 100000 in
set_option maxHeartbeats 16000000 in
theorem em_call (I : ExM B A X cur n fv vv) (hPC : PCh X A.ns) (H : MXc w B A X cur s 0 0 fv vv) {b : Nat} {nx x : Int} {nm : ByteArray} {p : Int} {gs : Exps} (L : Lie A.ns b (flE b nx (.call nm p gs))) (tg : TyEs gs) (hsz : szEs gs ≤ n) (hx : x = rtE b (.call nm p gs)) : Calls Tryz.prog 177 #[.pointer (some ⟨A.m, 0, none⟩), .int .i64 x] w (EMP w B A X cur s fv vv (ckE X b (.call nm p gs) s)) := by
  obtain ⟨K, hK⟩ : ∃ K, K = b + szEs gs := ⟨_, rfl⟩
  obtain rfl : x = ((K : Nat) : Int) := by rw [hx, hK]; simp [rtE, szE]; try omega
  obtain ⟨L1, hn⟩ := L.call
  rw [← hK] at hn
  have hr := ckE_call (X := X) b nm p gs s
  rw [← hK] at hr
  have Hr : Hid (_ = _) := hr
  obtain ⟨-, r1, r2, r3, r4, r5, r6, r7, r8, r9, r10, hz, hlt, hltt, hltr⟩ := H.regs
  obtain ⟨hk, hnb, r0, n0, n1, n2, n3, n4, n5, n6, n7⟩ := H.node hn
  try simp only at n0 n1 n2 n3 n4 n5 n6 n7
  have ty0 := H.tyb.cell (o := K) hk
  have tyz := H.tyb.frozen
  have rf0 := H.rfb.cell (o := K) hk
  have rfz := H.rfb.frozen
  have h200 := H.le
  have hkl : ((K : Nat) : Int) < A.ns.length := by omega
  have hK0 : ((K : Nat) : Int) ≥ 0 := by omega
  have BX := boxN_blk w ⟨13, hdE b gs, -1, -1, nx, 0, p, nm⟩
  have FX := (Fr.refl (fun _ => False) w).alloc (boxN ⟨13, hdE b gs, -1, -1, nx, 0, p, nm⟩)
  have HA := H.same FX
  have HHA : Hid (MXc (w.alloc (boxN ⟨13, hdE b gs, -1, -1, nx, 0, p, nm⟩)) B A X cur s 0 0 fv vv ∧ Blk (w.alloc (boxN ⟨13, hdE b gs, -1, -1, nx, 0, p, nm⟩)) w.heap.size 8 (ndCell ⟨13, hdE b gs, -1, -1, nx, 0, p, nm⟩) ∧ Fr (fun _ => False) w (w.alloc (boxN ⟨13, hdE b gs, -1, -1, nx, 0, p, nm⟩))) := ⟨HA, BX, FX⟩
  have Hnew : Hid (∀ d, w.heap.size ≤ d → ¬ MSc A fv vv d) := H.new
  clear BX FX HA
  have HK : Hid _ := hK
  clear hr L hx hK
  have L1le := L1.le
  rw [flEs_len] at L1le
  have hF := fnM HHA.out.1 nm
  have hcr : callR X b nm p gs s = match fndF nm X.fs with | none => .bad 16 p | some f => (ckEs X b gs s).bind fun ts s => if ts.length ≠ (pAt X.pt f).length then .bad 18 p else match oddA ts (pAt X.pt f) with | some q => .bad 17 q | none => .ok (fAt X.fs f).ret (refer K f s) := by
    rw [HK.out]; unfold callR
    cases fndF nm X.fs <;> rfl
  have Hcr : Hid (_ = _) := hcr
  have hx8 := H.xok.le
  have HH : Hid (MXc w B A X cur s 0 0 fv vv) := H
  clear H hcr
  go_enter Tryz.func177, Tryz.ntmps177
  go_wp2_with fail
  refine hF.mono ?_
  rintro v w1 ⟨rfl, F1⟩
  clear hF
  clear r1 r2 r3 r4 r5 r6 r7 r8 r9 r10 hz hlt hltt hltr hnb r0 n0 n1 n2 n3 n4 n5 n6 n7 ty0 tyz rf0 rfz
  obtain ⟨HA0, BX0, FX0⟩ := HHA.out
  have M1 := HA0.same F1
  have BX1 := BX0.frame F1 (fun h => h)
  have b1 := BX1.cell (o := 1) (by omega)
  have b6 := BX1.cell (o := 6) (by omega)
  simp only [ndCell] at b1 b6
  have bl := BX1.lt
  have F01 : Fr (fun _ => False) w w1 := FX0.trans F1 (fun _ _ h => h)
  cases hf : fndF nm X.fs with
  | none =>
    rw [hf] at Hcr
    rw [show oi none = -1 from rfl]
    have hN := failM_live M1 16 p
    have HF01 : Hid _ := F01
    clear hf M1 BX1 BX0 HA0 FX0 F1 F01
    go_wp2_with fail
    refine hN.mono ?_
    rintro v w3 ⟨rfl, C3, k3⟩
    go_wp2_with fail
    go_ret
    exact (EMP.bad (by rw [Hr.out, Hcr.out]; rfl) k3 (by decide) C3 (Kp.refl s)).pre HF01.out
  | some f =>
    rw [hf] at Hcr
    have hfl : f < X.fs.length := (lst_some hf).1
    have hf8 : f < 8 := by omega
    rw [show oi (some f) = (f : Int) from rfl]
    have z1 : decide ((f : Int) < 0) = false := decide_eq_false (by omega)
    obtain ⟨q4, qi, qr⟩ := HH.out.xok.p4 f hfl
    have hcnt := cIR (pAt X.pt f)
    have hpp : (fAt X.fs f).pi + (fAt X.fs f).pr = (pAt X.pt f).length := by omega
    obtain ⟨JF, ndF, bP, ps, hJF, hnF, hnA, LP, hpl⟩ := hPC f hfl
    have hps : (pAt X.pt f).length = ps.length := by rw [hpl]; simp
    have Hpp : Hid ((fAt X.fs f).pi + (fAt X.fs f).pr = ps.length) := by show _ = _; omega
    have hps4 : ps.length ≤ 4 := by omega
    have Hcr2 : Hid (callR X b nm p gs s = (ckEs X b gs s).bind fun ts s => if ts.length ≠ (ps.map (·.t)).length then .bad 18 p else match oddA ts (ps.map (·.t)) with | some q => .bad 17 q | none => .ok (fAt X.fs f).ret (refer K f s)) := by show _ = _; rw [Hcr.out, ← hpl]
    have HW1 : Hid (MXc w1 B A X cur s 0 0 fv vv ∧ Blk w1 w.heap.size 8 (ndCell ⟨13, hdE b gs, -1, -1, nx, 0, p, nm⟩) ∧ Fr (fun _ => False) w w1) := ⟨M1, BX1, F01⟩
    clear hf M1 BX1 BX0 HA0 FX0 F1 F01 qi qr hcnt hpp hps hpl q4
    go_wp2_with fail
    clear b1 b6 bl
    go_loopg [10, 9] (szEs gs) (fun g av kv wr => ∃ (b' : Nat) (es : Exps) (k : Nat), av = .int .i64 (hdE b' es) ∧ kv = .int .i64 k ∧ Lie A.ns b' (flEs b' es) ∧ TyEs es ∧ szEs es ≤ g ∧ szEs es ≤ n ∧ k + szEs es ≤ szEs gs ∧ Fr (MSc A fv vv) w1 wr ∧
      ((∃ (ts : List (Int × Int)) (s1 : Ck), k = ts.length ∧ MXc wr B A X cur s1 0 0 fv vv ∧ Kp s s1 ∧ ckEs X b gs s = (ckEs X b' es s1).bind fun us s => .ok (ts ++ us) s) ∨ ∃ er po s1, er ≠ 0 ∧ MXc wr B A X cur s1 er po fv vv ∧ Kp s s1 ∧ ckEs X b gs s = .bad er po))
    case atStart => exact ⟨b, gs, 0, rfl, rfl, L1, tg, Nat.le_refl _, hsz, by omega, Fr.refl _ _, .inl ⟨[], s, rfl, HW1.out.1, Kp.refl s, ckEs_start X b gs s⟩⟩
    case round =>
      obtain ⟨b', es, k, rfl, rfl, L, te, hg, hsn, hts, F, hst⟩ := hrel
      obtain ⟨M10, BX10, F10⟩ := HW1.out
      have BXr := BX10.frame F (Hnew.out _ (Nat.le_refl _))
      have b1 := BXr.cell (o := 1) (by omega)
      have b6 := BXr.cell (o := 6) (by omega)
      simp only [ndCell] at b1 b6
      have bl := BXr.lt
      have k200 : (k : Int) ≤ 200 := by omega
      cases es with
      | nil =>
        rw [show hdE b' .nil = -1 from rfl]
        have z2 : decide ((-1 : Int) ≥ 0) = false := by decide
        rcases hst with ⟨ts, s1, hkt, M, hke, hE⟩ | ⟨er, po, s1, h0, M, kp, hE⟩
        · have hE := ckEs_end hE
          have hks := keepEs X gs b s ts s1 hE
          have hty : Tys b s1.ty gs ts := hks.2 (by rw [HH.out.tyl]; omega)
          have HE : Hid (_ = _) := hE
          have HTY : Hid _ := hty
          have HKE : Hid _ := hke
          have Hkt : Hid _ := hkt
          obtain ⟨fb, cap, efv, hfb, ibf, c0, c1, c2, c3, c4, c5, c6, cz⟩ := M.func hfl
          rw [hJF] at c0
          obtain ⟨jk, jb, j0, j1, j2, j3, j4, j5, j6, j7, j8⟩ := M.node hnF
          rw [hnA] at j2
          have hJi : (JF : Int) < A.ns.length := by omega
          have hfi : (f : Int) < (X.fs.length : Nat) := by omega
          obtain ⟨-, d1, d2, d3, d4, d5, d6, d7, d8, d9, d10, dz, dl, dlt, dlr⟩ := M.regs
          rw [efv] at d3
          have Hefv : Hid _ := efv
          clear efv
          have hpi4 : (fAt X.fs f).pi ≤ 4 := by have := Hpp.out; omega
          have hpr4 : (fAt X.fs f).pr ≤ 4 := by have := Hpp.out; omega
          clear hE hty hks hkt hke
          by_cases hl : ts.length = ps.length
          · have y1 : ((k : Int) != ((fAt X.fs f).pi : Int) + ((fAt X.fs f).pr : Int)) = false := by
              have h1 := Hpp.out; have h2 := Hkt.out
              simp; omega
            have y2 : ((k : Int) == ((fAt X.fs f).pi : Int) + ((fAt X.fs f).pr : Int)) = true := by
              have h1 := Hpp.out; have h2 := Hkt.out
              simp; omega
            have Hl : Hid _ := hl
            have HM : Hid _ := And.intro M (And.intro F F10)
            clear M F BXr L te hg hsn hts M10 BX10 F10 hl
            go_wp2_with fail
            refine wp_region_text (by kernel_rfl) (by kernel_rfl) ?_
            go_wp2_with fail
            refine ⟨by kernel_rfl, ?_⟩
            go_wp2_with fail
            go_quiet (fail)
            go_wp2_with fail
            generalize hw3 : World.drewN _ _ = w3
            have HM3 : Hid (MXc w3 B A X cur s1 0 0 fv vv ∧ Fr (MSc A fv vv) w1 w3 ∧ Fr (fun _ => False) w w1) := by
              rw [← hw3]
              exact ⟨HM.out.1.same ((Fr.refl _ _).drewN _), HM.out.2.1.drewN _, HM.out.2.2⟩
            clear HM hw3 d1 d2 d3 d4 d5 d6 d7 d8 d9 d10 dz dl dlt dlr c0 c1 c2 c3 c4 c5 c6 cz jb j0 j1 j2 j3 j4 j5 j6 j7 j8 b1 b6 bl hfb y1 y2
            go_loopg [12, 11] (szEs gs) (fun g av qv wq => (∃ (b2 : Nat) (es2 : Exps) (x2 : Nat) (ps2 : List Prm) (ts2 : List (Int × Int)), av = .int .i64 (hdE b2 es2) ∧ qv = .int .i64 (hdP x2 ps2) ∧ Lie A.ns b2 (flEs b2 es2) ∧ Lie A.ns x2 (flP x2 ps2) ∧ Tys b2 s1.ty es2 ts2 ∧ ts2.length = ps2.length ∧ oddA ts (ps.map (·.t)) = oddA ts2 (ps2.map (·.t)) ∧ szEs es2 ≤ g ∧ MXc wq B A X cur s1 0 0 fv vv ∧ Fr (MSc A fv vv) w1 wq) ∨
              ∃ (a0 q0 po : Int), av = .int .i64 a0 ∧ qv = .int .i64 q0 ∧ MXc wq B A X cur s1 17 po fv vv ∧ oddA ts (ps.map (·.t)) = some po ∧ Fr (MSc A fv vv) w1 wq)
            case atStart => exact .inl ⟨b, gs, bP, ps, ts, rfl, rfl, L1, LP, HTY.out, Hl.out, rfl, Nat.le_refl _, HM3.out.1, HM3.out.2.1⟩
            case round =>
              have F01 := HM3.out.2.2
              have HF01 : Hid (Fr (fun _ => False) w w1) := F01
              clear F01 HM3
              rcases hrel with ⟨b2, es2, x2, ps2, ts2, rfl, rfl, L2, LP2, hT, hlen, hodd, hg2, M, F⟩ | ⟨a0, q0, po, rfl, rfl, M, hodd, F⟩
              · obtain ⟨-, d1, d2, d3, d4, d5, d6, d7, d8, d9, d10, dz, dl, dlt, dlr⟩ := M.regs
                rw [Hefv.out] at d3
                cases es2 with
                | nil =>
                  have ht2 : ts2 = [] := hT
                  subst ht2
                  have hp2 : ps2 = [] := List.length_eq_zero_iff.1 (by simpa using hlen.symm)
                  subst hp2
                  rw [show hdE b2 .nil = -1 from rfl]
                  have z5 : decide ((-1 : Int) ≥ 0) = false := by decide
                  have HRES : Hid (callR X b nm p gs s = .ok (fAt X.fs f).ret (refer K f s1)) := by
                    show _ = _
                    rw [Hcr2.out, HE.out, Rc.bind_ok, if_neg (by rw [List.length_map]; exact fun h => h Hl.out), hodd]; rfl
                  obtain ⟨fb', cap', efv', hfb', ibf', c0, c1, c2, c3, c4, c5, c6, cz⟩ := M.func hfl
                  have e9 := Hefv.out.symm.trans efv'
                  injection e9 with e9 _ e10
                  injection e9 with e9
                  injection e9 with e9
                  subst e9 e10
                  have rf1 := M.rfb.cell (o := K) hk
                  have rfz1 := M.rfb.frozen
                  have ty1 := M.tyb.cell (o := K) hk
                  have tyz1 := M.tyb.frozen
                  obtain ⟨x1', x2', x3', x4', x5', x6'⟩ := M.dis
                  have HN : Hid (_ ∧ _) := ⟨((M.refer K f).1.note K (fAt X.fs f).ret).1, (F.trans (M.refer K f).2 (fun _ _ h => h)).trans ((M.refer K f).1.note K (fAt X.fs f).ret).2 (fun _ _ h => h)⟩
                  clear M F hT hlen hodd hg2 L2 LP2 efv'
                  go_wp2_with fail
                  go_ret
                  exact (EMP.ok (by rw [Hr.out, HRES.out]; rfl) HN.out.2 HN.out.1).pre HF01.out
                | cons e es =>
                  obtain ⟨t, r, ht2, htj, hT2⟩ := hT.head
                  subst ht2
                  obtain ⟨q0, ps3, hq3⟩ : ∃ q0 ps3, ps2 = q0 :: ps3 := by
                    cases ps2 with
                    | nil => simp at hlen
                    | cons a b => exact ⟨a, b, rfl⟩
                  subst hq3
                  obtain ⟨La, Lb⟩ := L2.args
                  obtain ⟨hnq, Lq⟩ := LP2.prm
                  simp only [szEs] at hg2
                  have hp := szE_pos e
                  obtain ⟨nd1, hn1, _, hn3, hn4⟩ := La.root
                  obtain ⟨J, hJ⟩ : ∃ J, J = b2 + szE e - 1 := ⟨_, rfl⟩
                  rw [← hJ] at hn1 htj
                  rw [show hdE b2 (.cons e es) = rtE b2 e from rfl, show hdP x2 (q0 :: ps3) = (x2 : Nat) from rfl]
                  rw [rtE_nat, ← hJ]
                  have z5 : decide ((J : Int) ≥ 0) = true := decide_eq_true (by omega)
                  obtain ⟨jk, jb, j0, j1, j2, j3, j4, j5, j6, j7, j8⟩ := M.node hn1
                  obtain ⟨ik, ib, i0, i1, i2, i3, i4, i5, i6, i7, i8⟩ := M.node hnq
                  try simp only at i1 i2 i3 i4 i5 i6 i7 i8
                  rw [hn4] at j5
                  rw [hn3] at j7
                  have tyJ := M.tyb.cell (o := J) jk
                  rw [iL_at htj] at tyJ
                  have hJi2 : (J : Int) < A.ns.length := by omega
                  have hXi2 : (x2 : Int) < A.ns.length := by omega
                  have HS : Hid (szE e + szEs es ≤ gk ∧ 0 < szE e) := ⟨hg2, hp⟩
                  have HL : Hid (Lie A.ns (b2 + szE e) (flEs (b2 + szE e) es) ∧ Lie A.ns (x2 + 1) (flP (x2 + 1) ps3) ∧ Tys (b2 + szE e) s1.ty es r ∧ r.length = ps3.length) := ⟨Lb, Lq, hT2, by simpa using hlen⟩
                  have HMF : Hid _ := And.intro M F
                  by_cases htt : t = q0.t
                  · have Hod : Hid (oddA ts (ps.map (·.t)) = oddA r (ps3.map (·.t))) := by show _ = _; rw [hodd]; simp only [List.map_cons, oddA]; rw [if_pos htt]
                    subst htt
                    clear M F hT hT2 hlen hodd hg2 hp L2 LP2 La Lb Lq hJ htj
                    go_wp2_with fail
                    go_quiet (fail)
                    go_wp2_with fail
                    go_roundg (szEs es)
                    case measure => have := HS.out; omega
                    case rel => exact .inl ⟨b2 + szE e, es, x2 + 1, ps3, r, rfl, rfl, HL.out.1, HL.out.2.1, HL.out.2.2.1, HL.out.2.2.2, Hod.out, Nat.le_refl _, HMF.out.1.same ((Fr.refl _ _).drewN _), HMF.out.2.drewN _⟩
                  · have Hod : Hid (oddA ts (ps.map (·.t)) = some (poE e)) := by show _ = _; rw [hodd]; simp only [List.map_cons, oddA]; rw [if_neg htt]
                    have y3 : (t != q0.t) = true := by simpa using htt
                    have y4 : (t == q0.t) = false := by simpa using htt
                    clear M F hT hT2 hlen hodd hg2 hp L2 LP2 La Lb Lq hJ htj htt
                    go_wp2_with fail
                    go_quiet (fail)
                    go_wp2_with fail
                    generalize hw5 : World.drewN _ _ = w5
                    have M5 : MXc w5 B A X cur s1 0 0 fv vv := by rw [← hw5]; exact HMF.out.1.same ((Fr.refl _ _).drewN _)
                    have F5 : Fr (MSc A fv vv) w1 w5 := by rw [← hw5]; exact HMF.out.2.drewN _
                    refine (failM_live M5 17 (poE e)).mono ?_
                    rintro v w6 ⟨rfl, C6, k6⟩
                    obtain ⟨jk', jb', j0', j1', j2', j3', j4', j5', j6', j7', j8'⟩ := C6.node hn1
                    obtain ⟨ik', ib', i0', i1', i2', i3', i4', i5', i6', i7', i8'⟩ := C6.node hnq
                    try simp only at i1' i2' i3' i4' i5' i6' i7' i8'
                    have dl' := C6.blk.lt
                    have HC6 : Hid _ := And.intro C6 (F5.trans k6 (fun _ _ h => h))
                    clear C6 k6 M5 F5 hw5 j0 j1 j2 j3 j4 j5 j6 j7 j8 i0 i1 i2 i3 i4 i5 i6 i7 i8 d1 d2 d3 d4 d5 d6 d7 d8 d9 d10 dz dl dlt dlr jb ib tyJ
                    go_wp2_with fail
                    go_roundg 0
                    case measure => have := HS.out; omega
                    case rel => exact .inr ⟨_, _, poE e, rfl, rfl, HC6.out.1, Hod.out, HC6.out.2⟩
              · obtain ⟨fb', cap', efv', hfb', ibf', c0, c1, c2, c3, c4, c5, c6, cz⟩ := M.func hfl
                have e9 := Hefv.out.symm.trans efv'
                injection e9 with e9 _ e10
                injection e9 with e9
                injection e9 with e9
                subst e9 e10
                obtain ⟨-, d1, d2, d3, d4, d5, d6, d7, d8, d9, d10, dz, dl, dlt, dlr⟩ := M.regs
                rw [Hefv.out] at d3
                have rf1 := M.rfb.cell (o := K) hk
                have rfz1 := M.rfb.frozen
                obtain ⟨x1', x2', x3', x4', x5', x6'⟩ := M.dis
                have HRES : Hid (callR X b nm p gs s = .bad 17 po) := by
                  show _ = _
                  rw [Hcr2.out, HE.out, Rc.bind_ok, if_neg (by rw [List.length_map]; exact fun h => h Hl.out), hodd]
                have HN : Hid (_ ∧ _) := ⟨M.setRf K f, F.trans ((Fr.refl (MSc A fv vv) _).setC A.rb K (.int .i64 f) (fun _ => .inr (.inr (.inl rfl)))) (fun _ _ h => h)⟩
                clear M F hodd efv'
                by_cases ha : a0 ≥ 0
                · have za : decide (a0 ≥ 0) = true := decide_eq_true ha
                  clear ha
                  go_wp2_with fail
                  go_ret
                  exact (EMP.bad (by rw [Hr.out, HRES.out]; rfl) HN.out.2 (by decide) HN.out.1 (HKE.out.trans ⟨rfl, rfl, rfl, rfl, rfl, rfl, by simp⟩)).pre HF01.out
                · have za : decide (a0 ≥ 0) = false := decide_eq_false ha
                  clear ha
                  go_wp2_with fail
                  go_ret
                  exact (EMP.bad (by rw [Hr.out, HRES.out]; rfl) HN.out.2 (by decide) HN.out.1 (HKE.out.trans ⟨rfl, rfl, rfl, rfl, rfl, rfl, by simp⟩)).pre HF01.out
          · have y1 : ((k : Int) != ((fAt X.fs f).pi : Int) + ((fAt X.fs f).pr : Int)) = true := by
              have h1 := Hpp.out; have h2 := Hkt.out
              simp; omega
            have y2 : ((k : Int) == ((fAt X.fs f).pi : Int) + ((fAt X.fs f).pr : Int)) = false := by
              have h1 := Hpp.out; have h2 := Hkt.out
              simp; omega
            have Hl : Hid _ := hl
            have hN := failM_live (M.same ((Fr.refl _ _).drew)) 18 p
            have HF : Hid _ := And.intro F F10
            clear M F BXr L te hg hsn hts M10 BX10 F10 hl
            go_wp2_with fail
            refine wp_region_text (by kernel_rfl) (by kernel_rfl) ?_
            go_wp2_with fail
            refine ⟨by kernel_rfl, ?_⟩
            go_wp2_with fail
            refine hN.mono ?_
            rintro v w3 ⟨rfl, C3, k3⟩
            go_wp2_with fail
            go_ret
            exact (EMP.bad (by rw [Hr.out, Hcr2.out, HE.out, Rc.bind_ok, if_pos (by rw [List.length_map]; exact Hl.out)]; rfl) ((HF.out.1.drew).trans k3 (fun _ _ h => h)) (by decide) C3 HKE.out).pre HF.out.2
        · have HD : Hid (er ≠ 0 ∧ Kp s s1 ∧ ckEs X b gs s = .bad er po) := ⟨h0, kp, hE⟩
          obtain ⟨fb, cap, efv, hfb, ibf, c0, c1, c2, c3, c4, c5, c6, cz⟩ := M.func hfl
          rw [hJF] at c0
          obtain ⟨jk, jb, j0, j1, j2, j3, j4, j5, j6, j7, j8⟩ := M.node hnF
          rw [hnA] at j2
          have hJi : (JF : Int) < A.ns.length := by omega
          have hfi : (f : Int) < (X.fs.length : Nat) := by omega
          obtain ⟨-, d1, d2, d3, d4, d5, d6, d7, d8, d9, d10, dz, dl, dlt, dlr⟩ := M.regs
          rw [efv] at d3
          have y0 : (er != 0) = true := by simpa using h0
          have y1 : (er == 0) = false := by simpa using h0
          have rf1 := M.rfb.cell (o := K) hk
          have rfz1 := M.rfb.frozen
          obtain ⟨e1, e2, e3, e4, e5, e6⟩ := M.dis
          obtain ⟨v1, v2, v3, v4, v5, v6⟩ := M.fd fb ibf
          have HM : Hid _ := And.intro M (And.intro F F10)
          have HRF : Hid (∀ (wz : World), MXc wz B A X cur s1 er po fv vv → MXc (wz.setCell ⟨A.rb, K, none⟩ (.int .i64 f)) B A X cur { s1 with rf := s1.rf.set K f } er po fv vv ∧ Fr (MSc A fv vv) wz (wz.setCell ⟨A.rb, K, none⟩ (.int .i64 f))) := fun wz Mz => ⟨Mz.setRf K f, (Fr.refl (MSc A fv vv) wz).setC A.rb K _ (fun _ => .inr (.inr (.inl rfl)))⟩
          clear M F BXr hE h0 kp L te hg hsn hts M10 BX10 F10
          by_cases ha : hdE b gs ≥ 0
          · have za : decide (hdE b gs ≥ 0) = true := decide_eq_true ha
            clear ha
            go_wp2_with fail
            refine wp_region_text (by kernel_rfl) (by kernel_rfl) ?_
            go_wp2_with fail
            refine ⟨by kernel_rfl, ?_⟩
            go_wp2_with fail
            go_quiet (fail)
            go_wp2_with fail
            refine wp_loop_rounds 1 ?_
            rw [rounds_succ]
            go_wp2_with fail
            go_ret
            exact (EMP.bad (by rw [Hr.out, Hcr2.out, HD.out.2.2]; rfl) (((HM.out.2.1.drewN _).trans (HRF.out _ (HM.out.1.same ((Fr.refl _ _).drewN _))).2 (fun _ _ h => h))) HD.out.1 (HRF.out _ (HM.out.1.same ((Fr.refl _ _).drewN _))).1 (HD.out.2.1.trans ⟨rfl, rfl, rfl, rfl, rfl, rfl, by simp⟩)).pre HM.out.2.2
          · have za : decide (hdE b gs ≥ 0) = false := decide_eq_false ha
            clear ha
            go_wp2_with fail
            refine wp_region_text (by kernel_rfl) (by kernel_rfl) ?_
            go_wp2_with fail
            refine ⟨by kernel_rfl, ?_⟩
            go_wp2_with fail
            go_quiet (fail)
            go_wp2_with fail
            refine wp_loop_rounds 1 ?_
            rw [rounds_succ]
            go_wp2_with fail
            go_ret
            exact (EMP.bad (by rw [Hr.out, Hcr2.out, HD.out.2.2]; rfl) (((HM.out.2.1.drewN _).trans (HRF.out _ (HM.out.1.same ((Fr.refl _ _).drewN _))).2 (fun _ _ h => h))) HD.out.1 (HRF.out _ (HM.out.1.same ((Fr.refl _ _).drewN _))).1 (HD.out.2.1.trans ⟨rfl, rfl, rfl, rfl, rfl, rfl, by simp⟩)).pre HM.out.2.2
      | cons e es =>
        obtain ⟨La, Lb⟩ := L.args
        simp only [TyEs] at te
        simp only [szEs] at hg hsn hts
        have hp := szE_pos e
        obtain ⟨nd1, hn1, _, _, hn4⟩ := La.root
        obtain ⟨J, hJ⟩ : ∃ J, J = b' + szE e - 1 := ⟨_, rfl⟩
        rw [show hdE b' (.cons e es) = rtE b' e from rfl]
        have ert : rtE b' e = (J : Nat) := by rw [rtE_nat, hJ]
        rw [← hJ] at hn1
        have z2 : decide ((J : Int) ≥ 0) = true := decide_eq_true (by omega)
        have HS : Hid (szE e + szEs es ≤ gk ∧ szE e + szEs es ≤ n ∧ k + (szE e + szEs es) ≤ szEs gs ∧ 0 < szE e) := ⟨hg, hsn, hts, hp⟩
        have HL : Hid (_ ∧ _) := ⟨Lb, te.2⟩
        have HF : Hid _ := F
        rcases hst with ⟨ts, s1, hkt, M, hke, hE⟩ | ⟨er, po, s1, h0, M, kp, hE⟩
        · obtain ⟨hb1, hb2⟩ := ckEs_step hE
          have Hkt : Hid _ := hkt
          clear hkt
          have hX := I e (by omega) te.1 wr s1 b' (hdE (b' + szE e) es) (rtE b' e) M La rfl
          have hkp2 := keepE X e b' s1
          rw [ert] at hX ⊢
          clear hJ ert BXr M hE
          go_wp2_with fail
          refine hX.mono ?_
          rintro v w2 ⟨k2, h⟩
          clear hX b1 b6 bl
          have k12 := HF.out.trans k2 (fun _ _ h => h)
          cases hq : ckE X b' e s1 with
          | bad er po =>
            rw [hq] at h
            obtain ⟨rfl, h0, s2, C2, kp2⟩ := h
            obtain ⟨jk, jb, j0, j1, j2, j3, j4, j5, j6, j7, j8⟩ := C2.node hn1
            rw [hn4] at j5
            have hJi : (J : Int) < A.ns.length := by omega
            have dl := C2.blk.lt
            have HD : Hid (er ≠ 0 ∧ MXc w2 B A X cur s2 er po fv vv ∧ Kp s s2 ∧ ckEs X b gs s = .bad er po) := ⟨h0, C2, hke.trans kp2, hb1 _ _ hq⟩
            have HF2 : Hid _ := k12
            clear C2 hq hb1 hb2 k12 k2 hke kp2 hkp2 F La Lb te hg hsn hts hp h0
            go_wp2_with fail
            go_roundg (szEs es)
            case measure => have := HS.out; omega
            case rel => exact ⟨b' + szE e, es, k + 1, rfl, by simp, HL.out.1, HL.out.2, Nat.le_refl _, by have := HS.out; omega, by have := HS.out; omega, HF2.out, .inr ⟨er, po, s2, HD.out⟩⟩
          | ok t s2 =>
            rw [hq] at h
            obtain ⟨rfl, C2⟩ := h
            obtain ⟨jk, jb, j0, j1, j2, j3, j4, j5, j6, j7, j8⟩ := C2.node hn1
            rw [hn4] at j5
            have hJi : (J : Int) < A.ns.length := by omega
            have dl := C2.blk.lt
            have HD : Hid (MXc w2 B A X cur s2 0 0 fv vv ∧ k + 1 = (ts ++ [(t, poE e)]).length ∧ Kp s s2 ∧ ckEs X b gs s = (ckEs X (b' + szE e) es s2).bind fun us s => .ok ((ts ++ [(t, poE e)]) ++ us) s) := ⟨C2, by simp [Hkt.out], hke.trans (hkp2 t s2 hq).1.k, hb2 _ _ hq⟩
            have HF2 : Hid _ := k12
            clear C2 hq hb1 hb2 k12 k2 hke hkp2 F La Lb te hg hsn hts hp
            go_wp2_with fail
            go_roundg (szEs es)
            case measure => have := HS.out; omega
            case rel => exact ⟨b' + szE e, es, k + 1, rfl, by simp, HL.out.1, HL.out.2, Nat.le_refl _, by have := HS.out; omega, by have := HS.out; omega, HF2.out, .inl ⟨ts ++ [(t, poE e)], s2, HD.out.2.1, HD.out.1, HD.out.2.2.1, HD.out.2.2.2⟩⟩
        · have hX := exprM_dead M h0 (rtE b' e)
          obtain ⟨jk, jb, j0, j1, j2, j3, j4, j5, j6, j7, j8⟩ := M.node hn1
          rw [hn4] at j5
          have hJi : (J : Int) < A.ns.length := by omega
          have dl := M.blk.lt
          rw [ert] at hX ⊢
          have HD : Hid (er ≠ 0 ∧ MXc wr B A X cur s1 er po fv vv ∧ Kp s s1 ∧ ckEs X b gs s = .bad er po) := ⟨h0, M, kp, hE⟩
          clear hJ ert BXr M hE h0 kp F La Lb te hg hsn hts hp
          go_wp2_with fail
          refine hX.mono ?_
          rintro v w2 ⟨rfl, rfl⟩
          clear hX
          go_wp2_with fail
          go_roundg (szEs es)
          case measure => have := HS.out; omega
          case rel => exact ⟨b' + szE e, es, k + 1, rfl, by simp, HL.out.1, HL.out.2, Nat.le_refl _, by have := HS.out; omega, by have := HS.out; omega, HF.out, .inr ⟨er, po, s1, HD.out⟩⟩
end
end Go.Proofs.Qxb6500277aGreat
