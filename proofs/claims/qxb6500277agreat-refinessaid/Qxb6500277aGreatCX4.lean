/- The real checker: calls. -/
import Derived.Test.Qxb6500277aGreatCX2
namespace Go.Proofs.Qxb6500277aGreat
open Go Go.RowKit

section
variable {w w' : World} {A : Ca} {X : Cx} {cur : Nat} {s : Ck} {er po : Int} {n : Nat}
/-- The first odd argument, as the walk holds it. -/
def OddI (ns : List Nd) (ts : List (Int × Int)) (us : List Int) (v : Int) : Prop := (oddA ts us = none ∧ v = -1) ∨ ∃ (j : Nat) (nd : Nd), v = (j : Nat) ∧ ns[j]? = some nd ∧ oddA ts us = some nd.pos
theorem OddI.keep {ns : List Nd} {ts : List (Int × Int)} {us : List Int} {v t p : Int} (h : OddI ns ts us v) (hc : ¬ (v < 0 ∧ ts.length < us.length ∧ t ≠ us.getD ts.length 0)) : OddI ns (ts ++ [(t, p)]) us v := by
  rcases h with ⟨h1, h2⟩ | ⟨j, nd, h1, h2, h3⟩
  · refine .inl ⟨?_, h2⟩
    rw [oddA_snoc, h1]
    simp only
    rw [if_neg (fun h => hc ⟨by omega, h⟩)]
  · refine .inr ⟨j, nd, h1, h2, ?_⟩
    rw [oddA_snoc, h3]
theorem OddI.take {ns : List Nd} {ts : List (Int × Int)} {us : List Int} {v t : Int} (h : OddI ns ts us v) (hv : v < 0) (hl : ts.length < us.length) (ht : t ≠ us.getD ts.length 0) {j : Nat} {nd : Nd} (hj : ns[j]? = some nd) : OddI ns (ts ++ [(t, nd.pos)]) us (j : Nat) := by
  rcases h with ⟨h1, h2⟩ | ⟨j', nd', h1, h2, h3⟩
  · refine .inr ⟨j, nd, rfl, hj, ?_⟩
    rw [oddA_snoc, h1]
    simp only
    rw [if_pos ⟨hl, ht⟩]
  · omega
set_option maxRecDepth 100000 in
set_option maxHeartbeats 8000000 in
theorem callC (I : ExC A X cur n) (H : CM w A X cur s 0 0) {b : Nat} {nx x : Int} {nm : ByteArray} {p : Int} {gs : Exps} (L : Lie A.ns b (flE b nx (.call nm p gs))) (tg : TyEs gs) (hsz : szEs gs ≤ n) (hx : x = rtE b (.call nm p gs)) : Calls Tryz.prog 223 #[.pointer (some ⟨A.c, 0, none⟩), .int .i64 x] w (EP w A X cur (callR X b nm p gs s)) := by
  obtain ⟨K, hK⟩ : ∃ K, K = b + szEs gs := ⟨_, rfl⟩
  obtain rfl : x = ((K : Nat) : Int) := by rw [hx, hK]; simp [rtE, szE]; omega
  obtain ⟨L1, hn⟩ := L.call
  have L1le := L1.le
  rw [flEs_len] at L1le
  rw [← hK] at hn
  obtain ⟨hk, hnb, r415, n0, n1, n2, n3, n4, n5, n6, n7, n8⟩ := H.node hn
  try simp only at n0 n1 n2 n3 n4 n5 n6 n7 n8
  obtain ⟨r0, r161, r162, r163, r164, r325, r414, r416, r417, r418, r419, hz⟩ := H.regs
  obtain ⟨hlt, hlt2, hlt3⟩ := H.blt
  have ty0 := H.tyb.cell (o := K) hk
  have tyz := H.tyb.frozen
  have rf0 := H.rfb.cell (o := K) hk
  have rfz := H.rfb.frozen
  have h200 := H.le
  have hkl : ((K : Nat) : Int) < A.ns.length := by omega
  have hK0 : ((K : Nat) : Int) ≥ 0 := by omega
  have hF := fun n => (H.drewN n).findF n8
  have HH : Hid (CM w A X cur s 0 0) := H
  have hr : callR X b nm p gs s = match fndF nm X.fs with | none => .bad 16 p | some f => (ckEs X b gs s).bind fun ts s => if ts.length ≠ (pAt X.pt f).length then .bad 18 p else match oddA ts (pAt X.pt f) with | some q => .bad 17 q | none => .ok (fAt X.fs f).ret (refer K f s) := by
    rw [hK]; unfold callR
    cases fndF nm X.fs <;> rfl
  have HK : Hid _ := hK
  clear H L hx hK
  go_enter Tryz.func223, Tryz.ntmps223
  go_wp2_with fail
  go_quiet (first | (go_at_call 67; refine Calls.quiet_of (hF _)))
  cases hf : fndF nm X.fs with
  | none =>
    rw [hf] at hr
    have HR : Hid (_ = _) := hr
    rw [show oi none = -1 from rfl]
    clear hF hr hf
    go_wp2_with fail
    generalize hw0 : w.drewN _ = w0
    have C : CM w0 A X cur s 0 0 := hw0 ▸ HH.out.drewN _
    have F0 : Fr (CS A) w w0 := hw0 ▸ CS_drewN _
    refine (noneC C 16 p).mono ?_
    rintro v w3 ⟨rfl, C3, k3⟩
    go_wp2_with fail
    go_ret
    exact EP.bad HR.out (F0.trans k3 (fun _ _ h => h)) (by decide) C3
  | some f =>
    rw [hf] at hr
    have HR : Hid (_ = _) := hr
    have hfl : f < X.fs.length := (lst_some hf).1
    have hx8 := HH.out.xok.le
    have hf8 : f < 8 := by omega
    have z1 : decide ((f : Int) < 0) = false := decide_eq_false (by omega)
    rw [show oi (some f) = (f : Int) from rfl]
    obtain ⟨q4, qi, qr⟩ := HH.out.xok.p4 f hfl
    have hcnt := cIR (pAt X.pt f)
    obtain ⟨f0', f1', f2', f3', f4', f5', f6'⟩ := HH.out.func hfl
    have enp : ((fAt X.fs f).pi : Int) + ((fAt X.fs f).pr : Int) = ((pAt X.pt f).length : Nat) := by rw [qi, qr]; omega
    have hpi : (fAt X.fs f).pi ≤ 4 := by omega
    have hpr : (fAt X.fs f).pr ≤ 4 := by omega
    clear hF hr hf qi qr hcnt
    go_wp2_with fail
    go_quiet (fail)
    go_wp2_with fail
    generalize hw0 : w.drewN _ = w0
    have C : CM w0 A X cur s 0 0 := hw0 ▸ HH.out.drewN _
    have F0 : Fr (CS A) w w0 := hw0 ▸ CS_drewN _
    have HC0 : Hid (CM w0 A X cur s 0 0 ∧ Fr (CS A) w w0) := ⟨C, F0⟩
    generalize hpl : pAt X.pt f = pl at *
    have Hpl : Hid _ := hpl
    clear C F0 hw0 hpl enp hpi hpr f0' f1' f2' f3' f4' f5' f6'
    clear hnb r415 n0 n1 n2 n3 n4 n5 n6 n7 r0 r161 r162 r163 r164 r325 r414 r416 r417 r418 r419 hz hlt hlt2 hlt3 ty0 tyz rf0 rfz
    go_loopg [9, 7, 8] (szEs gs) (fun g av kv ov wr => ∃ (b' : Nat) (es : Exps) (ts : List (Int × Int)) (s1 : Ck) (o : Int), av = .int .i64 (hdE b' es) ∧ kv = .int .i64 (ts.length : Nat) ∧ ov = .int .i64 o ∧ OddI A.ns ts pl o ∧ Lie A.ns b' (flEs b' es) ∧ TyEs es ∧ szEs es ≤ g ∧ szEs es ≤ n ∧ ts.length + szEs es ≤ szEs gs ∧ CM wr A X cur s1 0 0 ∧ Fr (CS A) w wr ∧ ckEs X b gs s = (ckEs X b' es s1).bind fun us s => .ok (ts ++ us) s)
    case atStart => exact ⟨b, gs, [], s, -1, rfl, rfl, rfl, .inl ⟨by simp [oddA], rfl⟩, L1, tg, Nat.le_refl _, hsz, by simp, HC0.out.1, HC0.out.2, ckEs_start X b gs s⟩
    case round =>
      clear HC0
      obtain ⟨b', es, ts, s1, o, rfl, rfl, rfl, hO, L, te, hg, hsn, hts, C, F, hE⟩ := hrel
      cases es with
      | nil =>
        have hE := ckEs_end hE
        have HR2 : Hid (_ = _) := HR.out
        rw [hE, Rc.bind_ok] at HR2
        have z0 : decide ((-1 : Int) ≥ 0) = false := by decide
        rw [show hdE b' .nil = -1 from rfl]
        simp only [szEs] at hts
        have hts2 : ts.length ≤ 200 := by omega
        clear hE L te hg hsn hts
        obtain ⟨_, hnb, r415, n0, n1, n2, n3, n4, n5, n6, n7, n8⟩ := C.node hn
        try simp only at n0 n1 n2 n3 n4 n5 n6 n7 n8
        obtain ⟨r0, r161, r162, r163, r164, r325, r414, r416, r417, r418, r419, hz⟩ := C.regs
        obtain ⟨hlt, hlt2, hlt3⟩ := C.blt
        have ty0 := C.tyb.cell (o := K) hk
        have tyz := C.tyb.frozen
        have rf0 := C.rfb.cell (o := K) hk
        have rfz := C.rfb.frozen
        obtain ⟨f0', f1', f2', f3', f4', f5', f6'⟩ := C.func hfl
        obtain ⟨d1, d2, d3, d4, d5, d6⟩ := C.dis
        by_cases hl : ts.length = pl.length
        · have z1 : (((ts.length : Nat) : Int) != ((pl.length : Nat) : Int)) = false := by simp [hl]
          have z2 : (ts.length != pl.length) = false := by simpa using hl
          have z3 : (ts.length == pl.length) = true := by simpa using hl
          have Hl : Hid _ := hl
          rcases hO with ⟨ho, rfl⟩ | ⟨j, nd, rfl, hj, ho⟩
          · have HN := C.refer K f
            have HN2 : Hid _ := HN
            have HF : Hid _ := F
            have Ho : Hid _ := ho
            clear HN C F ho hl
            go_wp2_with fail
            go_ret
            exact EP.ok (by rw [HR2.out, if_neg (fun h => h Hl.out), Ho.out]) (HF.out.trans HN2.out.2 (fun _ _ h => h)) HN2.out.1
          · have z4 : decide ((j : Int) ≥ 0) = true := decide_eq_true (by omega)
            obtain ⟨hjl, _, _, j4, j5, j6, j7, j8, j9, j10, j11, _⟩ := C.node hj
            have hjl2 : (j : Int) < A.ns.length := by omega
            have hN := noneC C 17 nd.pos
            have HF : Hid _ := F
            have Ho : Hid _ := ho
            clear C F ho hl hj
            go_wp2_with fail
            refine hN.mono ?_
            rintro v w3 ⟨rfl, C3, k3⟩
            go_wp2_with fail
            go_ret
            exact EP.bad (by rw [HR2.out, if_neg (fun h => h Hl.out), Ho.out]) (HF.out.trans k3 (fun _ _ h => h)) (by decide) C3
        · have z1 : (((ts.length : Nat) : Int) != ((pl.length : Nat) : Int)) = true := by simpa using (fun h : ((ts.length : Nat) : Int) = ((pl.length : Nat) : Int) => hl (by omega))
          have z2 : (ts.length != pl.length) = true := by simpa using hl
          have z3 : (ts.length == pl.length) = false := by simpa using hl
          have hN := noneC C 18 p
          have HF : Hid _ := F
          have Hl : Hid _ := hl
          clear C F hl hO
          go_wp2_with fail
          refine hN.mono ?_
          rintro v w3 ⟨rfl, C3, k3⟩
          go_wp2_with fail
          go_ret
          exact EP.bad (by rw [HR2.out, if_pos Hl.out]) (HF.out.trans k3 (fun _ _ h => h)) (by decide) C3
      | cons e es =>
        obtain ⟨La, Lb⟩ := L.args
        simp only [TyEs] at te
        simp only [szEs] at hg hsn hts
        have hp := szE_pos e
        obtain ⟨nd, hn1, hn2, hn3, hn4⟩ := La.root
        obtain ⟨J, hJ⟩ : ∃ J, J = b' + szE e - 1 := ⟨_, rfl⟩
        have hX := I e (by omega) te.1 wr s1 b' (hdE (b' + szE e) es) (rtE b' e) C La rfl
        rw [show hdE b' (.cons e es) = rtE b' e from rfl]
        rw [rtE_nat, ← hJ] at hX ⊢
        rw [← hJ] at hn1
        obtain ⟨hJl, _⟩ := C.node hn1
        have z0 : decide ((J : Int) ≥ 0) = true := decide_eq_true (by omega)
        obtain ⟨hb1, hb2⟩ := ckEs_step hE
        have hkeep := keepE X e b' s1
        have hv := C.vt
        clear C hJ
        go_wp2_with fail
        refine hX.mono ?_
        rintro v w1 ⟨k1, h⟩
        clear hX
        cases hq : ckE X b' e s1 with
        | bad er po =>
          rw [hq] at h
          obtain ⟨rfl, h0, s', C⟩ := h
          have hb := hb1 _ _ hq
          have HQ : Hid (_ = _) := hb
          have HF : Hid _ := F
          clear hq hkeep hb hb1 hb2 hE hO F
          go_wp2_with fail
          go_ret
          exact EP.bad (by rw [HR.out, HQ.out]; rfl) (HF.out.trans k1 (fun _ _ h => h)) h0 C
        | ok t s2 =>
          rw [hq] at h
          obtain ⟨rfl, C1⟩ := h
          obtain ⟨t0, t8⟩ := (hkeep t s2 hq).2.2 hv te.1
          have hb := hb2 _ _ hq
          have z5 : decide (t < 0) = false := decide_eq_false (by omega)
          obtain ⟨_, g1, g2, g3, g4, g5, g6, g7, g8, g9, g10, _⟩ := C1.node hn1
          rw [hn4] at g7
          have h200 := C1.le
          have hJi : (J : Int) < A.ns.length := by omega
          have hlt := C1.blt.1
          have hts2 : (ts.length : Int) < 200 := by omega
          have HQ : Hid (ckEs X b gs s = (ckEs X (b' + szE e) es s2).bind fun us s => .ok ((ts ++ [(t, poE e)]) ++ us) s) := hb
          have HF : Hid _ := F.trans k1 (fun _ _ h => h)
          have HL : Hid (_ ∧ _) := ⟨Lb, te.2⟩
          have HS : Hid (szE e + szEs es ≤ gk ∧ szE e + szEs es ≤ n ∧ ts.length + (szE e + szEs es) ≤ szEs gs ∧ 0 < szE e) := ⟨hg, hsn, hts, hp⟩
          have HC : Hid (CM w1 A X cur s2 0 0) := C1
          clear hq hkeep hb hb1 hb2 hE F k1 La Lb te hg hsn hts hp hv
          by_cases hc : o < 0 ∧ ts.length < pl.length ∧ t ≠ pl.getD ts.length 0
          · obtain ⟨c1, c2, c3⟩ := hc
            have HO : Hid (OddI A.ns (ts ++ [(t, poE e)]) pl (J : Nat)) := by show OddI _ _ _ _; rw [← hn3]; exact hO.take c1 c2 c3 hn1
            have pc := C1.prm hfl (k := ts.length) (by rw [Hpl.out]; exact c2)
            rw [Hpl.out] at pc
            have y1 : decide (o < 0) = true := decide_eq_true c1
            have y2 : decide (((ts.length : Nat) : Int) < ((pl.length : Nat) : Int)) = true := decide_eq_true (by omega)
            have y3 : (t != pl.getD ts.length 0) = true := by simpa using c3
            have y4 : (t == pl.getD ts.length 0) = false := by simpa using c3
            have hi4 : ts.length < 4 := by omega
            generalize pl.getD ts.length 0 = u at *
            clear C1 hO c3 hn3
            go_wp2_with fail
            go_roundg (szEs es)
            case measure => have := HS.out; omega
            case rel => exact ⟨b' + szE e, es, ts ++ [(t, poE e)], s2, J, rfl, by simp, rfl, HO.out, HL.out.1, HL.out.2, Nat.le_refl _, by have := HS.out; omega, by have := HS.out; simp; omega, HC.out, HF.out, HQ.out⟩
          · have HO : Hid (OddI A.ns (ts ++ [(t, poE e)]) pl o) := hO.keep hc
            by_cases c1 : o < 0
            · have y1 : decide (o < 0) = true := decide_eq_true c1
              by_cases c2 : ts.length < pl.length
              · have c3 : t = pl.getD ts.length 0 := Decidable.byContradiction fun h => hc ⟨c1, c2, h⟩
                have pc := C1.prm hfl (k := ts.length) (by rw [Hpl.out]; exact c2)
                rw [Hpl.out, ← c3] at pc
                have y2 : decide (((ts.length : Nat) : Int) < ((pl.length : Nat) : Int)) = true := decide_eq_true (by omega)
                have hi4 : ts.length < 4 := by omega
                clear C1 hO c3 hc
                go_wp2_with fail
                go_roundg (szEs es)
                case measure => have := HS.out; omega
                case rel => exact ⟨b' + szE e, es, ts ++ [(t, poE e)], s2, o, rfl, by simp, rfl, HO.out, HL.out.1, HL.out.2, Nat.le_refl _, by have := HS.out; omega, by have := HS.out; simp; omega, HC.out, HF.out, HQ.out⟩
              · have y2 : decide (((ts.length : Nat) : Int) < ((pl.length : Nat) : Int)) = false := decide_eq_false (by omega)
                have y3 : decide (ts.length < pl.length) = false := decide_eq_false c2
                clear C1 hO hc c2
                go_wp2_with fail
                go_roundg (szEs es)
                case measure => have := HS.out; omega
                case rel => exact ⟨b' + szE e, es, ts ++ [(t, poE e)], s2, o, rfl, by simp, rfl, HO.out, HL.out.1, HL.out.2, Nat.le_refl _, by have := HS.out; omega, by have := HS.out; simp; omega, HC.out, HF.out, HQ.out⟩
            · have y1 : decide (o < 0) = false := decide_eq_false c1
              clear C1 hO hc c1
              go_wp2_with fail
              go_roundg (szEs es)
              case measure => have := HS.out; omega
              case rel => exact ⟨b' + szE e, es, ts ++ [(t, poE e)], s2, o, rfl, by simp, rfl, HO.out, HL.out.1, HL.out.2, Nat.le_refl _, by have := HS.out; omega, by have := HS.out; simp; omega, HC.out, HF.out, HQ.out⟩
end
end Go.Proofs.Qxb6500277aGreat
