/- The model checker: all heads. -/
import Derived.Test.Qxb6500277aGreatMD7
import Derived.Test.Qxb6500277aGreatCB3
namespace Go.Proofs.Qxb6500277aGreat
open Go Go.RowKit

section
variable {w w' : World} {B : Nat} {A : Ma} {X : Cx} {cur : Nat} {s : Ck} {er po : Int} {fv vv : Value} {n : Nat}
theorem SlF.bk {v : Value} {p : List FR} (h : SlF w v p) {b : Nat} (hb : isBlk v b) : b < w.heap.size := by
  obtain ⟨n, c, rfl⟩ := hb
  rcases h with ⟨e, _⟩ | ⟨b', cap, f, e, _, hb', _⟩
  · cases e
  · injection e with e _ _; injection e with e; injection e with e; subst e; exact hb'.lt
theorem SlV.bk {v : Value} {p : List Vr} (h : SlV w v p) {b : Nat} (hb : isBlk v b) : b < w.heap.size := by
  obtain ⟨n, c, rfl⟩ := hb
  rcases h with ⟨e, _⟩ | ⟨b', cap, f, e, _, hb', _⟩
  · cases e
  · injection e with e _ _; injection e with e; injection e with e; subst e; exact hb'.lt
/-- One more function. -/
theorem MXc.addF {h0 : Fh} {l : List Int} {v' : Value} {w8 : World} (H : MXc w B A X cur s er po fv vv) (hF : Fr (isBlk fv) w w8) (hV : SlF w8 v' (X.fs.zip s.lim ++ [(h0, (0, 0))])) (hb : ∀ b, isBlk v' b → w.heap.size ≤ b ∨ isBlk fv b) (hBw : B ≤ w.heap.size) (hnb : A.nb < w.heap.size) (hX : XOk ⟨X.fs ++ [h0], X.pt ++ [l]⟩ A.ns) :
    MXc (w8.setCell ⟨A.m, 3, none⟩ v') B A ⟨X.fs ++ [h0], X.pt ++ [l]⟩ cur { s with lim := s.lim ++ [(0, 0)] } er po v' vv := by
  have hm := H.blk.lt
  have htb := H.tyb.lt
  have hrb := H.rfb.lt
  have vm : ¬ isBlk fv A.m := fun h => (H.fd _ h).1 rfl
  have vt : ¬ isBlk fv A.tb := fun h => (H.fd _ h).2.2.1 rfl
  have vr : ¬ isBlk fv A.rb := fun h => (H.fd _ h).2.2.2.1 rfl
  have vnb : ¬ isBlk fv A.nb := fun h => (H.fd _ h).2.1 rfl
  obtain ⟨d1, d2, d3, d4, d5, d6⟩ := H.dis
  have k : Fr (fun c => c = A.m) w8 (w8.setCell ⟨A.m, 3, none⟩ v') := (Fr.refl (fun c => c = A.m) w8).setC A.m 3 v' (fun _ => rfl)
  have nm' : ¬ isBlk v' A.m := fun h => (hb _ h).elim (fun h => by omega) vm
  have hlim := H.lim
  refine ⟨((H.blk.frame hF vm).set 3 v').congr fun o ho => ?_, fun hn => ⟨(H.nds hn).1, by obtain ⟨g, g1, g2⟩ := (H.nds hn).2; exact ⟨g, (g1.frame hF vnb).frame k (fun e => d1 e.symm), g2⟩⟩, ?_, (H.vs.frame hF (fun b n c e he => (H.fd b he).2.2.2.2.1 (isBlk_sl e))).frame k (fun b n c e he => (H.vd b (isBlk_sl e)).1 he), (H.tyb.frame hF vt).frame k (fun e => d2 e.symm), (H.rfb.frame hF vr).frame k (fun e => d3 e.symm), H.tyl, H.rfl', H.dis, fun b hf => ?_, H.vd, H.lo, H.n12, H.vl, hX, by simp [hlim], H.le, H.lvl, fun i => ?_, H.vt⟩
  · rcases lt11c ho with rfl | rfl | rfl | rfl | rfl | rfl | rfl | rfl | rfl | rfl | rfl <;> simp [upd, mCell]
  · show SlF _ v' ((X.fs ++ [h0]).zip (s.lim ++ [(0, 0)]))
    rw [List.zip_append (by rw [hlim])]
    exact hV.frame k (fun b n c e he => nm' (he ▸ isBlk_sl e))
  · rcases hb b hf with h | h
    · exact ⟨by omega, by omega, by omega, by omega, fun hv => by have := H.vs.bk hv; omega, by omega⟩
    · exact H.fd b h
  · show (lAt (s.lim ++ [(0, 0)]) i).1 ≤ 12 ∧ (lAt (s.lim ++ [(0, 0)]) i).2 ≤ 12
    by_cases hi : i < s.lim.length
    · rw [lAt_app hi]; exact H.lm i
    · by_cases e : i = s.lim.length
      · subst e; rw [lAt_last]; simp
      · unfold lAt
        simp [List.getD_eq_getElem?_getD, List.getElem?_eq_none (show (s.lim ++ [(0, 0)]).length ≤ i by simp; omega)]
theorem MSc.backF {fv' : Value} (hb : ∀ b, isBlk fv' b → w.heap.size ≤ b) : ∀ i, i < w.heap.size → MSc A fv' vv i → MSc A (.slice none 0 0) vv i := fun i hi h => by
  rcases h with h | h | h | h | h
  · exact .inl h
  · exact .inr (.inl h)
  · exact .inr (.inr (.inl h))
  · have := hb i h; omega
  · exact .inr (.inr (.inr (.inr h)))
/-- What the model's walk over the heads leaves. -/
def HdM (w : World) (B : Nat) (A : Ma) (s : Ck) (vv : Value) (r : Rh) (e : Ending) (w' : World) : Prop := e = .returned (.tuple #[]) ∧ Fr (MSc A (.slice none 0 0) vv) w w' ∧ ∃ fv', (∀ b, isBlk fv' b → w.heap.size ≤ b) ∧ match r with
  | .ok X => MXc w' B A X 0 { s with lim := List.replicate X.fs.length (0, 0) } 0 0 fv' vv
  | .bad er po => er ≠ 0 ∧ ∃ X s', MXc w' B A X 0 s' er po fv' vv
theorem HdM.bad {r : Rh} {e p : Int} {s' : Ck} (hr : r = .bad e p) (k : Fr (MSc A (.slice none 0 0) vv) w w') (h0 : e ≠ 0) (hb : ∀ b, isBlk fv b → w.heap.size ≤ b) (C : MXc w' B A X 0 s' e p fv vv) : HdM w B A s vv r (.returned (.tuple #[])) w' := ⟨rfl, k, fv, hb, by rw [hr]; exact ⟨h0, X, s', C⟩⟩
theorem HdM.ok {r : Rh} (hr : r = .ok X) (k : Fr (MSc A (.slice none 0 0) vv) w w') (hb : ∀ b, isBlk fv b → w.heap.size ≤ b) (C : MXc w' B A X 0 { s with lim := List.replicate X.fs.length (0, 0) } 0 0 fv vv) : HdM w B A s vv r (.returned (.tuple #[])) w' := ⟨rfl, k, fv, hb, by rw [hr]; exact C⟩
theorem MXc.nodeF {w8 : World} (H : MXc w B A X cur s er po fv vv) (hF : Fr (isBlk fv) w w8) {k : Nat} {nd : Nd} (h : A.ns[k]? = some nd) : A.nb < w8.heap.size ∧ w8.cell? ⟨A.m, 0, none⟩ = some (.slice (some ⟨A.nb, 0, none⟩) A.ns.length A.ns.length) ∧ w8.cell? ⟨A.nb, k * 8 + 4, none⟩ = some (.int .i64 nd.nx) := by
  obtain ⟨hk, hnb, r0, _, _, _, _, n4, _⟩ := H.node h
  have vm : ¬ isBlk fv A.m := fun h => (H.fd _ h).1 rfl
  have vnb : ¬ isBlk fv A.nb := fun h => (H.fd _ h).2.1 rfl
  exact ⟨Nat.lt_of_lt_of_le hnb hF.size, by rw [hF.cell (p := ⟨A.m, 0, none⟩) H.blk.lt vm]; exact r0, by rw [hF.cell (p := ⟨A.nb, k * 8 + 4, none⟩) hnb vnb]; exact n4⟩
theorem fun_eq {w8 : World} (h : Fr (fun b => ∃ n c, fv = .slice (some ⟨b, 0, none⟩) n c) w w8) : Fr (isBlk fv) w w8 := h
theorem PAf.one {b : Nat} (x : FR) (X : Blk w b 7 (frC x)) : PAf w b [x] := fun o ho => by
  have ho : o < 7 := by simpa using ho
  rw [X.cell ho]
  rcases lt7c ho with rfl | rfl | rfl | rfl | rfl | rfl | rfl <;> rfl
set_option maxRecDepth 100000 in
set_option maxHeartbeats 8000000 in
theorem headsM (H : MXc w B A ⟨[], []⟩ 0 s 0 0 (.slice none 0 0) vv) (hN8 : Nm8 A.ns) {gs : List Fnc} (hO : ∀ f ∈ gs, OkF f) (L : Lie A.ns 0 (flFs 0 gs)) : Calls Tryz.prog 51 #[.pointer (some ⟨A.m, 0, none⟩), .int .i64 (hdF 0 gs)] w (HdM w B A s vv (ckH 0 gs ⟨[], []⟩)) := by
  have h200 := H.le
  have hl0 : s.lim = [] := by have := H.lim; simpa using this
  have es : { s with lim := List.replicate 0 (0, 0) } = s := by simp [← hl0]
  have H0 : MXc w B A ⟨[], []⟩ 0 { s with lim := List.replicate 0 (0, 0) } 0 0 (.slice none 0 0) vv := by rw [es]; exact H
  have hBw : B ≤ w.heap.size := by have := H.lo.1; have := H.blk.lt; omega
  have HN8 : Hid _ := hN8
  clear H hl0 es hN8
  go_enter Tryz.func51, Tryz.ntmps51
  go_wp2_with fail
  go_loopg [4] gs.length (fun g xv wr => ∃ (b' : Nat) (fs : List Fnc) (X : Cx) (fv : Value), xv = .int .i64 (hdF b' fs) ∧ fs.length ≤ g ∧ Lie A.ns b' (flFs b' fs) ∧ (∀ f ∈ fs, OkF f) ∧ MXc wr B A X 0 { s with lim := List.replicate X.fs.length (0, 0) } 0 0 fv vv ∧ (∀ b, isBlk fv b → w.heap.size ≤ b) ∧ Fr (MSc A (.slice none 0 0) vv) w wr ∧ ckH 0 gs ⟨[], []⟩ = ckH b' fs X)
  case atStart => exact ⟨0, gs, ⟨[], []⟩, _, rfl, Nat.le_refl _, L, hO, H0, fun b hb => absurd hb (nilB b), Fr.refl _ _, rfl⟩
  case round =>
    clear H0 L hO
    obtain ⟨b', fs, X, fv, rfl, hg, L, hO, C, hfv, F, hE⟩ := hrel
    obtain ⟨-, r1, r2, r3, r4, r5, r6, r7, r8, r9, r10, hz, hlt, hltt, hltr⟩ := C.regs
    obtain ⟨fa, fc, efv⟩ := C.fs.sl
    rw [zip_len C] at efv
    have HFV : Hid (∀ b, isBlk fv b → w.heap.size ≤ b) := hfv
    clear hfv
    cases fs with
    | nil =>
      rw [show hdF b' [] = -1 from rfl]
      have z0 : decide ((-1 : Int) ≥ 0) = false := by decide
      have HE : Hid (ckH 0 gs ⟨[], []⟩ = .ok X) := by show _ = _; rw [hE]; simp only [ckH]
      have HC : Hid _ := And.intro C F
      clear hE C F
      go_wp2_with fail
      go_end0
      exact HdM.ok HE.out HC.out.2 HFV.out HC.out.1
    | cons f r =>
      obtain ⟨La, Lb⟩ := L.fns
      obtain ⟨Lp, Ls, hnB, hnF⟩ := La.fn
      obtain ⟨ok1, ok2, ok3⟩ := hO f (List.mem_cons_self ..)
      obtain ⟨J, hJ⟩ : ∃ J, J = b' + szF f - 1 := ⟨_, rfl⟩
      rw [show hdF b' (f :: r) = rtF b' f from rfl]
      rw [rtF_nat, ← hJ]
      rw [← hJ] at hnF
      obtain ⟨hk, hnb, r0, n0, n1, n2, n3, n4, n5, n6, n7⟩ := C.node hnF
      have n8 : f.s.size ≤ 8 := HN8.out _ (List.mem_of_getElem? hnF)
      try simp only at n0 n1 n2 n3 n4 n5 n6 n7
      have hJi : (J : Int) < A.ns.length := by omega
      have hJ0 : decide ((J : Int) ≥ 0) = true := decide_eq_true (by omega)
      have hE2 : ckH 0 gs ⟨[], []⟩ = if 8 ≤ X.fs.length then .bad 19 f.p else if fndF f.s X.fs ≠ none then .bad 13 f.p else match f.ps[4]? with | some q => .bad 19 q.p | none => ckH (b' + szF f) r ⟨X.fs ++ [⟨rtF b' f, f.t, cI (f.ps.map (·.t)), cR (f.ps.map (·.t)), f.s⟩], X.pt ++ [f.ps.map (·.t)]⟩ := by
        rw [hE]; simp only [ckH]; rfl
      have HR : Hid (Lie A.ns (b' + szF f) (flFs (b' + szF f) r) ∧ (∀ f ∈ r, OkF f) ∧ r.length + 1 ≤ gk) := ⟨Lb, fun f hf => hO f (List.mem_cons_of_mem _ hf), hg⟩
      have Hnn : Hid _ := hnF
      have hrt : Hid (rtF b' f = (J : Nat)) := by show _ = _; rw [rtF_nat, ← hJ]
      rw [efv] at r3
      have Hefv : Hid _ := efv
      have HE2 : Hid (_ = _) := hE2
      clear hE2
      clear hE La Lb L hO hg hJ ok3 Ls hnB hnF efv
      by_cases h8 : 8 ≤ X.fs.length
      · have z1 : decide (((X.fs.length : Nat) : Int) ≥ 8) = true := decide_eq_true (by omega)
        have hE2 := HE2.out
        rw [if_pos h8] at hE2
        have HE : Hid (_ = _) := hE2
        have hN := failM_live C 19 f.p
        clear hE2 h8 C
        go_wp2_with fail
        refine hN.mono ?_
        rintro v w3 ⟨rfl, C3, k3⟩
        clear hN
        go_wp2_with fail
        go_end0
        exact HdM.bad HE.out (F.trans k3 (MSc.backF HFV.out)) (by decide) HFV.out C3
      · have z1 : decide (((X.fs.length : Nat) : Int) ≥ 8) = false := decide_eq_false (by omega)
        have z1' : decide (8 ≤ X.fs.length) = false := decide_eq_false h8
        have hE2 := HE2.out
        rw [if_neg h8] at hE2
        clear HE2
        have HE2 : Hid (_ = _) := hE2
        clear hE2
        have hF := fnM C f.s
        have hx8 : X.fs.length < 8 := by omega
        have HC : Hid (MXc wr B A X 0 _ 0 0 fv vv) := C
        clear h8 C
        go_wp2_with fail
        refine hF.mono ?_
        rintro v w0 ⟨rfl, k0⟩
        have C2 := HC.out.same k0
        have F2 : Fr (MSc A (.slice none 0 0) vv) w w0 := F.trans k0 (fun _ _ h => h.elim)
        clear hF HC F k0 r1 r2 r3 r4 r5 r6 r7 r8 r9 r10 hz hlt hltt hltr hnb r0 n0 n1 n2 n3 n4 n5 n6 n7 hJ0 z1
        obtain ⟨-, r1, r2, r3, r4, r5, r6, r7, r8, r9, r10, hz, hlt, hltt, hltr⟩ := C2.regs
        rw [Hefv.out] at r3
        obtain ⟨_, hnb, r0, n0, n1, n2, n3, n4, n5, n6, n7⟩ := C2.node Hnn.out
        try simp only at n0 n1 n2 n3 n4 n5 n6 n7
        cases hf : fndF f.s X.fs with
        | some e =>
          have hE2 := HE2.out
          rw [hf, if_pos (by simp)] at hE2
          have HE : Hid (_ = _) := hE2
          rw [show oi (some e) = (e : Int) from rfl]
          have z2 : decide ((e : Int) ≥ 0) = true := decide_eq_true (by omega)
          have hN := failM_live C2 13 f.p
          clear hE2 hf C2
          go_wp2_with fail
          refine hN.mono ?_
          rintro v w3 ⟨rfl, C3, k3⟩
          clear hN
          go_wp2_with fail
          go_end0
          exact HdM.bad HE.out (F2.trans k3 (MSc.backF HFV.out)) (by decide) HFV.out C3
        | none =>
          have hE2 := HE2.out
          rw [hf, if_neg (by simp)] at hE2
          have HE : Hid (_ = _) := hE2
          rw [show oi none = -1 from rfl]
          have z2 : decide ((-1 : Int) ≥ 0) = false := by decide
          have Hf : Hid (_ = _) := hf
          have HC : Hid (MXc w0 B A X 0 _ 0 0 fv vv ∧ Fr (MSc A (.slice none 0 0) vv) w w0) := ⟨C2, F2⟩
          have BX : Blk ((w0.alloc (.cells #[.int .i64 (J : Nat), .int .i64 f.t, .int .i64 0, .int .i64 0, .int .i64 0, .int .i64 0, .string f.s] 109)).drew) w0.heap.size 7 (fBox J f.t 0 0 f.s) := Blk.drew (Blk.new w0 _ _ _ fun o ho => by
            have ho : o < 7 := ho
            rcases lt7c ho with rfl | rfl | rfl | rfl | rfl | rfl | rfl <;> rfl)
          have FX : Fr (fun _ => False) w0 ((w0.alloc (.cells #[.int .i64 (J : Nat), .int .i64 f.t, .int .i64 0, .int .i64 0, .int .i64 0, .int .i64 0, .string f.s] 109)).drew) := ((Fr.refl _ _).alloc _).drew
          have HX : Hid (_ ∧ _) := ⟨BX, FX⟩
          have HD : Hid (w0.heap.size ≠ A.m ∧ w0.heap.size ≠ A.nb ∧ w0.heap.size ≠ A.tb ∧ w0.heap.size ≠ A.rb ∧ (∀ b, isBlk fv b ∨ isBlk vv b → b ≠ w0.heap.size)) := ⟨by omega, by omega, by omega, by omega, fun b hb => by
            rcases hb with hb | hb
            · have := C2.fs.bk hb; omega
            · have := C2.vs.bk hb; omega⟩
          have HB0 : Hid (w.heap.size ≤ w0.heap.size) := F2.size
          obtain ⟨fb, hfb⟩ : ∃ fb, w0.heap.size = fb := ⟨_, rfl⟩
          clear hE2 hf C2 F2 BX FX
          rw [hfb] at hlt hltt hltr hnb
          go_wp2_with fail
          refine wp_region_text (by kernel_rfl) (by kernel_rfl) ?_
          go_wp2_with fail
          refine ⟨by kernel_rfl, ?_⟩
          go_wp2_with fail
          generalize hw1 : World.drew _ = w1
          have B1 : Blk w1 w0.heap.size 7 (fBox J f.t 0 0 f.s) := by rw [← hw1]; exact HX.out.1
          have F1 : Fr (fun _ => False) w0 w1 := by rw [← hw1]; exact HX.out.2
          have HC1 : Hid (MXc w1 B A X 0 { s with lim := List.replicate X.fs.length (0, 0) } 0 0 fv vv ∧ Fr (MSc A (.slice none 0 0) vv) w w1 ∧ Blk w1 fb 7 (fBox J f.t 0 0 f.s)) := ⟨HC.out.1.same F1, HC.out.2.trans F1 (fun _ _ h => h.elim), by rw [← hfb]; exact B1⟩
          rw [hfb] at HD HB0
          clear HC HX hw1 B1 F1 hfb hnb r0 n0 n1 n2 n3 n4 n5 n6 n7 hlt hltt hltr r1 r2 r3 r4 r5 r6 r7 r8 r9 r10 hz
          go_loopg [6] f.ps.length (fun g qv wq => ∃ (x' : Nat) (pre ps : List Prm) (pi pr : Nat), qv = .int .i64 (hdP x' ps) ∧ ps.length ≤ g ∧ f.ps = pre ++ ps ∧ pre.length ≤ 4 ∧ cI (pre.map (·.t)) = pi ∧ cR (pre.map (·.t)) = pr ∧ Lie A.ns x' (flP x' ps) ∧ MXc wq B A X 0 { s with lim := List.replicate X.fs.length (0, 0) } 0 0 fv vv ∧ Fr (MSc A (.slice none 0 0) vv) w wq ∧ Blk wq fb 7 (fBox J f.t pi pr f.s))
          case atStart => exact ⟨b', [], f.ps, 0, 0, rfl, Nat.le_refl _, rfl, by simp, rfl, rfl, Lp, HC1.out.1, HC1.out.2.1, HC1.out.2.2⟩
          case round =>
            clear HC1 Lp
            obtain ⟨x', pre, ps, pi, pr, rfl, hpg, hps, hp4, hpi, hpr, Lp, C, F, BX⟩ := hrel
            have hsum := cIR (pre.map (·.t))
            rw [hpi, hpr, List.length_map] at hsum
            have b0 := BX.cell (o := 0) (by omega)
            have b1 := BX.cell (o := 1) (by omega)
            have b2 := BX.cell (o := 2) (by omega)
            have b3 := BX.cell (o := 3) (by omega)
            have b4 := BX.cell (o := 4) (by omega)
            have b5 := BX.cell (o := 5) (by omega)
            have b6 := BX.cell (o := 6) (by omega)
            simp only [fBox] at b0 b1 b2 b3 b4 b5 b6
            have bz := BX.frozen
            have bl := BX.lt
            have hpi4 : pi ≤ 4 := by omega
            have hpr4 : pr ≤ 4 := by omega
            obtain ⟨y1, y2, y3, y4, y5⟩ := HD.out
            have y1' : A.m ≠ fb := fun e => y1 e.symm
            have y2' : A.nb ≠ fb := fun e => y2 e.symm
            obtain ⟨-, r1, r2, r3, r4, r5, r6, r7, r8, r9, r10, hz, hlt, hltt, hltr⟩ := C.regs
            have Hy5 : Hid _ := y5
            clear y5
            cases ps with
            | nil =>
              rw [show hdP x' [] = -1 from rfl]
              have z3 : decide ((-1 : Int) ≥ 0) = false := by decide
              have hp0 : f.ps = pre := by rw [hps]; simp
              have hno : f.ps[4]? = none := List.getElem?_eq_none (by rw [hp0]; exact hp4)
              rw [hno] at HE
              simp only at HE
              have FB := ((Fr.refl (fun _ => False) wr).alloc (.cells #[.int .i64 (J : Nat), .int .i64 f.t, .int .i64 (pi : Nat), .int .i64 (pr : Nat), .int .i64 0, .int .i64 0, .string f.s] 109)).drew
              have M3 := C.same FB
              have hp1 := PAf.one (⟨⟨J, f.t, pi, pr, f.s⟩, (0, 0)⟩ : FR) (fr7_blk wr ⟨J, f.t, pi, pr, f.s⟩ (0, 0)).drew
              have hN1 := M3.fs
              have hb1 := M3.blk
              have HM3 : Hid (MXc _ B A X 0 _ 0 0 fv vv) := M3
              have HF2 : Hid (Fr (MSc A (.slice none 0 0) vv) w wr ∧ Fr (fun _ => False) wr _) := ⟨F, FB⟩
              have hvm : ¬ isBlk fv A.m := fun h => (C.fd _ h).1 rfl
              have hl200 : (X.fs.zip (List.replicate X.fs.length (0, 0))).length ≤ 200 := by simp; omega
              have HA2 : Hid _ := And.intro hp4 (And.intro hp0 (And.intro hpi hpr))
              have HXO : Hid (XOk X A.ns ∧ A.nb < wr.heap.size ∧ B ≤ wr.heap.size) := ⟨C.xok, by obtain ⟨_, q, _⟩ := C.node Hnn.out; exact q, by have := F.size; omega⟩
              clear M3 FB C F BX hp4 hps hp0 hpi hpr hno hsum hpg Lp
              simp only [Int.natCast_zero] at hp1
              go_wp2_with fail
              refine wp_region_text (by kernel_rfl) (by kernel_rfl) ?_
              go_wp2_with (at_builtin; refine wpList_appendFr (by rfl) _ _ (by rfl) fv (X.fs.zip (List.replicate X.fs.length (0, 0))) ⟨⟨J, f.t, pi, pr, f.s⟩, (0, 0)⟩ wr.heap.size 1 (by rfl) (by rfl) hN1 hp1 hl200 ?_; intro v' w8 hc8 hb8 f8; obtain ⟨va', vcap', rfl⟩ := hc8.sl; have hrb := hb1.frame f8 (fun ⟨n, c, e⟩ => hvm ⟨n, c, e⟩); have q4 := hrb.cell (o := 3) (by omega); have z8 := hrb.frozen; have l8 := hrb.lt)
              have Hc8 : Hid (SlF w8 (.slice va' (X.fs.zip (List.replicate X.fs.length (0, 0)) ++ [((⟨J, f.t, pi, pr, f.s⟩, (0, 0)) : FR)]).length vcap') (X.fs.zip (List.replicate X.fs.length (0, 0)) ++ [((⟨J, f.t, pi, pr, f.s⟩, (0, 0)) : FR)])) := hc8
              have Hb8 : Hid _ := hb8
              have Hf8 : Hid _ := f8
              obtain ⟨nbl8, q0, q44⟩ := HM3.out.nodeF (fun_eq f8) Hnn.out
              try simp only at q44
              obtain ⟨dd1, _⟩ := HM3.out.dis
              have dd2 : A.nb ≠ A.m := fun e => dd1 e.symm
              clear hc8 hb8 f8 hrb hp1 hN1 hb1 r1 r2 r3 r4 r5 r6 r7 r8 r9 r10 hz hltt hltr b0 b1 b2 b3 b4 b5 b6 bz bl
              refine ⟨by kernel_rfl, ?_⟩
              go_wp2_with fail
              obtain ⟨hp4, hp0, hpi, hpr⟩ := HA2.out
              obtain ⟨xok, nbl, bwl⟩ := HXO.out
              have hl4 : (f.ps.map (·.t)).length ≤ 4 := by rw [List.length_map, hp0]; exact hp4
              have eh : (⟨J, f.t, pi, pr, f.s⟩ : Fh) = ⟨rtF b' f, f.t, cI (f.ps.map (·.t)), cR (f.ps.map (·.t)), f.s⟩ := by rw [hrt.out, hp0, hpi, hpr]
              have hxo := XOk.add xok hx8 (h0 := ⟨rtF b' f, f.t, cI (f.ps.map (·.t)), cR (f.ps.map (·.t)), f.s⟩) (p := f.ps.map (·.t)) hl4 rfl rfl ok1 (by show 0 ≤ rtF b' f ∧ rtF b' f < _; rw [hrt.out]; omega) (by show f.s.size ≤ 8; omega) Hf.out
              have hsz : ((wr.alloc (.cells #[.int .i64 (J : Nat), .int .i64 f.t, .int .i64 (pi : Nat), .int .i64 (pr : Nat), .int .i64 0, .int .i64 0, .string f.s] 109)).drew).heap.size = wr.heap.size + 1 := by simp [World.size_alloc, World.size_drew]
              have hc8 := Hc8.out
              rw [eh] at hc8
              have hb8 : ∀ d, isBlk (.slice va' (X.fs.zip (List.replicate X.fs.length (0, 0)) ++ [((⟨J, f.t, pi, pr, f.s⟩, (0, 0)) : FR)]).length vcap') d → ((wr.alloc (.cells #[.int .i64 (J : Nat), .int .i64 f.t, .int .i64 (pi : Nat), .int .i64 (pr : Nat), .int .i64 0, .int .i64 0, .string f.s] 109)).drew).heap.size ≤ d ∨ isBlk fv d := fun d ⟨n', c', e⟩ => Hb8.out d n' c' e
              have R := HM3.out.addF (l := f.ps.map (·.t)) (fun_eq Hf8.out) hc8 (by rw [eh] at hb8; exact hb8) (by rw [hsz]; omega) (by rw [hsz]; omega) hxo
              have FN : Fr (MSc A (.slice none 0 0) vv) w _ := ((HF2.out.1.trans HF2.out.2 (fun _ _ h => h.elim)).trans (fun_eq Hf8.out) (fun c hc h => absurd (HFV.out c h) (Nat.not_le.2 hc))).setC A.m 3 (.slice va' (X.fs.zip (List.replicate X.fs.length (0, 0)) ++ [((⟨J, f.t, pi, pr, f.s⟩, (0, 0)) : FR)]).length vcap') (fun _ => .inl rfl)
              have hws := HF2.out.1.size
              go_roundg r.length
              case measure => have := HR.out.2.2; omega
              case rel =>
                have hlen : (X.fs.zip (List.replicate X.fs.length (0, 0)) ++ [(((⟨J, f.t, pi, pr, f.s⟩ : Fh), (0, 0)) : FR)]).length = X.fs.length + 1 := by simp
                rw [hlen] at FN hb8
                rw [← eh, hlen] at R
                rw [eh] at R
                refine ⟨b' + szF f, r, _, .slice va' (X.fs.length + 1) vcap', rfl, Nat.le_refl _, HR.out.1, HR.out.2.1, ?_, fun d hd => ?_, ?_, HE.out⟩
                · rw [List.length_append, List.length_singleton, List.replicate_succ']
                  exact R
                · rcases hb8 d hd with h | h
                  · omega
                  · exact HFV.out d h
                · exact FN
            | cons q ps =>
              obtain ⟨hnq, Lq⟩ := Lp.prm
              rw [show hdP x' (q :: ps) = (x' : Nat) from rfl]
              have z3 : decide ((x' : Int) ≥ 0) = true := decide_eq_true (by omega)
              obtain ⟨hxl, hnb, r0, n0, n1, n2, n3, n4, n5, n6, n7⟩ := C.node hnq
              try simp only at n0 n1 n2 n3 n4 n5 n6 n7
              have hxi : (x' : Int) < A.ns.length := by omega
              by_cases h4 : 4 ≤ pre.length
              · have z4 : decide ((pi : Int) + (pr : Int) ≥ 4) = true := decide_eq_true (by omega)
                have h45 : f.ps[4]? = some q := by rw [hps, List.getElem?_append_right (by omega), show 4 - pre.length = 0 by omega]; rfl
                rw [h45] at HE
                have hN := failM_live C 19 q.p
                clear hps h4 h45 C hpi hpr hsum
                go_wp2_with fail
                refine hN.mono ?_
                rintro v w3 ⟨rfl, C3, k3⟩
                clear hN
                go_wp2_with fail
                go_end0
                exact HdM.bad HE.out (F.trans k3 (MSc.backF HFV.out)) (by decide) HFV.out C3
              · have z4 : decide ((pi : Int) + (pr : Int) ≥ 4) = false := decide_eq_false (by omega)
                have hpp : pi + pr < 4 := by omega
                clear z2
                by_cases ht : 2 ≤ q.t
                · have z5 : decide (q.t ≥ 2) = true := decide_eq_true ht
                  have HI : Hid (cI ((pre ++ [q]).map (·.t)) = pi ∧ cR ((pre ++ [q]).map (·.t)) = pr + 1) := by
                    show _ ∧ _
                    rw [List.map_append, cI_app, cR_app, hpi, hpr]
                    simp only [List.map_cons, List.map_nil]
                    rw [cI_one, cR_one, if_pos ht, if_pos ht]
                    exact ⟨rfl, rfl⟩
                  have BZ := (BX.set 3 (.int .i64 ((pr : Int) + 1))).congr (fun o ho => fBox_pr _ _ _ _ _ o ho)
                  have FZ := (Fr.refl (fun b => b = fb) wr).setC fb 3 (.int .i64 ((pr : Int) + 1)) (fun _ => rfl)
                  have P3 := C.frame FZ (fun e => y1 e.symm) (fun _ e => y2 e.symm) (fun e => y3 e.symm) (fun e => y4 e.symm) (fun b hb => Hy5.out b hb)
                  have P4 := F.trans FZ (fun c hc e => absurd hc (Nat.not_lt.2 (by rw [e]; exact HB0.out)))
                  obtain ⟨_, hnb', r0', _, _, _, _, m4, _, _, _⟩ := P3.node hnq
                  try simp only at m4
                  have HP : Hid _ := And.intro P3 (And.intro P4 BZ)
                  have HS : Hid (f.ps = (pre ++ [q]) ++ ps ∧ pre.length < 4 ∧ ps.length + 1 ≤ gk) := ⟨by rw [hps]; simp, by omega, hpg⟩
                  have HL : Hid _ := Lq
                  clear P3 P4 BZ FZ C F BX hps hp4 hpi hpr hsum hpg Lq Lp h4 ht hnb' r0' m4
                  go_wp2_with fail
                  go_roundg ps.length
                  case measure => have := HS.out; omega
                  case rel => exact ⟨x' + 1, pre ++ [q], ps, pi, pr + 1, rfl, Nat.le_refl _, HS.out.1, by have := HS.out; simp; omega, HI.out.1, HI.out.2, HL.out, HP.out.1, HP.out.2.1, HP.out.2.2⟩
                · have z5 : decide (q.t ≥ 2) = false := decide_eq_false ht
                  have HI : Hid (cI ((pre ++ [q]).map (·.t)) = pi + 1 ∧ cR ((pre ++ [q]).map (·.t)) = pr) := by
                    show _ ∧ _
                    rw [List.map_append, cI_app, cR_app, hpi, hpr]
                    simp only [List.map_cons, List.map_nil]
                    rw [cI_one, cR_one, if_neg ht, if_neg ht]
                    exact ⟨rfl, rfl⟩
                  have BZ := (BX.set 2 (.int .i64 ((pi : Int) + 1))).congr (fun o ho => fBox_pi _ _ _ _ _ o ho)
                  have FZ := (Fr.refl (fun b => b = fb) wr).setC fb 2 (.int .i64 ((pi : Int) + 1)) (fun _ => rfl)
                  have P3 := C.frame FZ (fun e => y1 e.symm) (fun _ e => y2 e.symm) (fun e => y3 e.symm) (fun e => y4 e.symm) (fun b hb => Hy5.out b hb)
                  have P4 := F.trans FZ (fun c hc e => absurd hc (Nat.not_lt.2 (by rw [e]; exact HB0.out)))
                  obtain ⟨_, hnb', r0', _, _, _, _, m4, _, _, _⟩ := P3.node hnq
                  try simp only at m4
                  have HP : Hid _ := And.intro P3 (And.intro P4 BZ)
                  have HS : Hid (f.ps = (pre ++ [q]) ++ ps ∧ pre.length < 4 ∧ ps.length + 1 ≤ gk) := ⟨by rw [hps]; simp, by omega, hpg⟩
                  have HL : Hid _ := Lq
                  clear P3 P4 BZ FZ C F BX hps hp4 hpi hpr hsum hpg Lq Lp h4 ht hnb' r0' m4
                  go_wp2_with fail
                  go_roundg ps.length
                  case measure => have := HS.out; omega
                  case rel => exact ⟨x' + 1, pre ++ [q], ps, pi + 1, pr, rfl, Nat.le_refl _, HS.out.1, by have := HS.out; simp; omega, HI.out.1, HI.out.2, HL.out, HP.out.1, HP.out.2.1, HP.out.2.2⟩
end
end Go.Proofs.Qxb6500277aGreat
