/- The model checker: Check of a text that the parser takes. -/
import Derived.Test.Qxb6500277aGreatMD10
import Derived.Deep.Cut
namespace Go.Proofs.Qxb6500277aGreat
open Go Go.RowKit

set_option maxRecDepth 100000 in
set_option maxHeartbeats 16000000 in
theorem check_okM {w : World} {m q : Nat} (C : MCI w m q) (src : ByteArray) (he : ∀ ns root err pos, Ans src ns root err pos → err = 0) : Calls Tryz.prog 36 #[.pointer (some ⟨m, 0, none⟩), .string src] w (CkM w src) := by
  obtain ⟨b, Q⟩ := C
  have hlt := b.lt
  have c0 := b.cell (o := 0) (by omega)
  try simp only at c0
  have k0 := (Fr.refl (fun _ => False) w).alloc box10
  have hP := parseMM (Q.frame k0 (fun h => h)) src
  have HB : Hid (Blk (w.alloc box10) w.heap.size 10 z10) := box10_blk w
  have Hk0 : Hid _ := k0
  have Hs0 : Hid ((w.alloc box10).heap.size = w.heap.size + 1) := by show _ = _; simp [World.size_alloc]
  clear k0 b Q
  go_enter Tryz.func36, Tryz.ntmps36
  go_wp2_with fail
  refine hP.mono ?_
  rintro e w1 ⟨v, ns, root, err, pos, rfl, F1, hv, hvb, hA⟩
  obtain rfl := he _ _ _ _ hA
  obtain ⟨gs, hgs⟩ : ∃ gs, gs = treeOf src := ⟨_, rfl⟩
  obtain ⟨ok1, ok2, ok3, ok4, ok5⟩ := treeOf_spec hA
  rw [← hgs] at ok1 ok2 ok3
  have hKA0 : Ans src (flFs 0 (treeOf src)) (hdF 0 (treeOf src)) 0 0 := by rw [← hgs, ← ok2, ← ok3]; rw [ok4] at hA; exact hA
  have hL : ns.length ≤ 200 := ans_len hA
  subst ok4 ok3
  obtain ⟨a, ev⟩ := hv.sl
  subst ev
  have X2 := trC_blk w1 (.slice a ns.length ns.length) (hdF 0 gs) 0 0
  have K2 := (Fr.refl (fun _ => False) w1).alloc (.cells #[.slice a ns.length ns.length, .int .i64 (hdF 0 gs), .int .i64 0, .int .i64 0] 66)
  have s1 : w.heap.size < w1.heap.size := by have := F1.size; have := Hs0.out; omega
  have s2 : (w1.alloc (.cells #[.slice a ns.length ns.length, .int .i64 (hdF 0 gs), .int .i64 0, .int .i64 0] 66)).heap.size = w1.heap.size + 1 := by simp [World.size_alloc]
  obtain ⟨nb, hnb1, hnb2, hnb3⟩ : ∃ nb, (ns ≠ [] → a = some ⟨nb, 0, none⟩ ∧ ∃ g, Blk (w1.alloc (.cells #[.slice a ns.length ns.length, .int .i64 (hdF 0 gs), .int .i64 0, .int .i64 0] 66)) nb (ns.length * 8) g ∧ NdP g ns) ∧ w.heap.size < nb ∧ nb ≤ w1.heap.size := by
    rcases hv with ⟨h1, h2⟩ | ⟨b, g, h1, h2, h3, _⟩
    · exact ⟨w1.heap.size, fun h => absurd h2 h, s1, Nat.le_refl _⟩
    · have q1 := hvb b (by rw [h1]; exact ⟨_, _, rfl⟩)
      have hlb := h2.lt
      injection h1 with h1 _ _
      exact ⟨b, fun _ => ⟨h1, g, h2.frame K2 (fun h => h), h3⟩, by have := Hs0.out; omega, by omega⟩
  have HX : Hid _ := And.intro ((Hk0.out.trans F1 (fun _ _ h => h)).trans K2 (fun _ _ h => h)) (And.intro ((HB.out.frame F1 (fun h => h)).frame K2 (fun h => h)) (And.intro X2 (And.intro hnb1 s2)))
  have HG : Hid _ := And.intro ok1 (And.intro ok2 (And.intro ok5 (And.intro hKA0 hgs)))
  obtain ⟨tx, htx⟩ : ∃ tx, w1.heap.size = tx := ⟨_, rfl⟩
  clear hP F1 hv hvb hA ok1 ok2 ok5 hKA0 hgs K2 X2 hnb1 s2 c0
  unfold treeV
  go_wp2_with fail
  generalize hw2 : w1.alloc _ = w2
  have HX2 : Hid (Fr (fun _ => False) w w2 ∧ Blk w2 w.heap.size 10 z10 ∧ Blk w2 tx 4 (trC (.slice a ns.length ns.length) (hdF 0 gs) 0 0) ∧ (ns ≠ [] → a = some ⟨nb, 0, none⟩ ∧ ∃ g, Blk w2 nb (ns.length * 8) g ∧ NdP g ns) ∧ w2.heap.size = tx + 1) := by
    rw [← hw2, ← htx]; exact HX.out
  try rw [htx] at s1
  try rw [htx] at hnb3
  try rw [htx]
  clear HX hw2 htx
  obtain ⟨F2, BO, BX, hnb1, s2⟩ := HX2.out
  have hnl : nb < w2.heap.size := by omega
  have htl2 : tx < w2.heap.size := by omega
  clear s2
  have x0 := BX.cell (o := 0) (by omega)
  simp only [trC] at x0
  have xl := BX.lt
  clear F2 BO BX hnb1
  go_cut [6] from 37 (fun t wx => ∃ mm tb rb, t = .pointer (some ⟨mm, 0, none⟩) ∧ Born w2 nb ns a mm tb rb wx)
  case first =>
    refine wp_region_two [0, 1, 2, 3, 4, 6, 7, 8] [5, 9, 10, 11, 12] [9, 5, 10, 11, 12] (by kernel_rfl) (by kernel_rfl) ?_
    simp only [pick, List.filterMap_cons, List.filterMap_nil, List.getElem?_cons_zero, List.getElem?_cons_succ]
    go_wp2_with fail
    have hd : w2.drew.heap.size = w2.heap.size := by simp
    refine ⟨?_, ?_⟩
    · refine wpList_makeB (by rfl) 36 _ _ (by rfl) 3 1 8 (.int .i64 0) ns.length (by rfl) (by rfl) Tryz.underlying36 (by kernel_rfl) (by kernel_rfl) (by kernel_rfl) (by omega) (by omega) ?_
      intro wa fa za ba
      refine wpList_makeB (by rfl) 36 _ _ (by rfl) 3 1 8 (.int .i64 0) ns.length (by rfl) (by rfl) Tryz.underlying36 (by kernel_rfl) (by kernel_rfl) (by kernel_rfl) (by omega) (by omega) ?_
      intro wb fb zb bb
      rw [hd] at za
      have B1 := (made0c ba).frame fb (fun h => h)
      have B2 := made0c bb
      rw [hd] at B1 ⊢
      have hzb : wb.heap.size = wa.heap.size + 1 := zb
      have Hk : Hid _ := Born.mk (nb := nb) (a := a) ((((Fr.refl (fun _ => False) w2).drew).trans fa (fun _ _ h => h)).trans fb (fun _ _ h => h)) HX2.out.2.2.2.1 B1 B2 (by omega) (Nat.le_refl _) (by omega) (by omega) hL
      clear B1 B2 ba bb fa fb za zb hzb
      go_wp2_with fail
      refine ⟨by kernel_rfl, ?_⟩
      go_wp2_with fail
      go_meet
      exact ⟨_, _, _, rfl, Hk.out⟩
    · refine wpList_makeB (by rfl) 36 _ _ (by rfl) 3 1 8 (.int .i64 0) ns.length (by rfl) (by rfl) Tryz.underlying36 (by kernel_rfl) (by kernel_rfl) (by kernel_rfl) (by omega) (by omega) ?_
      intro wa fa za ba
      refine wpList_makeB (by rfl) 36 _ _ (by rfl) 3 1 8 (.int .i64 0) ns.length (by rfl) (by rfl) Tryz.underlying36 (by kernel_rfl) (by kernel_rfl) (by kernel_rfl) (by omega) (by omega) ?_
      intro wb fb zb bb
      rw [hd] at za
      have B1 := (made0c ba).frame fb (fun h => h)
      have B2 := made0c bb
      rw [hd] at B1 ⊢
      have hzb : wb.heap.size = wa.heap.size + 1 := zb
      have Hk : Hid _ := Born.mk (nb := nb) (a := a) ((((Fr.refl (fun _ => False) w2).drew).trans fa (fun _ _ h => h)).trans fb (fun _ _ h => h)) HX2.out.2.2.2.1 B2 B1 (by omega) (by omega) (Nat.le_refl _) (by omega) hL
      clear B1 B2 ba bb fa fb za zb hzb
      go_wp2_with fail
      refine ⟨by kernel_rfl, ?_⟩
      go_wp2_with fail
      go_meet
      exact ⟨_, _, _, rfl, Hk.out⟩
  case rest =>
    obtain ⟨mm, tb, rb, rfl, M0, FB⟩ := hcut
    obtain ⟨-, r1, r2, r3, r4, r5, r6, r7, r8, r9, r10, hz, hlm, hlt2, hlt3⟩ := M0.regs
    simp only at r1 r2 r3 r4 r5 r6 r7 r8 r9 r10 hz hlm hlt2 hlt3
    have hlo := M0.lo
    simp only at hlo
    have htr : tb ≠ rb := M0.dis.2.2.2.2.2
    have hrt : rb ≠ tb := fun e => htr e.symm
    have hmt : mm ≠ tb := M0.dis.2.1
    have hmr : mm ≠ rb := M0.dis.2.2.1
    have HM0 : Hid (MXc wc w2.heap.size ⟨mm, nb, tb, rb, ns, .slice a ns.length ns.length⟩ ⟨[], []⟩ 0 (blank (List.replicate ns.length 0) (List.replicate ns.length 0)) 0 0 (.slice none 0 0) (.slice none 0 0) ∧ Fr (fun _ => False) w2 wc) := ⟨M0, FB⟩
    clear M0 FB x0 xl
    go_wp2_with fail
    clear r1 r2 r3 r4 r5 r6 r7 r8 r9 r10 hz hlm hlt2 hlt3
    go_loopg [42] ns.length (fun g iv wr => ∃ (i : Nat) (ty rf : List Int), iv = .int .i64 i ∧ i + g = ns.length ∧ MXc wr w2.heap.size ⟨mm, nb, tb, rb, ns, .slice a ns.length ns.length⟩ ⟨[], []⟩ 0 (blank ty rf) 0 0 (.slice none 0 0) (.slice none 0 0) ∧ (∀ o, o < i → ty.getD o 0 = -1 ∧ rf.getD o 0 = -1) ∧ Fr (fun b => w2.heap.size ≤ b) w2 wr)
    case atStart => exact ⟨0, _, _, rfl, by omega, HM0.out.1, fun o ho => by omega, HM0.out.2.mono (fun _ _ h => h.elim)⟩
    case round =>
      clear HM0
      obtain ⟨i, ty, rf, rfl, hig, M, hfill, F⟩ := hrel
      have Hig : Hid _ := hig
      obtain ⟨-, r1, r2, r3, r4, r5, r6, r7, r8, r9, r10, hz, hlm, hlt2, hlt3⟩ := M.regs
      simp only at r1 r2 r3 r4 r5 r6 r7 r8 r9 r10 hz hlm hlt2 hlt3
      have htl : ty.length = ns.length := M.tyl
      have hrl : rf.length = ns.length := M.rfl'
      by_cases hi : i < ns.length
      · have z0 : decide ((i : Int) < ((ns.length : Nat) : Int)) = true := decide_eq_true (by omega)
        have t0 := M.tyb.cell (o := i) hi
        have f0 := M.rfb.cell (o := i) hi
        simp only at t0 f0
        have tz := M.tyb.frozen
        have fz := M.rfb.frozen
        simp only at tz fz
        have hii : (i : Int) < 200 := by omega
        have N1 := ((M.setTy i (-1)).setRf i (-1)).same ((Fr.refl _ _).drew)
        have N2 := ((F.setC tb i (.int .i64 (-1)) (fun _ => hlo.2.1)).setC rb i (.int .i64 (-1)) (fun _ => hlo.2.2)).drew
        simp only at N1
        have HN : Hid _ := And.intro N1 (And.intro N2 (And.intro hfill (And.intro htl hrl)))
        clear M F hfill hig N1 N2 htl hrl hlo r4 r5 r6 r7 r8 r9 r10
        go_wp2_with fail
        go_region
        go_wp2_with fail
        go_roundg (gk - 1)
        case measure => have := Hig.out; omega
        case rel =>
          obtain ⟨N1, N2, hfill, htl, hrl⟩ := HN.out
          refine ⟨i + 1, ty.set i (-1), rf.set i (-1), by simp, by have := Hig.out; omega, N1, fun o ho => ?_, N2⟩
          by_cases e : o = i
          · subst e; simp [List.getD_eq_getElem?_getD, htl, hrl, hi]
          · have := hfill o (by omega)
            simpa [List.getD_eq_getElem?_getD, List.getElem?_set_ne (fun h => e h.symm)] using this
      · have z0 : decide ((i : Int) < ((ns.length : Nat) : Int)) = false := decide_eq_false (by omega)
        have z1 : decide (i < ns.length) = false := decide_eq_false hi
        obtain rfl := fill_eq htl (fun o ho => (hfill o (by omega)).1)
        obtain rfl := fill_eq hrl (fun o ho => (hfill o (by omega)).2)
        obtain ⟨ok1, ok2, ok5, hKA0, hgs⟩ := HG.out
        have LL : Lie ns 0 (flFs 0 gs) := by rw [← ok2]; exact Lie.all ns
        have hH := headsM M ok5 ok1 LL
        have BX := HX2.out.2.2.1.frame F (by omega)
        have x1 := BX.cell (o := 1) (by omega)
        simp only [trC] at x1
        have xl := BX.lt
        have HM : Hid _ := And.intro M F
        have HL : Hid (Lie ns 0 (flFs 0 gs)) := LL
        clear hig hi hfill M F BX ok1 ok2 ok5 hKA0 hgs LL r1 r2 r3 r4 r5 r6 r7 r8 r9 r10 hz hlm hlt2 hlt3 htl hrl hlo
        go_wp2_with fail
        refine hH.mono ?_
        rintro e w3 ⟨rfl, FH, fv, hfv, h⟩
        clear hH xl x1
        have F3 : Fr (fun b => w2.heap.size ≤ b) w2 w3 := HM.out.2.trans (HM.out.1.ups FH) (fun _ _ h => h)
        have HF3 : Hid _ := F3
        have HST : Hid ((∃ (X : Cx) (vv : Value) (sm : Ck) (cu : Nat), ckH 0 gs ⟨[], []⟩ = .ok X ∧ MXc w3 w2.heap.size ⟨mm, nb, tb, rb, ns, .slice a ns.length ns.length⟩ X cu sm 0 0 fv vv ∧ ckFs X 0 0 gs (bdS X ns) = ckFs X 0 0 gs (fresh0 sm)) ∨ ∃ (X : Cx) (vv : Value) (sm : Ck) (cu : Nat) (er po : Int), er ≠ 0 ∧ ckAll gs src.size = .bad er po ∧ MXc w3 w2.heap.size ⟨mm, nb, tb, rb, ns, .slice a ns.length ns.length⟩ X cu sm er po fv vv) := by
          cases hq : ckH 0 gs ⟨[], []⟩ with
          | ok X =>
            rw [hq] at h
            exact .inl ⟨X, _, _, _, rfl, h, rfl⟩
          | bad er po =>
            rw [hq] at h
            obtain ⟨h0, X', s', C⟩ := h
            exact .inr ⟨X', _, s', _, er, po, h0, ckAll_h hq, C⟩
        clear h F3 hfv FH HM
        go_wp2_with fail
        go_loopg [8] gs.length (fun g iv wr => ∃ (i : Nat) (fv : Value), iv = .int .i64 i ∧ i ≤ 8 ∧ Fr (fun b => w2.heap.size ≤ b) w2 wr ∧ ((∃ (X : Cx) (vv : Value) (sm : Ck) (cu b' : Nat) (fs : List Fnc), fs.length ≤ g ∧ Lie ns b' (flFs b' fs) ∧ (∀ f ∈ fs, OkF f) ∧ HdsAt X b' i fs ∧ ckH 0 gs ⟨[], []⟩ = .ok X ∧ MXc wr w2.heap.size ⟨mm, nb, tb, rb, ns, .slice a ns.length ns.length⟩ X cu sm 0 0 fv vv ∧ ckFs X 0 0 gs (bdS X ns) = ckFs X i b' fs (fresh0 sm)) ∨ ∃ (X : Cx) (vv : Value) (sm : Ck) (cu : Nat) (er po : Int), er ≠ 0 ∧ ckAll gs src.size = .bad er po ∧ MXc wr w2.heap.size ⟨mm, nb, tb, rb, ns, .slice a ns.length ns.length⟩ X cu sm er po fv vv))
        case atStart =>
          refine ⟨0, fv, rfl, by omega, HF3.out, ?_⟩
          rcases HST.out with ⟨X, vv, sm, cu, h1, h2, h3⟩ | h
          · exact .inl ⟨X, vv, sm, cu, 0, gs, Nat.le_refl _, HL.out, HG.out.1, (ckH_ok gs 0 ⟨[], []⟩ X h1 rfl).1, h1, h2, h3⟩
          · exact .inr h
        case round =>
          clear HST HF3
          obtain ⟨i, fv, rfl, hi8, F, h⟩ := hrel
          rcases h with ⟨X, vv, sm, cu, b', fs, hfg, L, hO, hHd, hX, M, hE⟩ | ⟨X, vv, sm, cu, er, po, h0, hK, M⟩
          · obtain ⟨-, r1, r2, r3, r4, r5, r6, r7, r8, r9, r10, hz, hlm, hlt2, hlt3⟩ := M.regs
            simp only at r1 r2 r3 r4 r5 r6 r7 r8 r9 r10 hz hlm hlt2 hlt3
            obtain ⟨fa, fc, efv⟩ := M.fs.sl
            rw [zip_len M] at efv
            have hx8 := M.xok.le
            rw [efv] at r3
            have Hefv : Hid _ := efv
            clear efv
            cases fs with
            | cons f r =>
              simp only [HdsAt] at hHd
              obtain ⟨hi, h1, h2, h3, h4, h5⟩ := hHd
              have z0 : decide ((i : Int) < ((X.fs.length : Nat) : Int)) = true := decide_eq_true (by omega)
              obtain ⟨La, Lb⟩ := L.fns
              have hB := bodyM (pch_of (ckH_ok gs 0 ⟨[], []⟩ X hX rfl).1 HL.out) M (hO f (List.mem_cons_self ..)) hi h1 La
              have HN : Hid _ := And.intro Lb (And.intro (fun g (hg : g ∈ r) => hO g (List.mem_cons_of_mem _ hg)) (And.intro h5 (And.intro hX (And.intro (M.up) (And.intro F hfg)))))
              have HE : Hid (ckFs X 0 0 gs (bdS X ns) = (ckF X i b' f sm).bind fun _ s => ckFs X (i + 1) (b' + szF f) r s) := by show _ = _; rw [hE]; simp only [ckFs]; rw [ckF_fresh]
              clear hE h1 h2 h3 h4 h5 La Lb L hO hX F hfg M
              go_wp2_with fail
              refine hB.mono ?_
              rintro e w4 ⟨rfl, k4, vv', hvv', h⟩
              clear hB
              go_wp2_with fail
              obtain ⟨Lb, hO, h5, hX, hup, F, hfg⟩ := HN.out
              have F4 : Fr (fun b => w2.heap.size ≤ b) w2 w4 := F.trans (k4.mono (fun b _ hb => hup b hb)) (fun _ _ h => h)
              go_roundg r.length
              case measure => simp only [List.length_cons] at hfg; omega
              case rel =>
                refine ⟨i + 1, fv, by simp, by omega, F4, ?_⟩
                cases hq : ckF X i b' f sm with
                | ok u s' =>
                  rw [hq] at h
                  obtain ⟨sm', C', hs'⟩ := h
                  exact .inl ⟨X, vv', sm', _, b' + szF f, r, Nat.le_refl _, Lb, hO, h5, hX, C', by rw [HE.out, hq, Rc.bind_ok, hs']⟩
                | bad er po =>
                  rw [hq] at h
                  obtain ⟨h0, sm', C'⟩ := h
                  exact .inr ⟨X, vv', sm', _, er, po, h0, ckAll_b hX HG.out.2.1 (by rw [HE.out, hq]; rfl), C'⟩
            | nil =>
              simp only [HdsAt] at hHd
              have z0 : decide ((i : Int) < ((X.fs.length : Nat) : Int)) = false := decide_eq_false (by omega)
              have z1 : decide (i < X.fs.length) = false := decide_eq_false (by omega)
              have hE2 : ckFs X 0 0 gs (bdS X ns) = .ok () (fresh0 sm) := by rw [hE]; simp only [ckFs]
              have hFn := fnM M mainB
              have HM : Hid _ := And.intro M (And.intro F (And.intro hX hE2))
              clear hHd hE hE2 hX M F hfg L hO
              go_wp2_with fail
              refine hFn.mono ?_
              rintro e w4 ⟨rfl, k4⟩
              clear hFn
              obtain ⟨M, F, hX, hE2⟩ := HM.out
              have M4 := M.same k4
              have F4 : Fr (fun b => w2.heap.size ≤ b) w2 w4 := F.trans k4 (fun _ _ h => h.elim)
              clear r1 r2 r3 r4 r5 r6 r7 r8 r9 r10 hz hlm hlt2 hlt3 M F k4 HM
              have hHA := (ckH_ok gs 0 ⟨[], []⟩ X hX rfl).1
              have HHA : Hid (HdsAt X 0 0 gs) := hHA
              have HQ : Hid (ckH 0 gs ⟨[], []⟩ = .ok X ∧ ckFs X 0 0 gs (bdS X ns) = .ok () (fresh0 sm)) := ⟨hX, hE2⟩
              clear hX hE2 hHA
              cases hf : fndF mainB X.fs with
              | none =>
                rw [show oi none = -1 from rfl]
                have HKq : Hid (ckAll gs src.size = .bad 20 src.size) := ckAll_m HQ.out.1 HG.out.2.1 HQ.out.2 (by unfold mainT; rw [hf])
                have HZ : Hid _ := And.intro (HX2.out.1.trans F4 (fun b hb h => by have := HX2.out.1.size; omega)) (HX2.out.2.1.frame F4 (by omega))
                clear hf M4 F4
                have hrf := badM (w4) 20 (src.size : Int)
                go_wp2_with fail
                refine hrf.mono ?_
                rintro v' wE ⟨rfl, F9⟩
                clear hrf
                have BE : Blk wE w.heap.size 10 z10 := ((HZ.out.2).frame F9 (fun h => h))
                have FE : Fr (fun _ => False) w wE := ((HZ.out.1).trans F9 (fun _ _ h => h))
                have o0 := BE.cell (o := 0) (by omega)
                have o1 := BE.cell (o := 1) (by omega)
                have o2 := BE.cell (o := 2) (by omega)
                have o3 := BE.cell (o := 3) (by omega)
                have o4 := BE.cell (o := 4) (by omega)
                have o5 := BE.cell (o := 5) (by omega)
                have o6 := BE.cell (o := 6) (by omega)
                have o7 := BE.cell (o := 7) (by omega)
                have o8 := BE.cell (o := 8) (by omega)
                have o9 := BE.cell (o := 9) (by omega)
                simp only [z10] at o0 o1 o2 o3 o4 o5 o6 o7 o8 o9
                have oz := BE.frozen
                have ol := BE.lt
                have HE2 : Hid _ := And.intro (BE.set10 (.slice none 0 0) (.int .i64 (-1)) (.int .i64 0) (.int .i64 0) (.slice none 0 0) (.slice none 0 0) (.slice none 0 0) (.int .i64 (-1)) (.int .i64 20) (.int .i64 (src.size : Int))) (FE.set10 (b := w.heap.size) (fun h => absurd h (Nat.lt_irrefl _)) (.slice none 0 0) (.int .i64 (-1)) (.int .i64 0) (.int .i64 0) (.slice none 0 0) (.slice none 0 0) (.slice none 0 0) (.int .i64 (-1)) (.int .i64 20) (.int .i64 (src.size : Int)))
                clear BE FE F9
                unfold refV chkV
                go_wp2_with fail
                obtain ⟨BE, FE⟩ := HE2.out
                have q0 := BE.cell (o := 0) (by omega)
                have q1 := BE.cell (o := 1) (by omega)
                have q2 := BE.cell (o := 2) (by omega)
                have q3 := BE.cell (o := 3) (by omega)
                have q4 := BE.cell (o := 4) (by omega)
                have q5 := BE.cell (o := 5) (by omega)
                have q6 := BE.cell (o := 6) (by omega)
                have q7 := BE.cell (o := 7) (by omega)
                have q8 := BE.cell (o := 8) (by omega)
                have q9 := BE.cell (o := 9) (by omega)
                simp only [c10, set10] at q0 q1 q2 q3 q4 q5 q6 q7 q8 q9
                refine bodyPost_ret (v := refV 20 (src.size : Int)) (by simp [results, Tryz.results36, go_sem, refV, chkV, q0, q1, q2, q3, q4, q5, q6, q7, q8, q9]) rfl ?_
                exact CkM.bad FE (KA.refuse HG.out.2.2.2.1 (by rw [← HG.out.2.2.2.2]; exact HKq.out))
              | some mi =>
                have hmi : mi < X.fs.length := (lst_some hf).1
                have hm8 : mi < 8 := by omega
                rw [show oi (some mi) = (mi : Int) from rfl]
                have z3 : decide ((mi : Int) < 0) = false := decide_eq_false (by omega)
                have hr : mainT X gs src.size = if (fAt X.fs mi).pi + (fAt X.fs mi).pr ≠ 0 ∨ (fAt X.fs mi).ret ≠ 0 then some ((gs[mi]?.map (·.p)).getD 0) else none := by unfold mainT; rw [hf]
                have hg := HHA.out.pre
                obtain ⟨f, J, nd, g1, g2, g3, g4⟩ := HHA.out.get gs 0 0 HL.out mi (by omega)
                rw [Nat.zero_add] at g2
                rw [g1] at hr
                simp only [Option.map_some, Option.getD_some] at hr
                obtain ⟨fb0, fc0, efv, hfb0, ibf, c0, c1, c2, c3, c4, c5, c6, cz⟩ := M4.func hmi
                rw [g2] at c0
                obtain ⟨hk, hnbl, r0, n0, n1, n2, n3, n4, n5, n6, n7⟩ := M4.node g3
                rw [g4] at n6
                simp only at hk hnbl r0 n0 n1 n2 n3 n4 n5 n6 n7
                obtain ⟨-, r1, r2, r3, r4, r5, r6, r7, r8, r9, r10, hz, hlm, hlt2, hlt3⟩ := M4.regs
                simp only at r1 r2 r3 r4 r5 r6 r7 r8 r9 r10 hz hlm hlt2 hlt3
                rw [efv] at r3
                have hJi : (J : Int) < ns.length := by omega
                have hmii : (mi : Int) < (X.fs.length : Nat) := by omega
                obtain ⟨q4, qi, qr⟩ := M4.xok.p4 mi hmi
                have hcnt := cIR (pAt X.pt mi)
                have hpi : (fAt X.fs mi).pi ≤ 4 := by omega
                have hpr : (fAt X.fs mi).pr ≤ 4 := by omega
                have Hg : Hid _ := And.intro g2 (And.intro g3 g4)
                have HM4 : Hid _ := And.intro M4 F4
                have Hf : Hid (_ = _) := hf
                have Hefv4 : Hid _ := efv
                clear hf hg g1 g2 g3 g4 qi qr hcnt q4 M4 F4 efv
                by_cases h1 : (fAt X.fs mi).pi + (fAt X.fs mi).pr = 0
                · have e1 : (((fAt X.fs mi).pi : Int) + ((fAt X.fs mi).pr : Int) != 0) = false := by simp; omega
                  have e2 : (((fAt X.fs mi).pi : Int) + ((fAt X.fs mi).pr : Int) == 0) = true := by simp; omega
                  by_cases h2 : (fAt X.fs mi).ret = 0
                  · rw [if_neg (by simp [h1, h2])] at hr
                    rw [h2] at c1
                    have HR : Hid (_ = _) := hr
                    clear hr h1 h2
                    go_wp2_with fail
                    go_quiet (fail)
                    generalize hw5 : w4.drewN _ = w5
                    have kd : Fr (fun _ => False) w4 w5 := hw5 ▸ (Fr.refl _ _).drewN _
                    have M5 := HM4.out.1.same kd
                    have F5 : Fr (fun b => w2.heap.size ≤ b) w2 w5 := HM4.out.2.trans kd (fun _ _ h => h.elim)
                    clear hw5 kd c0 c1 c2 c3 c4 c5 c6 cz hnbl r0 n0 n1 n2 n3 n4 n5 n6 n7 r1 r2 r3 r4 r5 r6 r7 r8 r9 r10 hz hlm hlt2 hlt3 hfb0
                    obtain ⟨-, r1, r2, r3, r4, r5, r6, r7, r8, r9, r10, hz, hlm, hlt2, hlt3⟩ := M5.regs
                    simp only at r1 r2 r3 r4 r5 r6 r7 r8 r9 r10 hz hlm hlt2 hlt3
                    obtain ⟨fb1, fc1, gF, efv, hcap, BFv, hFv⟩ : ∃ fb1 fc1 gF, fv = .slice (some ⟨fb1, 0, none⟩) X.fs.length fc1 ∧ X.fs.length ≤ fc1 ∧ Blk w5 fb1 (fc1 * 7) gF ∧ ∀ o, o < X.fs.length * 7 → gF o = bufF2 (X.fs.zip sm.lim) o := by
                      have zl := zip_len M5
                      rcases M5.fs with ⟨_, e⟩ | ⟨b, cap, f, e1, e2, e3, e4⟩
                      · rw [e] at zl; simp at zl; omega
                      · rw [zl] at e1 e2 e4; exact ⟨b, cap, f, e1, e2, e3, e4⟩
                    have hbv : isBlk fv fb1 := ⟨_, _, efv⟩
                    have HEf : Hid (fv = .slice (some ⟨fb1, 0, none⟩) X.fs.length fc1) := efv
                    rw [efv] at r3
                    have BX := HX2.out.2.2.1.frame F5 (by omega)
                    have BO := HX2.out.2.1.frame F5 (by omega)
                    obtain ⟨fb, hfb⟩ : ∃ fb, w5.heap.size = fb := ⟨_, rfl⟩
                    have Hfb : Hid _ := hfb
                    have HM5 : Hid _ := And.intro M5 (And.intro F5 (And.intro BX (And.intro BO (And.intro BFv hFv))))
                    have hm1 : fb1 < w5.heap.size := BFv.lt
                    rw [hfb] at hm1 hlm hlt2 hlt3
                    have hsz2 : w2.heap.size ≤ fb := by rw [← hfb]; exact F5.size
                    have fdd := M5.fd fb1 hbv
                    simp only at fdd
                    obtain ⟨d1, d2, d3, d4, d5, d6⟩ := fdd
                    have nbl : nb < fb := by omega
                    have x0 := BX.cell (o := 0) (by omega)
                    have hH5 : Hid (w2.heap.size ≤ fb1) := d6
                    clear M5 F5 BX BO BFv hFv hfb hbv efv d5 d6 x0
                    have HT7 : Hid (∀ wA, Fr (fun _ => False) w5 wA → mm < wA.heap.size ∧ tb < wA.heap.size ∧ rb < wA.heap.size ∧ fb1 < wA.heap.size ∧ wA.cell? ⟨mm, 3, none⟩ = some (.slice (some ⟨fb1, 0, none⟩) X.fs.length fc1) ∧ wA.cell? ⟨mm, 1, none⟩ = some (.slice (some ⟨tb, 0, none⟩) ns.length ns.length) ∧ wA.cell? ⟨mm, 2, none⟩ = some (.slice (some ⟨rb, 0, none⟩) ns.length ns.length) ∧ Blk wA fb1 (fc1 * 7) gF) := fun wA FA => by
                      have MA := HM5.out.1.same FA
                      obtain ⟨-, r1, r2, r3, _, _, _, _, _, _, _, _, q1, q2, q3⟩ := MA.regs
                      rw [HEf.out] at r3
                      have hB := HM5.out.2.2.2.2.1.frame FA (fun h => h)
                      exact ⟨q1, q2, q3, hB.lt, r3, r1, r2, hB⟩
                    have HT8 : Hid (∀ wA, Fr (fun _ => False) w5 wA → ∀ wC, Fr (fun b => b = fb) wA wC → mm < wC.heap.size ∧ tb < wC.heap.size ∧ rb < wC.heap.size ∧ wC.cell? ⟨mm, 1, none⟩ = some (.slice (some ⟨tb, 0, none⟩) ns.length ns.length) ∧ wC.cell? ⟨mm, 2, none⟩ = some (.slice (some ⟨rb, 0, none⟩) ns.length ns.length) ∧ MXc wC w2.heap.size ⟨mm, nb, tb, rb, ns, .slice a ns.length ns.length⟩ X cu sm 0 0 fv vv ∧ Blk wC tx 4 (trC (.slice a ns.length ns.length) (hdF 0 gs) 0 0) ∧ Blk wC w.heap.size 10 z10) := fun wA FA wC FC => by
                      have hfb' := Hfb.out
                      have MA := HM5.out.1.same FA
                      have MC := MA.frame FC (by show mm ≠ fb; omega) (fun _ => by show nb ≠ fb; omega) (by show tb ≠ fb; omega) (by show rb ≠ fb; omega) (fun d hd e => by
                        rcases hd with h | h
                        · have := HM5.out.1.fs.bk h; omega
                        · have := HM5.out.1.vs.bk h; omega)
                      obtain ⟨-, r1, r2, _, _, _, _, _, _, _, _, _, q1, q2, q3⟩ := MC.regs
                      exact ⟨q1, q2, q3, r1, r2, MC, (HM5.out.2.2.1.frame FA (fun h => h)).frame FC (by omega), (HM5.out.2.2.2.1.frame FA (fun h => h)).frame FC (by omega)⟩
                    have Hone : Hid (∀ j, j < X.fs.length * 7 → (gF (0 + j)).oneCell' = true) := fun j hj => by
                      rw [Nat.zero_add, HM5.out.2.2.2.2.2 j hj]
                      unfold bufF2
                      have h7 : j % 7 < 7 := by omega
                      rcases lt7c h7 with h | h | h | h | h | h | h <;> rw [h] <;> rfl
                    go_wp2_with (first
                      | (refine wpList_makeB (w := w5) (by rfl) 67 _ _ (by rfl) 109 7 64 zFunc X.fs.length (by rfl) (by rfl) Tryz.underlying67 (by kernel_rfl) (by kernel_rfl) (by kernel_rfl) (by omega) (by omega) ?_
                         intro wA FA sA BA
                         rw [Hfb.out] at BA ⊢
                         obtain ⟨g1, g2, g3, g4, g5, g6, g7, hsrc⟩ := HT7.out wA FA
                         have HFA : Hid _ := FA
                         clear FA sA)
                      | (refine wpList_copyA (by rfl) _ _ 67 67 (by rfl) 109 7 fb 0 X.fs.length X.fs.length fb1 0 X.fs.length fc1 (X.fs.length * 7) (fc1 * 7) X.fs.length _ gF (by rfl) (by rfl) Tryz.underlying67 (by kernel_rfl) (by simp) BA hsrc (by omega) (by omega) Hone.out ?_
                         intro wC FC BC
                         obtain ⟨j1, j2, j3, j4, j5, j6, BT, BO⟩ := HT8.out wA HFA.out wC FC
                         have HFC : Hid _ := And.intro FC BC
                         have t0 := BT.cell (o := 0) (by omega)
                         have t1 := BT.cell (o := 1) (by omega)
                         have t2 := BT.cell (o := 2) (by omega)
                         have t3 := BT.cell (o := 3) (by omega)
                         simp only [trC] at t0 t1 t2 t3
                         have o0 := BO.cell (o := 0) (by omega)
                         have o1 := BO.cell (o := 1) (by omega)
                         have o2 := BO.cell (o := 2) (by omega)
                         have o3 := BO.cell (o := 3) (by omega)
                         have o4 := BO.cell (o := 4) (by omega)
                         have o5 := BO.cell (o := 5) (by omega)
                         have o6 := BO.cell (o := 6) (by omega)
                         have o7 := BO.cell (o := 7) (by omega)
                         have o8 := BO.cell (o := 8) (by omega)
                         have o9 := BO.cell (o := 9) (by omega)
                         simp only [z10] at o0 o1 o2 o3 o4 o5 o6 o7 o8 o9
                         have tl := BT.lt
                         have oz := BO.frozen
                         have ol := BO.lt
                         clear FC BC BT BO hsrc BA g1 g2 g3 g4 g5 g6 g7))
                    refine wp_region_text (by kernel_rfl) (by kernel_rfl) ?_
                    go_wp2_with fail
                    refine ⟨by kernel_rfl, ?_⟩
                    go_wp2_with fail
                    obtain ⟨m', hm1', hall⟩ := ckAll_o HQ.out.1 HG.out.2.1 HQ.out.2 HR.out
                    have hmm' : m' = mi := by
                      have h9 := Hf.out
                      rw [hm1'] at h9
                      injection h9
                    have hall2 : ckAll (treeOf src) src.size = .ok X (fresh0 sm) mi := by rw [← HG.out.2.2.2.2, ← hmm']; exact hall
                    have hn0 : ns ≠ [] := fun e => by
                      have h1 := HHA.out.pre
                      have h2 := HG.out.2.1
                      rw [e] at h2
                      have h3 := congrArg List.length h2
                      rw [flFs_len] at h3
                      cases hgg : gs with
                      | nil => rw [hgg] at h1; simp at h1; omega
                      | cons f r => rw [hgg] at h3; simp only [szFs, List.length_nil] at h3; have := szF_pos f; omega
                    obtain ⟨ea, _⟩ := HX2.out.2.2.2.1 hn0
                    obtain ⟨_, _, _, _, _, MC, _, BO⟩ := HT8.out wA HFA.out wC HFC.out.1
                    subst ea
                    have FIN : Fr (fun d => d = w.heap.size) wC _ := ((Fr.refl (fun d => d = w.heap.size) wC).set10 (b := w.heap.size) (fun _ => rfl) (.slice (some ⟨nb, 0, none⟩) ns.length ns.length) (.int .i64 (hdF 0 gs)) (.int .i64 0) (.int .i64 0) (.slice (some ⟨tb, 0, none⟩) ns.length ns.length) (.slice (some ⟨rb, 0, none⟩) ns.length ns.length) (.slice (some ⟨fb, 0, none⟩) X.fs.length X.fs.length) (.int .i64 mi) (.int .i64 0) (.int .i64 0)).drew
                    have BF := (BO.set10 (.slice (some ⟨nb, 0, none⟩) ns.length ns.length) (.int .i64 (hdF 0 gs)) (.int .i64 0) (.int .i64 0) (.slice (some ⟨tb, 0, none⟩) ns.length ns.length) (.slice (some ⟨rb, 0, none⟩) ns.length ns.length) (.slice (some ⟨fb, 0, none⟩) X.fs.length X.fs.length) (.int .i64 mi) (.int .i64 0) (.int .i64 0)).drew
                    have hff := Hfb.out
                    have s5 := HM5.out.2.1.size
                    have s2' := HX2.out.2.2.2.2
                    have FALL : Fr (fun _ => False) w _ := (((HX2.out.1.trans HM5.out.2.1 (fun b hb h => by omega)).trans HFA.out (fun _ _ h => h)).trans HFC.out.1 (fun b hb h => by omega)).trans FIN (fun b hb h => by omega)
                    have hlm2 : (X.fs.zip sm.lim).length = X.fs.length := zip_len MC
                    have RES := CkM.good (w2 := w2) (src := src) (root := hdF 0 gs) MC (by omega) (by show w.heap.size ≤ nb; omega) (by show nb < w2.heap.size; omega) HG.out.2.2.2.1 hall2 (by show ns = _; rw [HG.out.2.1, HG.out.2.2.2.2]) (by rw [HG.out.2.2.2.2]) hn0 HFC.out.2 (FrP.lay hlm2 HM5.out.2.2.2.2.2) (by omega) (by omega) ⟨by show fb ≠ tb; omega, by show fb ≠ rb; omega⟩ (by show nb ≠ w.heap.size; omega) FIN (by omega) FALL
                    have q0 := BF.cell (o := 0) (by omega)
                    have q1 := BF.cell (o := 1) (by omega)
                    have q2 := BF.cell (o := 2) (by omega)
                    have q3 := BF.cell (o := 3) (by omega)
                    have q4 := BF.cell (o := 4) (by omega)
                    have q5 := BF.cell (o := 5) (by omega)
                    have q6 := BF.cell (o := 6) (by omega)
                    have q7 := BF.cell (o := 7) (by omega)
                    have q8 := BF.cell (o := 8) (by omega)
                    have q9 := BF.cell (o := 9) (by omega)
                    simp only [c10, set10] at q0 q1 q2 q3 q4 q5 q6 q7 q8 q9
                    refine bodyPost_ret (v := chkV (.slice (some ⟨nb, 0, none⟩) ns.length ns.length) (hdF 0 gs) 0 0 (.slice (some ⟨tb, 0, none⟩) ns.length ns.length) (.slice (some ⟨rb, 0, none⟩) ns.length ns.length) (.slice (some ⟨fb, 0, none⟩) X.fs.length X.fs.length) mi 0 0) (by simp [results, Tryz.results36, go_sem, chkV, q0, q1, q2, q3, q4, q5, q6, q7, q8, q9]) rfl ?_
                    exact RES
                  · rw [if_pos (.inr h2)] at hr
                    have e3 : ((fAt X.fs mi).ret != 0) = true := by simpa using h2
                    have e4 : ((fAt X.fs mi).ret == 0) = false := by simpa using h2
                    have HR : Hid (_ = _) := hr
                    clear hr h1 h2
                    go_wp2_with fail
                    go_quiet (fail)
                    go_wp2_with fail
                    generalize hw5 : w4.drewN _ = w5
                    have kd : Fr (fun _ => False) w4 w5 := hw5 ▸ (Fr.refl _ _).drewN _
                    have M5 := HM4.out.1.same kd
                    have F5 : Fr (fun b => w2.heap.size ≤ b) w2 w5 := HM4.out.2.trans kd (fun _ _ h => h.elim)
                    clear hw5 kd c0 c1 c2 c3 c4 c5 c6 cz hnbl r0 n0 n1 n2 n3 n4 n5 n6 n7 r1 r2 r3 r4 r5 r6 r7 r8 r9 r10 hz hlm hlt2 hlt3 hfb0
                    obtain ⟨-, r1, r2, r3, r4, r5, r6, r7, r8, r9, r10, hz, hlm, hlt2, hlt3⟩ := M5.regs
                    simp only at r1 r2 r3 r4 r5 r6 r7 r8 r9 r10 hz hlm hlt2 hlt3
                    obtain ⟨fb1, fc1, efv, hfb0, ibf1, c0, c1, c2, c3, c4, c5, c6, cz⟩ := M5.func hmi
                    rw [efv] at r3
                    rw [Hg.out.1] at c0
                    obtain ⟨_, hnbl, r0, n0, n1, n2, n3, n4, n5, n6, n7⟩ := M5.node Hg.out.2.1
                    rw [Hg.out.2.2] at n6
                    simp only at hnbl r0 n0 n1 n2 n3 n4 n5 n6 n7
                    have HKq : Hid (ckAll gs src.size = .bad 20 f.p) := ckAll_m HQ.out.1 HG.out.2.1 HQ.out.2 HR.out
                    have HZ : Hid _ := And.intro (HX2.out.1.trans F5 (fun b hb h => by have := HX2.out.1.size; omega)) (HX2.out.2.1.frame F5 (by omega))
                    clear M5 F5 efv ibf1
                    have hrf := badM (w5.drew) 20 f.p
                    go_wp2_with fail
                    refine wp_region_text (by kernel_rfl) (by kernel_rfl) ?_
                    go_wp2_with fail
                    refine hrf.mono ?_
                    rintro v' wE ⟨rfl, F9⟩
                    clear hrf
                    have BE : Blk wE w.heap.size 10 z10 := (((HZ.out.2).drew).frame F9 (fun h => h))
                    have FE : Fr (fun _ => False) w wE := ((HZ.out.1).drew.trans F9 (fun _ _ h => h))
                    have o0 := BE.cell (o := 0) (by omega)
                    have o1 := BE.cell (o := 1) (by omega)
                    have o2 := BE.cell (o := 2) (by omega)
                    have o3 := BE.cell (o := 3) (by omega)
                    have o4 := BE.cell (o := 4) (by omega)
                    have o5 := BE.cell (o := 5) (by omega)
                    have o6 := BE.cell (o := 6) (by omega)
                    have o7 := BE.cell (o := 7) (by omega)
                    have o8 := BE.cell (o := 8) (by omega)
                    have o9 := BE.cell (o := 9) (by omega)
                    simp only [z10] at o0 o1 o2 o3 o4 o5 o6 o7 o8 o9
                    have oz := BE.frozen
                    have ol := BE.lt
                    have HE2 : Hid _ := And.intro (BE.set10 (.slice none 0 0) (.int .i64 (-1)) (.int .i64 0) (.int .i64 0) (.slice none 0 0) (.slice none 0 0) (.slice none 0 0) (.int .i64 (-1)) (.int .i64 20) (.int .i64 f.p)) (FE.set10 (b := w.heap.size) (fun h => absurd h (Nat.lt_irrefl _)) (.slice none 0 0) (.int .i64 (-1)) (.int .i64 0) (.int .i64 0) (.slice none 0 0) (.slice none 0 0) (.slice none 0 0) (.int .i64 (-1)) (.int .i64 20) (.int .i64 f.p))
                    clear BE FE F9
                    unfold refV chkV
                    go_wp2_with fail
                    refine ⟨by kernel_rfl, ?_⟩
                    go_wp2_with fail
                    obtain ⟨BE, FE⟩ := HE2.out
                    have q0 := BE.cell (o := 0) (by omega)
                    have q1 := BE.cell (o := 1) (by omega)
                    have q2 := BE.cell (o := 2) (by omega)
                    have q3 := BE.cell (o := 3) (by omega)
                    have q4 := BE.cell (o := 4) (by omega)
                    have q5 := BE.cell (o := 5) (by omega)
                    have q6 := BE.cell (o := 6) (by omega)
                    have q7 := BE.cell (o := 7) (by omega)
                    have q8 := BE.cell (o := 8) (by omega)
                    have q9 := BE.cell (o := 9) (by omega)
                    simp only [c10, set10] at q0 q1 q2 q3 q4 q5 q6 q7 q8 q9
                    refine bodyPost_ret (v := refV 20 f.p) (by simp [results, Tryz.results36, go_sem, refV, chkV, q0, q1, q2, q3, q4, q5, q6, q7, q8, q9]) rfl ?_
                    exact CkM.bad FE (KA.refuse HG.out.2.2.2.1 (by rw [← HG.out.2.2.2.2]; exact HKq.out))
                · rw [if_pos (.inl h1)] at hr
                  have e1 : (((fAt X.fs mi).pi : Int) + ((fAt X.fs mi).pr : Int) != 0) = true := by simp; omega
                  have e2 : (((fAt X.fs mi).pi : Int) + ((fAt X.fs mi).pr : Int) == 0) = false := by simp; omega
                  have HR : Hid (_ = _) := hr
                  clear hr h1
                  go_wp2_with fail
                  go_quiet (fail)
                  go_wp2_with fail
                  generalize hw5 : w4.drewN _ = w5
                  have kd : Fr (fun _ => False) w4 w5 := hw5 ▸ (Fr.refl _ _).drewN _
                  have M5 := HM4.out.1.same kd
                  have F5 : Fr (fun b => w2.heap.size ≤ b) w2 w5 := HM4.out.2.trans kd (fun _ _ h => h.elim)
                  clear hw5 kd c0 c1 c2 c3 c4 c5 c6 cz hnbl r0 n0 n1 n2 n3 n4 n5 n6 n7 r1 r2 r3 r4 r5 r6 r7 r8 r9 r10 hz hlm hlt2 hlt3 hfb0
                  obtain ⟨-, r1, r2, r3, r4, r5, r6, r7, r8, r9, r10, hz, hlm, hlt2, hlt3⟩ := M5.regs
                  simp only at r1 r2 r3 r4 r5 r6 r7 r8 r9 r10 hz hlm hlt2 hlt3
                  obtain ⟨fb1, fc1, efv, hfb0, ibf1, c0, c1, c2, c3, c4, c5, c6, cz⟩ := M5.func hmi
                  rw [efv] at r3
                  rw [Hg.out.1] at c0
                  obtain ⟨_, hnbl, r0, n0, n1, n2, n3, n4, n5, n6, n7⟩ := M5.node Hg.out.2.1
                  rw [Hg.out.2.2] at n6
                  simp only at hnbl r0 n0 n1 n2 n3 n4 n5 n6 n7
                  have HKq : Hid (ckAll gs src.size = .bad 20 f.p) := ckAll_m HQ.out.1 HG.out.2.1 HQ.out.2 HR.out
                  have HZ : Hid _ := And.intro (HX2.out.1.trans F5 (fun b hb h => by have := HX2.out.1.size; omega)) (HX2.out.2.1.frame F5 (by omega))
                  clear M5 F5 efv ibf1
                  have hrf := badM (w5.drew) 20 f.p
                  go_wp2_with fail
                  refine wp_region_text (by kernel_rfl) (by kernel_rfl) ?_
                  go_wp2_with fail
                  refine hrf.mono ?_
                  rintro v' wE ⟨rfl, F9⟩
                  clear hrf
                  have BE : Blk wE w.heap.size 10 z10 := (((HZ.out.2).drew).frame F9 (fun h => h))
                  have FE : Fr (fun _ => False) w wE := ((HZ.out.1).drew.trans F9 (fun _ _ h => h))
                  have o0 := BE.cell (o := 0) (by omega)
                  have o1 := BE.cell (o := 1) (by omega)
                  have o2 := BE.cell (o := 2) (by omega)
                  have o3 := BE.cell (o := 3) (by omega)
                  have o4 := BE.cell (o := 4) (by omega)
                  have o5 := BE.cell (o := 5) (by omega)
                  have o6 := BE.cell (o := 6) (by omega)
                  have o7 := BE.cell (o := 7) (by omega)
                  have o8 := BE.cell (o := 8) (by omega)
                  have o9 := BE.cell (o := 9) (by omega)
                  simp only [z10] at o0 o1 o2 o3 o4 o5 o6 o7 o8 o9
                  have oz := BE.frozen
                  have ol := BE.lt
                  have HE2 : Hid _ := And.intro (BE.set10 (.slice none 0 0) (.int .i64 (-1)) (.int .i64 0) (.int .i64 0) (.slice none 0 0) (.slice none 0 0) (.slice none 0 0) (.int .i64 (-1)) (.int .i64 20) (.int .i64 f.p)) (FE.set10 (b := w.heap.size) (fun h => absurd h (Nat.lt_irrefl _)) (.slice none 0 0) (.int .i64 (-1)) (.int .i64 0) (.int .i64 0) (.slice none 0 0) (.slice none 0 0) (.slice none 0 0) (.int .i64 (-1)) (.int .i64 20) (.int .i64 f.p))
                  clear BE FE F9
                  unfold refV chkV
                  go_wp2_with fail
                  refine ⟨by kernel_rfl, ?_⟩
                  go_wp2_with fail
                  obtain ⟨BE, FE⟩ := HE2.out
                  have q0 := BE.cell (o := 0) (by omega)
                  have q1 := BE.cell (o := 1) (by omega)
                  have q2 := BE.cell (o := 2) (by omega)
                  have q3 := BE.cell (o := 3) (by omega)
                  have q4 := BE.cell (o := 4) (by omega)
                  have q5 := BE.cell (o := 5) (by omega)
                  have q6 := BE.cell (o := 6) (by omega)
                  have q7 := BE.cell (o := 7) (by omega)
                  have q8 := BE.cell (o := 8) (by omega)
                  have q9 := BE.cell (o := 9) (by omega)
                  simp only [c10, set10] at q0 q1 q2 q3 q4 q5 q6 q7 q8 q9
                  refine bodyPost_ret (v := refV 20 f.p) (by simp [results, Tryz.results36, go_sem, refV, chkV, q0, q1, q2, q3, q4, q5, q6, q7, q8, q9]) rfl ?_
                  exact CkM.bad FE (KA.refuse HG.out.2.2.2.1 (by rw [← HG.out.2.2.2.2]; exact HKq.out))
          · obtain ⟨-, r1, r2, r3, r4, r5, r6, r7, r8, r9, r10, hz, hlm, hlt2, hlt3⟩ := M.regs
            simp only at r1 r2 r3 r4 r5 r6 r7 r8 r9 r10 hz hlm hlt2 hlt3
            obtain ⟨fa, fc, efv⟩ := M.fs.sl
            rw [zip_len M] at efv
            have hx8 := M.xok.le
            rw [efv] at r3
            have e0 : (er == 0) = false := by simpa using h0
            have e1 : (er != 0) = true := by simpa using h0
            have HKq : Hid (ckAll gs src.size = .bad er po) := hK
            have HZ : Hid _ := And.intro (HX2.out.1.trans F (fun b hb h => by have := HX2.out.1.size; omega)) (HX2.out.2.1.frame F (by omega))
            clear h0 hK M F efv
            by_cases hi : i < X.fs.length
            · have z0 : decide ((i : Int) < ((X.fs.length : Nat) : Int)) = true := decide_eq_true (by omega)
              have hrf := badM (wr.drew) er po
              go_wp2_with fail
              refine wp_region_text (by kernel_rfl) (by kernel_rfl) ?_
              go_wp2_with fail
              refine hrf.mono ?_
              rintro v' wE ⟨rfl, F9⟩
              clear hrf
              have BE : Blk wE w.heap.size 10 z10 := (((HZ.out.2).drew).frame F9 (fun h => h))
              have FE : Fr (fun _ => False) w wE := ((HZ.out.1).drew.trans F9 (fun _ _ h => h))
              have o0 := BE.cell (o := 0) (by omega)
              have o1 := BE.cell (o := 1) (by omega)
              have o2 := BE.cell (o := 2) (by omega)
              have o3 := BE.cell (o := 3) (by omega)
              have o4 := BE.cell (o := 4) (by omega)
              have o5 := BE.cell (o := 5) (by omega)
              have o6 := BE.cell (o := 6) (by omega)
              have o7 := BE.cell (o := 7) (by omega)
              have o8 := BE.cell (o := 8) (by omega)
              have o9 := BE.cell (o := 9) (by omega)
              simp only [z10] at o0 o1 o2 o3 o4 o5 o6 o7 o8 o9
              have oz := BE.frozen
              have ol := BE.lt
              have HE2 : Hid _ := And.intro (BE.set10 (.slice none 0 0) (.int .i64 (-1)) (.int .i64 0) (.int .i64 0) (.slice none 0 0) (.slice none 0 0) (.slice none 0 0) (.int .i64 (-1)) (.int .i64 er) (.int .i64 po)) (FE.set10 (b := w.heap.size) (fun h => absurd h (Nat.lt_irrefl _)) (.slice none 0 0) (.int .i64 (-1)) (.int .i64 0) (.int .i64 0) (.slice none 0 0) (.slice none 0 0) (.slice none 0 0) (.int .i64 (-1)) (.int .i64 er) (.int .i64 po))
              clear BE FE F9
              unfold refV chkV
              go_wp2_with fail
              refine ⟨by kernel_rfl, ?_⟩
              go_wp2_with fail
              obtain ⟨BE, FE⟩ := HE2.out
              have q0 := BE.cell (o := 0) (by omega)
              have q1 := BE.cell (o := 1) (by omega)
              have q2 := BE.cell (o := 2) (by omega)
              have q3 := BE.cell (o := 3) (by omega)
              have q4 := BE.cell (o := 4) (by omega)
              have q5 := BE.cell (o := 5) (by omega)
              have q6 := BE.cell (o := 6) (by omega)
              have q7 := BE.cell (o := 7) (by omega)
              have q8 := BE.cell (o := 8) (by omega)
              have q9 := BE.cell (o := 9) (by omega)
              simp only [c10, set10] at q0 q1 q2 q3 q4 q5 q6 q7 q8 q9
              refine bodyPost_ret (v := refV er po) (by simp [results, Tryz.results36, go_sem, refV, chkV, q0, q1, q2, q3, q4, q5, q6, q7, q8, q9]) rfl ?_
              exact CkM.bad FE (KA.refuse HG.out.2.2.2.1 (by rw [← HG.out.2.2.2.2]; exact HKq.out))
            · have z0 : decide ((i : Int) < ((X.fs.length : Nat) : Int)) = false := decide_eq_false (by omega)
              have z1 : decide (i < X.fs.length) = false := decide_eq_false hi
              have hrf := badM (wr.drew) er po
              go_wp2_with fail
              refine wp_region_text (by kernel_rfl) (by kernel_rfl) ?_
              go_wp2_with fail
              refine hrf.mono ?_
              rintro v' wE ⟨rfl, F9⟩
              clear hrf
              have BE : Blk wE w.heap.size 10 z10 := (((HZ.out.2).drew).frame F9 (fun h => h))
              have FE : Fr (fun _ => False) w wE := ((HZ.out.1).drew.trans F9 (fun _ _ h => h))
              have o0 := BE.cell (o := 0) (by omega)
              have o1 := BE.cell (o := 1) (by omega)
              have o2 := BE.cell (o := 2) (by omega)
              have o3 := BE.cell (o := 3) (by omega)
              have o4 := BE.cell (o := 4) (by omega)
              have o5 := BE.cell (o := 5) (by omega)
              have o6 := BE.cell (o := 6) (by omega)
              have o7 := BE.cell (o := 7) (by omega)
              have o8 := BE.cell (o := 8) (by omega)
              have o9 := BE.cell (o := 9) (by omega)
              simp only [z10] at o0 o1 o2 o3 o4 o5 o6 o7 o8 o9
              have oz := BE.frozen
              have ol := BE.lt
              have HE2 : Hid _ := And.intro (BE.set10 (.slice none 0 0) (.int .i64 (-1)) (.int .i64 0) (.int .i64 0) (.slice none 0 0) (.slice none 0 0) (.slice none 0 0) (.int .i64 (-1)) (.int .i64 er) (.int .i64 po)) (FE.set10 (b := w.heap.size) (fun h => absurd h (Nat.lt_irrefl _)) (.slice none 0 0) (.int .i64 (-1)) (.int .i64 0) (.int .i64 0) (.slice none 0 0) (.slice none 0 0) (.slice none 0 0) (.int .i64 (-1)) (.int .i64 er) (.int .i64 po))
              clear BE FE F9
              unfold refV chkV
              go_wp2_with fail
              refine ⟨by kernel_rfl, ?_⟩
              go_wp2_with fail
              obtain ⟨BE, FE⟩ := HE2.out
              have q0 := BE.cell (o := 0) (by omega)
              have q1 := BE.cell (o := 1) (by omega)
              have q2 := BE.cell (o := 2) (by omega)
              have q3 := BE.cell (o := 3) (by omega)
              have q4 := BE.cell (o := 4) (by omega)
              have q5 := BE.cell (o := 5) (by omega)
              have q6 := BE.cell (o := 6) (by omega)
              have q7 := BE.cell (o := 7) (by omega)
              have q8 := BE.cell (o := 8) (by omega)
              have q9 := BE.cell (o := 9) (by omega)
              simp only [c10, set10] at q0 q1 q2 q3 q4 q5 q6 q7 q8 q9
              refine bodyPost_ret (v := refV er po) (by simp [results, Tryz.results36, go_sem, refV, chkV, q0, q1, q2, q3, q4, q5, q6, q7, q8, q9]) rfl ?_
              exact CkM.bad FE (KA.refuse HG.out.2.2.2.1 (by rw [← HG.out.2.2.2.2]; exact HKq.out))
end Go.Proofs.Qxb6500277aGreat
