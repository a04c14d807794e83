/- The law: the loud walk. -/
import Derived.Test.Qxb6500276aGreatLC6
namespace Go.Proofs.Qxb6500276aGreat
open Go Go.RowKit

set_option maxRecDepth 100000 in
set_option maxHeartbeats 16000000 in
theorem walk_loud {w : World} {a : Option Addr} {n cap : Nat} (hs : ScrAt w a n) :
    Calls Tryz.prog 6 #[.slice a n cap, .bool false] w fun e w' => (∃ k, e = .returned (.tuple #[.int .i64 (-1), .int .i64 k])) ∧ Fr (fun _ => False) w w' := by
  go_enter Tryz.func6, Tryz.ntmps6
  go_wp2_with fail
  refine (groundC _).mono ?_
  rintro v w1 ⟨p, Op, rfl, R1, hO1, f1⟩
  have kA := (Fr.refl (fun _ => False) w1).alloc (.cells #[.pointer (some ⟨p, 0, none⟩)] 29)
  have R1' := R1.frame kA (fun _ _ h => h)
  have f1' := f1.trans kA (fun _ _ h => h)
  go_wp2_with fail
  refine (newC _ p).mono ?_
  rintro v w2 ⟨c, rfl, C2, hc, f2⟩
  go_wp2_with fail
  refine (newMC w2).mono ?_
  rintro v w3 ⟨m, q, rfl, M3, f3, hm, hq⟩
  have L0 := law0 R1' hO1 f1' C2 hc f2 M3 f3 hm hq
  have FI := (f1'.trans f2 (fun _ _ h => h)).trans f3 (fun _ _ h => h)
  clear R1 R1' hO1 kA f1 f1' C2 hc f2 M3 f3 hm hq
  go_wp2_with fail
  refine (soundC L0.C).mono ?_
  rintro v w4 ⟨rfl, f4⟩
  have L4 := L0.same f4
  have F4 := FI.trans f4 (fun _ _ h => h)
  clear L0 FI f4
  have HL4 : Hid (Law _ _ _ _ _ _ _ _ _ _ _) := L4
  have HF4 : Hid _ := F4
  clear L4 F4
  go_wp2_with fail
  go_loopg [9, 10, 11, 12] n (fun g tv xv mv kv wr => ∃ (k : Nat) (txt : ByteArray), tv = .string txt ∧ kv = .int .i64 k ∧ k + g = n ∧ k ≤ 4398046511104 ∧ txt.size ≤ 4097 ∧ (∃ Op l1 l2, Law w.heap.size wr p c m q Op xv mv l1 l2) ∧ Fr (fun _ => False) w wr)
  case atStart => exact ⟨0, _, rfl, rfl, by omega, by omega, Nat.zero_le 4097, ⟨_, _, _, HL4.out⟩, HF4.out⟩
  case round =>
    obtain ⟨k, txt, rfl, rfl, hkg, hk42, htx, ⟨Op, l1, l2, LJ⟩, hfr⟩ := hrel
    have Hkg : Hid _ := hkg
    have Hk42 : Hid _ := hk42
    have ln2 := LJ.n2
    obtain ⟨ax, cx, rfl⟩ := LJ.X.sl
    obtain ⟨am, cm, hme⟩ := LJ.Y.sl
    rw [ln2] at hme
    subst hme
    have hkb : (k : Int) < 140737488355328 := by omega
    clear hkg hk42 HL4 HF4
    by_cases hlt : k < n
    · by_cases hlt2 : (k : Int) < 4398046511104
      · rcases hs with h0 | ⟨b, off, rfl, hb, hcells⟩
        · exact absurd hlt (by omega)
        have Hlt2 : Hid _ := hlt2
        have zlt : decide ((k : Int) < (n : Int)) = true := decide_eq_true (by omega)
        obtain ⟨kind, a', b', c', s, t, c0, c1, c2, c3, c4, c5⟩ := hcells k hlt
        rw [← hfr.cell (p := ⟨b, off + k * 6, none⟩) hb (by simp)] at c0
        rw [← hfr.cell (p := ⟨b, off + k * 6 + 1, none⟩) hb (by simp)] at c1
        rw [← hfr.cell (p := ⟨b, off + k * 6 + 2, none⟩) hb (by simp)] at c2
        rw [← hfr.cell (p := ⟨b, off + k * 6 + 3, none⟩) hb (by simp)] at c3
        rw [← hfr.cell (p := ⟨b, off + k * 6 + 4, none⟩) hb (by simp)] at c4
        rw [← hfr.cell (p := ⟨b, off + k * 6 + 5, none⟩) hb (by simp)] at c5
        have hbw : b < wr.heap.size := Nat.lt_of_lt_of_le hb hfr.size
        clear hcells
        have kA := (Fr.refl (fun _ => False) wr).alloc (.cells #[.int .i64 kind, .int .i64 a', .int .i64 b', .int .i64 c', .string s, .string t] 38)
        have LI6 := LJ.same kA
        have F6 := hfr.trans kA (fun _ _ h => h)
        by_cases k1 : kind = 1
        · subst k1
          go_wp2_with fail
          refine (joinL txt s htx _).mono ?_
          rintro v' w7 ⟨⟨tx2, rfl, htx2⟩, e7⟩
          subst w7
          go_wp2_with fail
          go_roundg (gk - 1)
          case measure => have := Hkg.out; omega
          case rel => exact ⟨k + 1, tx2, rfl, by simp, by have := Hkg.out; omega, by have := Hlt2.out; omega, htx2, ⟨_, _, _, LI6⟩, F6⟩
        · have z1 : (kind == 1) = false := by simpa using k1
          by_cases k3 : kind = 3
          · subst k3
            have hlo6 : w.heap.size ≤ (wr.alloc (.cells #[.int .i64 3, .int .i64 a', .int .i64 b', .int .i64 c', .string s, .string t] 38)).heap.size := F6.size
            clear z1 k1
            go_wp2_with fail
            refine (joinL txt s htx _).mono ?_
            rintro v' w7 ⟨⟨src, rfl, hsrc⟩, e7⟩
            subst w7
            have hCk := checkL LI6.R LI6.C LI6.nc src
            generalize hw6 : wr.alloc _ = w6 at *
            clear c0 c1 c2 c3 c4 c5 LJ kA hw6 hbw
            have HL6 : Hid _ := And.intro LI6 (And.intro F6 hlo6)
            clear LI6 F6 hlo6
            go_wp2_with fail
            refine hCk.mono ?_
            rintro v' w7 ⟨Op7, x1, rfl, R7, hO7, C7, nc7, f7, A7, h7, K7⟩
            clear hCk
            have T7 := crB_blk w7 x1
            have kB := (Fr.refl (fun _ => False) w7).alloc (crB x1)
            have M7 : MCI (w7.alloc (crB x1)) m q := by
              obtain ⟨κ, kk⟩ := HL6.out.1.k
              refine (HL6.out.1.M.frame f7 (fun h => ?_) (fun h => ?_)).frame kB (fun h => h) (fun h => h)
              · have := kk.k1 _ h; have := kk.k2 m (.inl rfl); omega
              · have := kk.k1 _ h; have := kk.k2 q (.inr rfl); omega
            have hCm := checkML M7 src
            have s67 := f7.size
            have HG7 : Hid _ := And.intro R7 (And.intro hO7 (And.intro C7 (And.intro nc7 (And.intro f7 (And.intro A7 (And.intro h7 (And.intro K7 (And.intro T7 kB))))))))
            clear R7 hO7 C7 nc7 f7 A7 h7 K7 T7 kB M7
            unfold crB vV tV rV fV at hCm HG7
            unfold crV chkV vV tV rV fV
            go_wp2_with fail
            refine hCm.mono ?_
            rintro v' w8 ⟨x2, rfl, f8, A8, h8, K8⟩
            clear hCm
            obtain ⟨R7, hO7, C7, nc7, f7, A7, h7, K7, T7, kB⟩ := HG7.out
            have kC := (Fr.refl (fun _ => False) w8).alloc (crB x2)
            have T8 := (T7.frame f8 (fun h => h)).frame kC (fun h => h)
            have U8 := crB_blk w8 x2
            have e12 : x2.2 = x1.2 := KD.det K7 K8
            have G8 : Got w.heap.size w6 w7 (w8.alloc (crB x2)) p c m q Op Op7 (.slice ax l1.length cx) (.slice am l1.length cm) l1 l2 x1 x2 := ⟨HL6.out.1, HL6.out.2.2, R7, hO7, C7, nc7, f7, h7, A7, (kB.trans f8 (fun _ _ h => h)).trans kC (fun _ _ h => h), A8.frame kC (fun _ _ h => h), fun d hd => by have h9 := h8 d hd; rw [World.size_alloc] at h9; omega, e12⟩
            have s78 : w7.heap.size < w8.heap.size := by have := f8.size; rw [World.size_alloc] at this; omega
            obtain ⟨bT, hbT⟩ : ∃ bT, w7.heap.size = bT := ⟨_, rfl⟩
            obtain ⟨bU, hbU⟩ : ∃ bU, w8.heap.size = bU := ⟨_, rfl⟩
            have hK9 := keepC G8.at8.1 HL6.out.1.n1 x1
            have HG8 : Hid _ := And.intro G8 (And.intro T8 U8)
            have HbT : Hid (w6.heap.size ≤ bT) := by rw [← hbT]; exact s67
            have HbU : Hid (bT < bU) := by rw [← hbT, ← hbU]; exact s78
            clear R7 hO7 C7 nc7 f7 A7 h7 K7 T7 kB HG7 f8 A8 h8 K8 kC e12 G8 s78 s67
            rw [hbT] at T8 HG8
            rw [hbU] at U8 HG8
            have t0 := T8.cell (o := 0) (by omega)
            have t1 := T8.cell (o := 1) (by omega)
            have t2 := T8.cell (o := 2) (by omega)
            have t3 := T8.cell (o := 3) (by omega)
            have t4 := T8.cell (o := 4) (by omega)
            have t5 := T8.cell (o := 5) (by omega)
            have t6 := T8.cell (o := 6) (by omega)
            have t7 := T8.cell (o := 7) (by omega)
            have t8 := T8.cell (o := 8) (by omega)
            have t9 := T8.cell (o := 9) (by omega)
            simp only [crC, vV, tV, rV, fV] at t0 t1 t2 t3 t4 t5 t6 t7 t8 t9
            have tl := T8.lt
            clear T8 U8
            unfold crB vV tV rV fV at tl
            unfold crV chkV crB vV tV rV fV at hK9
            unfold crB vV tV rV fV at HG8
            unfold crB vV tV rV fV at t0
            unfold crB vV tV rV fV at t1
            unfold crB vV tV rV fV at t2
            unfold crB vV tV rV fV at t3
            unfold crB vV tV rV fV at t4
            unfold crB vV tV rV fV at t5
            unfold crB vV tV rV fV at t6
            unfold crB vV tV rV fV at t7
            unfold crB vV tV rV fV at t8
            unfold crB vV tV rV fV at t9
            unfold crV chkV vV tV rV fV
            try rw [hbT]
            go_wp2_with fail
            refine hK9.mono ?_
            rintro v' w9 ⟨hx', rfl, S9, f9, b9⟩
            clear hK9 tl t0 t1 t2 t3 t4 t5 t6 t7 t8 t9
            obtain ⟨G8, T8, U8⟩ := HG8.out
            have o9 := G8.old.1
            have T9 := T8.frame f9 (fun h => by have := o9 _ h; have := HbT.out; omega)
            have U9 := U8.frame f9 (fun h => by have := o9 _ h; have := HbT.out; have := HbU.out; omega)
            obtain ⟨bx, cx', J1, ehx, hJc1, hbx1, hJ1, hce1⟩ := S9.lastC HL6.out.1.n1
            subst ehx
            have hK10 := keepC (G8.at9 f9) (by rw [ln2]; exact HL6.out.1.n1) x2
            have HG9 : Hid _ := And.intro G8 (And.intro S9 (And.intro f9 (And.intro b9 (And.intro T9 U9))))
            clear HG8 G8 T8 S9 f9 b9 T9 hJc1 hbx1 hce1 o9 U8
            have u0 := U9.cell (o := 0) (by omega)
            have u1 := U9.cell (o := 1) (by omega)
            have u2 := U9.cell (o := 2) (by omega)
            have u3 := U9.cell (o := 3) (by omega)
            have u4 := U9.cell (o := 4) (by omega)
            have u5 := U9.cell (o := 5) (by omega)
            have u6 := U9.cell (o := 6) (by omega)
            have u7 := U9.cell (o := 7) (by omega)
            have u8 := U9.cell (o := 8) (by omega)
            have u9 := U9.cell (o := 9) (by omega)
            simp only [crC, vV, tV, rV, fV] at u0 u1 u2 u3 u4 u5 u6 u7 u8 u9
            have ul := U9.lt
            clear U9
            unfold crV chkV vV tV rV fV at hK10
            try rw [hbU]
            go_wp2_with fail
            refine hK10.mono ?_
            rintro v' w10 ⟨hm', rfl, S10, f10, b10⟩
            clear hK10 ul u0 u1 u2 u3 u4 u5 u6 u7 u8 u9
            obtain ⟨G8, S9, f9, b9, T9, U9⟩ := HG9.out
            have o10 := G8.old.2.1
            have T10 := T9.frame f10 (fun h => by have := o10 _ h; have := HbT.out; omega)
            obtain ⟨bm, cm', J2, ehm, hJc2, hbm2, hJ2, hce2⟩ := S10.lastC (by rw [ln2]; exact HL6.out.1.n1)
            subst ehm
            have KP : Kept w.heap.size w6 w7 _ w9 w10 p c m q Op Op7 _ _ _ _ l1 l2 x1 x2 := ⟨G8, S9, f9, b9, S10, f10, b10⟩
            obtain ⟨S10', n1', n2', X1', X2', _, _⟩ := KP.at10
            have hSA := sameAll S10' S10 (keepQ_len l1 x1 HL6.out.1.n1).1 (keepQ_map l1 l2 x1 x2 HL6.out.1.eq G8.e12) n1' n2'
            have HG10 : Hid _ := And.intro KP T10
            clear HG9 G8 S9 f9 b9 T9 U9 S10 f10 b10 KP S10' n1' n2' X1' X2' T10 hJc2 hbm2 hce2 o10
            go_wp2_with fail
            refine hSA.mono ?_
            rintro v' w11 ⟨rfl, f11⟩
            clear hSA
            have X11 := HG10.out.1.at10.2.2.2.1.frame f11 (fun _ _ h => h)
            have T11 := HG10.out.2.frame f11 (fun h => h)
            have hTd := tidyC X11
            have t0 := T11.cell (o := 0) (by omega)
            have t1 := T11.cell (o := 1) (by omega)
            have t2 := T11.cell (o := 2) (by omega)
            have t3 := T11.cell (o := 3) (by omega)
            have t4 := T11.cell (o := 4) (by omega)
            have t5 := T11.cell (o := 5) (by omega)
            have t6 := T11.cell (o := 6) (by omega)
            have t7 := T11.cell (o := 7) (by omega)
            have t8 := T11.cell (o := 8) (by omega)
            have t9 := T11.cell (o := 9) (by omega)
            simp only [crC, vV, tV, rV, fV] at t0 t1 t2 t3 t4 t5 t6 t7 t8 t9
            have tl := T11.lt
            have HF11 : Hid _ := f11
            clear T11 X11 f11
            unfold crV chkV vV tV rV fV at hTd
            go_wp2_with fail
            refine hTd.mono ?_
            rintro v' w12 ⟨rfl, f12⟩
            clear hTd tl t0 t1 t2 t3 t4 t5 t6 t7 t8 t9
            have f12' := HF11.out.trans f12 (fun _ _ h => h)
            have X12 := HG10.out.1.at10.2.2.2.1.frame f12' (fun _ _ h => h)
            have S12 := HG10.out.1.at10.1.frameB f12' (fun _ _ h => h)
            have hSp := spoilC X12
            obtain ⟨bx2, cx2, J12, e12', hJc1, hbx1, _, hce1⟩ := S12.lastC HL6.out.1.n1
            injection e12' with e13 e14 e15
            injection e13 with e13
            injection e13 with e13
            have e16 : J12 = J1 := by omega
            subst e13 e15 e16
            have t0 := hce1 0 (by omega)
            have t1 := hce1 1 (by omega)
            have t2 := hce1 2 (by omega)
            have t3 := hce1 3 (by omega)
            have t4 := hce1 4 (by omega)
            have t5 := hce1 5 (by omega)
            have t6 := hce1 6 (by omega)
            have t7 := hce1 7 (by omega)
            have t8 := hce1 8 (by omega)
            have t9 := hce1 9 (by omega)
            simp only [crC, vV, tV, rV, fV, Nat.add_zero] at t0 t1 t2 t3 t4 t5 t6 t7 t8 t9
            have hJ1i : ((J12 + 1 : Nat) : Int) - 1 = (J12 : Int) := by omega
            have HF12 : Hid _ := f12'
            clear X12 S12 f12 f12' HF11 hce1 e14
            unfold crV chkV vV tV rV fV at hSp
            go_wp2_with fail
            refine hSp.mono ?_
            rintro v' w13 ⟨rfl, A13, f13⟩
            clear hSp t0 t1 t2 t3 t4 t5 t6 t7 t8 t9
            obtain ⟨KP, _⟩ := HG10.out
            have i12 : ∀ d, inA x1 d → d < w7.heap.size := fun d hd => KP.G.A1.lt hd
            have S13 := (KP.S10.frameB HF12.out (fun _ _ h => h)).frameB f13 (fun d hd h => by
              have h1 := (KP.G.h1 d h).1
              have h2 := i12 d h
              have h3 := KP.G.f8.size
              have h4 := KP.f9.size
              rcases KP.b10 d hd with h' | h'
              · omega
              · have := KP.G.old.2.1 d h'; omega)
            have X13 := (KP.at10.2.2.2.2.1.frame HF12.out (fun _ _ h => h)).frame f13 (fun d hd h => by have := KP.G.h2 d hd; have := i12 d h; omega)
            have hSp := spoilC X13
            obtain ⟨bm2, cm2, J22, e12', hJc2, hbm2, _, hce2⟩ := S13.lastC (by rw [ln2]; exact HL6.out.1.n1)
            injection e12' with e13 e14 e15
            injection e13 with e13
            injection e13 with e13
            have e16 : J22 = J2 := by omega
            subst e13 e15 e16
            have t0 := hce2 0 (by omega)
            have t1 := hce2 1 (by omega)
            have t2 := hce2 2 (by omega)
            have t3 := hce2 3 (by omega)
            have t4 := hce2 4 (by omega)
            have t5 := hce2 5 (by omega)
            have t6 := hce2 6 (by omega)
            have t7 := hce2 7 (by omega)
            have t8 := hce2 8 (by omega)
            have t9 := hce2 9 (by omega)
            simp only [crC, vV, tV, rV, fV, Nat.add_zero] at t0 t1 t2 t3 t4 t5 t6 t7 t8 t9
            have hJ2i : ((J22 + 1 : Nat) : Int) - 1 = (J22 : Int) := by omega
            have HF13 : Hid _ := And.intro A13 f13
            clear X13 S13 A13 f13 hce2 e14 KP i12
            unfold crV chkV vV tV rV fV at hSp
            go_wp2_with fail
            refine hSp.mono ?_
            rintro v' w14 ⟨rfl, A14, f14⟩
            clear hSp t0 t1 t2 t3 t4 t5 t6 t7 t8 t9
            obtain ⟨L14, F14⟩ := HG10.out.1.next HF12.out HF13.out.1 HF13.out.2 A14 f14
            have F14' := HL6.out.2.1.trans F14 (fun d hd h => by omega)
            go_wp2_with fail
            refine (soundC L14.C).mono ?_
            rintro v w16 ⟨rfl, f16⟩
            have L16 := L14.same f16
            have F16 := F14'.trans f16 (fun _ _ h => h)
            go_wp2_with fail
            go_roundg (gk - 1)
            case measure => have := Hkg.out; omega
            case rel => exact ⟨k + 1, _, rfl, by simp, by have := Hkg.out; omega, by have := Hlt2.out; omega, Nat.zero_le 4097, ⟨_, _, _, L16⟩, F16⟩
          · have z3 : (kind == 3) = false := by simpa using k3
            by_cases k4 : kind = 4
            · subst k4
              clear z1 z3 k1 k3
              go_wp2_with fail
              refine (soundC LI6.C).mono ?_
              rintro v' w7 ⟨rfl, f7⟩
              have LI7 := LI6.same f7
              have F7 := F6.trans f7 (fun _ _ h => h)
              go_wp2_with fail
              go_roundg (gk - 1)
              case measure => have := Hkg.out; omega
              case rel => exact ⟨k + 1, txt, rfl, by simp, by have := Hkg.out; omega, by have := Hlt2.out; omega, htx, ⟨_, _, _, LI7⟩, F7⟩
            · have z4 : (kind == 4) = false := by simpa using k4
              clear k1 k3 k4
              go_wp2_with fail
              go_roundg (gk - 1)
              case measure => have := Hkg.out; omega
              case rel => exact ⟨k + 1, txt, rfl, by simp, by have := Hkg.out; omega, by have := Hlt2.out; omega, htx, ⟨_, _, _, LI6⟩, F6⟩
      · have zlt : decide ((k : Int) < (n : Int)) = true := decide_eq_true (by omega)
        have zn : ¬ ((n : Int) < 4398046511104) := by omega
        go_wp2_with fail
        exact bodyPost_ret (v := .tuple #[.int .i64 (-1), .int .i64 4398046511104]) (by simp [results, Tryz.results6, go_sem]) rfl ⟨⟨_, rfl⟩, hfr⟩
    · have zlt : decide ((k : Int) < (n : Int)) = false := decide_eq_false (by omega)
      by_cases hn : (n : Int) < 4398046511104
      · go_wp2_with fail
        exact bodyPost_ret (v := .tuple #[.int .i64 (-1), .int .i64 n]) (by simp [results, Tryz.results6, go_sem]) rfl ⟨⟨_, rfl⟩, hfr⟩
      · go_wp2_with fail
        exact bodyPost_ret (v := .tuple #[.int .i64 (-1), .int .i64 4398046511104]) (by simp [results, Tryz.results6, go_sem]) rfl ⟨⟨_, rfl⟩, hfr⟩
end Go.Proofs.Qxb6500276aGreat
