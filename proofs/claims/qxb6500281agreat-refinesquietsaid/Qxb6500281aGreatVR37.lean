/- The real machine: Check, New. -/
import Derived.Test.Qxb6500281aGreatVR36
import Derived.Deep.LoopGhost
import Derived.Deep.Cut
namespace Go.Proofs.Qxb6500281aGreat
open Go Go.RowKit

section
variable {w w' w0 : World} {A : Va} {C C' : List Nat} {I I' : List Int} {V V' : Vs} {S S' : HS} {M M' : MS} {st st' : Nat → Int} {G : Gx} {nf : Nat} {cv iv ov cv1 iv1 : Value} {X : Vs × MS} {j : Nat} {e : Ending}
set_option maxRecDepth 100000 in
set_option maxHeartbeats 2000000 in
theorem check_a (H : RX w A C I V S st G nf cv iv nilS) (h1 : usedF V.fs ≤ V.most) (h2 : V.most ≤ 48) (h3 : V.pc ≤ C.length) (h4 : V.ip ≤ I.length) (h5 : V.en ≠ 21 → V.rt = 0) (_ht : S.top ≤ 24) (hfs : V.fs = []) (hen : V.en = 0) :
    Calls Tryz.prog 20 #[.pointer (some ⟨A.m, 0, none⟩)] w fun e w' => e = .returned (.bool true) ∧ Fr (fun _ => False) w w' := by
  have c61 := H.r_en
  have c62 := H.r_rt
  have c50 := H.r_fp
  have c51 := H.r_li
  have c52 := H.r_lr
  have c53 := H.r_rb
  have c0 := H.r_h
  have c49 := H.r_sp
  have c64 := H.r_most
  have c55 := H.r_pc
  have c56 := H.r_cv
  have c57 := H.r_iv
  have c58 := H.r_ip
  have c60 := H.r_ov
  have c54 := H.r_nf
  have hlt := H.lt
  obtain ⟨ca, cc, ecv, hcc⟩ := H.code.sl
  rw [ecv] at c56
  obtain ⟨ia, ic, eiv, hic⟩ := H.inp.sl
  rw [eiv] at c57
  have hcl := H.cl
  have hil := H.il
  have hu := H.lay.used
  have hs := H.s48
  have hnf := H.nfe
  have hul := lenUsed V.fs
  have hD := fun n => depthF (H.drewN n).hm
  have HX : Hid (_ ∧ _) := ⟨H, And.intro (by rw [hfs]; exact rfl : ChF C.length V.fs 0) (And.intro h5 hnf)⟩
  have z1 : decide ((G.sp : Int) < 0) = false := decide_eq_false (by omega)
  have z2 : decide ((G.sp : Int) > V.most) = false := decide_eq_false (by omega)
  have z2' : decide ((V.most : Int) < G.sp) = false := decide_eq_false (by omega)
  have z3 : decide ((V.most : Int) > 48) = false := decide_eq_false (by omega)
  have z3' : decide ((48 : Int) < V.most) = false := decide_eq_false (by omega)
  have z4 : decide ((V.pc : Int) < 0) = false := decide_eq_false (by omega)
  have z5 : decide ((V.pc : Int) > C.length) = false := decide_eq_false (by omega)
  have z5' : decide ((C.length : Int) < V.pc) = false := decide_eq_false (by omega)
  have z6 : decide ((V.ip : Int) < 0) = false := decide_eq_false (by omega)
  have z7 : decide ((V.ip : Int) > I.length) = false := decide_eq_false (by omega)
  have z7' : decide ((I.length : Int) < V.ip) = false := decide_eq_false (by omega)
  have z8 : decide ((nf : Int) < 0) = false := decide_eq_false (by omega)
  have w2 : decide (V.most < G.sp) = false := decide_eq_false (by omega)
  have w3 : decide (48 < V.most) = false := decide_eq_false (by omega)
  have w5 : decide (C.length < V.pc) = false := decide_eq_false (by omega)
  have w7 : decide (I.length < V.ip) = false := decide_eq_false (by omega)
  have hn48 : nf ≤ 48 := by omega
  have hsp48 : G.sp ≤ 48 := hs
  generalize V.most = mo at *
  generalize V.pc = pc at *
  generalize V.ip = ip at *
  have hn0 : nf = 0 := by rw [hnf, hfs]; rfl
  have Hn : Hid _ := And.intro hn0 hen
  have Hecv : Hid _ := And.intro ecv eiv
  clear H ecv eiv hfs hen hn0 h5 hu hs hnf hul
  go_enter Tryz.func20, Tryz.ntmps20
  go_wp2_with fail
  go_quiet (fail)
  go_wp2_with fail
  go_quiet (fail)
  go_upto_region 5 with fail
  clear z1 z2 z2' z3 z3' z4 z5 z5' z6 z7 z7' w2 w3 w5 w7 c64 c55 c56 c57 c58 c60
  generalize hw2 : World.drewN _ _ = wq
  have hq2 : Fr (fun _ => False) w wq := by rw [← hw2]; exact ((Fr.refl _ w).drewN _).drewN _
  clear hw2 c61 c62 c50 c51 c52 c53 c0 c49 c54 hlt hD
  go_cut [96] from 97 (fun v wx => v = .bool false ∧ Fr (fun _ => False) w wx)
  case first =>
    have H2 := HX.out.1.same hq2
    have c61 := H2.r_en
    have c62 := H2.r_rt
    have hlt := H2.lt
    clear H2
    by_cases he : V.en = 21
    · rw [he] at c61
      clear he
      go_wp2_with fail
      go_meet
      exact ⟨rfl, hq2⟩
    · have hr := HX.out.2.2.1 he
      rw [hr] at c62
      have y1 : (V.en != 21) = true := by simpa using he
      generalize V.en = en at *
      clear he hr
      go_wp2_with fail
      go_meet
      exact ⟨rfl, hq2⟩
  case rest =>
    obtain ⟨rfl, hqc⟩ := hcut
    clear hq2
    have H2 := HX.out.1.same hqc
    have c61 := H2.r_en
    have c50 := H2.r_fp
    have c51 := H2.r_li
    have c52 := H2.r_lr
    have c53 := H2.r_rb
    have c0 := H2.r_h
    have c49 := H2.r_sp
    have c54 := H2.r_nf
    have hlt := H2.lt
    clear H2
    go_wp2_with fail
    go_quiet (fail)
    generalize hw4 : World.drewN _ _ = w4
    have F4 : Fr (fun _ => False) w w4 := by rw [← hw4]; exact hqc.drewN _
    clear hw4 hqc c61 c50 c51 c52 c53 c0 c49 c54 hlt
    have H4 := HX.out.1.same F4
    have c61 := H4.r_en
    have c0 := H4.r_h
    have c49 := H4.r_sp
    have c54 := H4.r_nf
    have hlt := H4.lt
    have hD := fun n => depthF (H4.drewN n).hm
    clear H4
    rw [Hn.out.1] at c54
    rw [Hn.out.2] at c61
    go_wp2_with fail
    go_quiet (first | (go_at_call 31; refine Calls.quiet_of_same (hD _)))
    go_wp2_with fail
    generalize hw3 : World.drewN _ _ = w3
    have F3 : Fr (fun _ => False) w w3 := by rw [← hw3]; exact F4.drewN _
    clear hw3 F4 c61 c0 c49 c54 hlt hD
    go_loopg [3, 4, 5, 6, 7, 8, 9, 10, 11] nf (fun g s3 s4 s5 s6 s7 s8 s9 _ _ wr => ∃ (fs : List Fm) (G1 : Gx) (d : Nat), s3 = .int .i64 G1.fp ∧ s4 = .int .i64 G1.li ∧ s5 = .int .i64 G1.lr ∧ s6 = .int .i64 G1.rb ∧ s7 = .int .i64 G1.sp ∧ s8 = .int .i64 d ∧ s9 = .int .i64 g ∧ (g = fs.length ∧ g ≤ 48) ∧ Lay st fs G1 ∧ ChF C.length fs d ∧ d ≤ 24 ∧ G1.sp ≤ 48 ∧ Fr (fun _ => False) w wr)
    case atStart => exact ⟨V.fs, G, 0, rfl, rfl, rfl, rfl, rfl, rfl, (by rw [Hn.out.1]; rfl), ⟨HX.out.2.2.2, hn48⟩, HX.out.1.lay, HX.out.2.1, by omega, HX.out.1.s48, F3⟩
    case round =>
      obtain ⟨fs, G1, d, rfl, rfl, rfl, rfl, rfl, rfl, rfl, ⟨hg, hg48⟩, hL, hc, hd, hs, hfr⟩ := hrel
      cases fs with
      | nil =>
        have hG : G1 = ⟨0, 0, 0, 0, 0⟩ := hL
        have hd0 : d = 0 := hc
        have hg0 : gk = 0 := hg
        subst hG hd0 hg0
        clear hL hc hg
        go_wp2_with fail
        go_ret
        exact ⟨rfl, hfr⟩
      | cons f r =>
        obtain ⟨l1, l2, l3, l4, l5, l6, l7, G', g1, g2, g3, g4, g5, g6, g7⟩ := hL
        obtain ⟨k1, k2, k3⟩ := hc
        have HR := HX.out.1.same hfr
        obtain ⟨fp, li, lr, rb, sp, hfp, hli, hlr, hrb, hsp⟩ : ∃ fp li lr rb sp, G1.fp = fp ∧ G1.li = li ∧ G1.lr = lr ∧ G1.rb = rb ∧ G1.sp = sp := ⟨_, _, _, _, _, rfl, rfl, rfl, rfl, rfl⟩
        rw [hfp, hli] at l6 g5 g6
        rw [hfp] at g1
        obtain ⟨b, hb⟩ : ∃ b, b = fp + li := ⟨_, rfl⟩
        have p0 := HR.r_st (k := b) (by omega)
        have p1 := HR.r_st (k := b + 1) (by omega)
        have p2 := HR.r_st (k := b + 2) (by omega)
        rw [← hb] at l6 g5 g6
        rw [l6] at p0
        rw [g5] at p1
        rw [g6] at p2
        unfold packI at p2
        have c56 := HR.r_cv
        rw [Hecv.out.1] at c56
        have hlt := HR.lt
        have hng : gk = r.length + 1 := by simpa using hg
        have q1 := packedLiF (G'.li + 256 * G'.lr + 65536 * G'.rb)
        have q2 := packedLrF (G'.li + 256 * G'.lr + 65536 * G'.rb)
        have q3 := packedRbF (G'.li + 256 * G'.lr + 65536 * G'.rb)
        rw [show (G'.li + 256 * G'.lr + 65536 * G'.rb) % 256 = G'.li by omega] at q1
        rw [show (G'.li + 256 * G'.lr + 65536 * G'.rb) / 256 % 256 = G'.lr by omega] at q2
        rw [show (G'.li + 256 * G'.lr + 65536 * G'.rb) / 65536 = G'.rb by omega] at q3
        generalize hpk : G'.li + 256 * G'.lr + 65536 * G'.rb = pk at *
        have y1 : decide ((fp : Int) < 0) = false := decide_eq_false (by omega)
        have y2 : decide (sp < fp) = false := decide_eq_false (by omega)
        have y3 : decide ((li : Int) < 0) = false := decide_eq_false (by omega)
        have y4 : decide ((li : Int) > (sp : Int) - fp - 3) = false := decide_eq_false (by omega)
        have y4' : decide ((sp : Int) - fp - 3 < (li : Int)) = false := decide_eq_false (by omega)
        have y5 : decide ((rb : Int) < 0) = false := decide_eq_false (by omega)
        have y6 : decide (d < rb) = false := decide_eq_false (by omega)
        have y7 : decide ((lr : Int) < 0) = false := decide_eq_false (by omega)
        have y8 : decide ((lr : Int) > (d : Int) - rb) = false := decide_eq_false (by omega)
        have y8' : decide ((d : Int) - rb < (lr : Int)) = false := decide_eq_false (by omega)
        have y9 : decide ((f.ret : Int) < 0) = false := decide_eq_false (by omega)
        have y10 : decide (C.length < f.ret) = false := decide_eq_false (by omega)
        have hbi : (b : Int) + 2 < 48 := by omega
        have hbb : b + 2 < 48 := by omega
        have hfl : (fp : Int) + (li : Int) = (b : Int) := by omega
        have hgi : (gk : Int) > 0 := by omega
        rw [hfp, hli, hlr, hrb, hsp]
        have hrb24 : rb ≤ 24 := by omega
        have hs48 : sp ≤ 48 := by omega
        have hl48 : li ≤ 48 := by omega
        have hl24 : lr ≤ 24 := by omega
        have hfs : fp ≤ 48 := by omega
        have HG : Hid _ := And.intro g7 (And.intro (l3 ▸ k3 : ChF C.length r G1.rb) (And.intro g1 (And.intro hng hfr)))
        rw [hrb] at HG
        generalize f.ret = rt at *
        clear l1 l2 l3 l4 l5 l6 l7 g1 g2 g3 g4 g5 g6 g7 k1 k2 k3 HR hfp hli hlr hrb hsp hb hpk hg hng
        obtain ⟨gsp, gfp, gli, glr, grb⟩ := G'
        simp only at *
        go_wp2_with fail
        go_quiet (fail)
        go_wp2_with fail
        refine (q1 _).mono ?_
        rintro v w4 ⟨rfl, rfl⟩
        go_wp2_with fail
        refine (q2 _).mono ?_
        rintro v w4 ⟨rfl, rfl⟩
        go_wp2_with fail
        refine (q3 _).mono ?_
        rintro v w4 ⟨rfl, rfl⟩
        go_wp2_with fail
        go_roundg (gk - 1)
        case measure => omega
        case rel =>
          obtain ⟨g7, k3, g1, hng, hfr⟩ := HG.out
          refine ⟨r, ⟨gsp, gfp, gli, glr, grb⟩, rb, rfl, rfl, rfl, rfl, ?_, rfl, ?_, ⟨by omega, by omega⟩, g7, k3, hrb24, by show gsp ≤ 48; omega, hfr.drewN _⟩
          · show _ = Value.int .i64 (gsp : Int); rw [g1]
          · have e9 : ((gk - 1 : Nat) : Int) = (gk : Int) - 1 := by omega
            rw [e9]
set_option maxRecDepth 100000 in
set_option maxHeartbeats 2000000 in
theorem check_b (H : RX w A C I V S st G nf cv iv nilS) (h1 : usedF V.fs ≤ V.most) (h2 : V.most ≤ 48) (h3 : V.pc ≤ C.length) (h4 : V.ip ≤ I.length) (h5 : V.en ≠ 21 → V.rt = 0) (ht : S.top ≤ 24) (hfs : V.fs = []) (hen : V.en ≠ 0) (htop : S.top = 0) :
    Calls Tryz.prog 20 #[.pointer (some ⟨A.m, 0, none⟩)] w fun e w' => e = .returned (.bool true) ∧ Fr (fun _ => False) w w' := by
  have c61 := H.r_en
  have c62 := H.r_rt
  have c50 := H.r_fp
  have c51 := H.r_li
  have c52 := H.r_lr
  have c53 := H.r_rb
  have c0 := H.r_h
  have c49 := H.r_sp
  have c64 := H.r_most
  have c55 := H.r_pc
  have c56 := H.r_cv
  have c57 := H.r_iv
  have c58 := H.r_ip
  have c60 := H.r_ov
  have c54 := H.r_nf
  have hlt := H.lt
  obtain ⟨ca, cc, ecv, hcc⟩ := H.code.sl
  rw [ecv] at c56
  obtain ⟨ia, ic, eiv, hic⟩ := H.inp.sl
  rw [eiv] at c57
  have hcl := H.cl
  have hil := H.il
  have hu := H.lay.used
  have hs := H.s48
  have hnf := H.nfe
  have hul := lenUsed V.fs
  have hD := fun n => depthF (H.drewN n).hm
  have HX : Hid (_ ∧ _) := ⟨H, And.intro (by rw [hfs]; exact htop : ChF C.length V.fs S.top) (And.intro h5 hnf)⟩
  have z1 : decide ((G.sp : Int) < 0) = false := decide_eq_false (by omega)
  have z2 : decide ((G.sp : Int) > V.most) = false := decide_eq_false (by omega)
  have z2' : decide ((V.most : Int) < G.sp) = false := decide_eq_false (by omega)
  have z3 : decide ((V.most : Int) > 48) = false := decide_eq_false (by omega)
  have z3' : decide ((48 : Int) < V.most) = false := decide_eq_false (by omega)
  have z4 : decide ((V.pc : Int) < 0) = false := decide_eq_false (by omega)
  have z5 : decide ((V.pc : Int) > C.length) = false := decide_eq_false (by omega)
  have z5' : decide ((C.length : Int) < V.pc) = false := decide_eq_false (by omega)
  have z6 : decide ((V.ip : Int) < 0) = false := decide_eq_false (by omega)
  have z7 : decide ((V.ip : Int) > I.length) = false := decide_eq_false (by omega)
  have z7' : decide ((I.length : Int) < V.ip) = false := decide_eq_false (by omega)
  have z8 : decide ((nf : Int) < 0) = false := decide_eq_false (by omega)
  have w2 : decide (V.most < G.sp) = false := decide_eq_false (by omega)
  have w3 : decide (48 < V.most) = false := decide_eq_false (by omega)
  have w5 : decide (C.length < V.pc) = false := decide_eq_false (by omega)
  have w7 : decide (I.length < V.ip) = false := decide_eq_false (by omega)
  have hn48 : nf ≤ 48 := by omega
  have hsp48 : G.sp ≤ 48 := hs
  generalize V.most = mo at *
  generalize V.pc = pc at *
  generalize V.ip = ip at *
  have hn0 : nf = 0 := by rw [hnf, hfs]; rfl
  have Hn : Hid _ := And.intro hn0 hen
  have Hecv : Hid _ := And.intro ecv eiv
  clear H ecv eiv hfs hen hn0 htop h5 hu hs hnf hul
  go_enter Tryz.func20, Tryz.ntmps20
  go_wp2_with fail
  go_quiet (fail)
  go_wp2_with fail
  go_quiet (fail)
  go_upto_region 5 with fail
  clear z1 z2 z2' z3 z3' z4 z5 z5' z6 z7 z7' w2 w3 w5 w7 c64 c55 c56 c57 c58 c60
  generalize hw2 : World.drewN _ _ = wq
  have hq2 : Fr (fun _ => False) w wq := by rw [← hw2]; exact ((Fr.refl _ w).drewN _).drewN _
  clear hw2 c61 c62 c50 c51 c52 c53 c0 c49 c54 hlt hD
  go_cut [96] from 97 (fun v wx => v = .bool false ∧ Fr (fun _ => False) w wx)
  case first =>
    have H2 := HX.out.1.same hq2
    have c61 := H2.r_en
    have c62 := H2.r_rt
    have hlt := H2.lt
    clear H2
    by_cases he : V.en = 21
    · rw [he] at c61
      clear he
      go_wp2_with fail
      go_meet
      exact ⟨rfl, hq2⟩
    · have hr := HX.out.2.2.1 he
      rw [hr] at c62
      have y1 : (V.en != 21) = true := by simpa using he
      generalize V.en = en at *
      clear he hr
      go_wp2_with fail
      go_meet
      exact ⟨rfl, hq2⟩
  case rest =>
    obtain ⟨rfl, hqc⟩ := hcut
    clear hq2
    have H2 := HX.out.1.same hqc
    have c61 := H2.r_en
    have c50 := H2.r_fp
    have c51 := H2.r_li
    have c52 := H2.r_lr
    have c53 := H2.r_rb
    have c0 := H2.r_h
    have c49 := H2.r_sp
    have c54 := H2.r_nf
    have hlt := H2.lt
    clear H2
    go_wp2_with fail
    go_quiet (fail)
    generalize hw4 : World.drewN _ _ = w4
    have F4 : Fr (fun _ => False) w w4 := by rw [← hw4]; exact hqc.drewN _
    clear hw4 hqc c61 c50 c51 c52 c53 c0 c49 c54 hlt
    have H4 := HX.out.1.same F4
    have c61 := H4.r_en
    have c0 := H4.r_h
    have c49 := H4.r_sp
    have c54 := H4.r_nf
    have hlt := H4.lt
    have hD := fun n => depthF (H4.drewN n).hm
    clear H4
    rw [Hn.out.1] at c54
    have ye : (V.en == 0) = false := by simpa using Hn.out.2
    generalize V.en = en at *
    go_wp2_with fail
    go_quiet (first | (go_at_call 31; refine Calls.quiet_of_same (hD _)))
    go_wp2_with fail
    generalize hw3 : World.drewN _ _ = w3
    have F3 : Fr (fun _ => False) w w3 := by rw [← hw3]; exact F4.drewN _
    clear hw3 F4 c61 c0 c49 c54 hlt hD
    go_loopg [3, 4, 5, 6, 7, 8, 9, 10, 11] nf (fun g s3 s4 s5 s6 s7 s8 s9 _ _ wr => ∃ (fs : List Fm) (G1 : Gx) (d : Nat), s3 = .int .i64 G1.fp ∧ s4 = .int .i64 G1.li ∧ s5 = .int .i64 G1.lr ∧ s6 = .int .i64 G1.rb ∧ s7 = .int .i64 G1.sp ∧ s8 = .int .i64 d ∧ s9 = .int .i64 g ∧ (g = fs.length ∧ g ≤ 48) ∧ Lay st fs G1 ∧ ChF C.length fs d ∧ d ≤ 24 ∧ G1.sp ≤ 48 ∧ Fr (fun _ => False) w wr)
    case atStart => exact ⟨V.fs, G, S.top, rfl, rfl, rfl, rfl, rfl, rfl, (by rw [Hn.out.1]; rfl), ⟨HX.out.2.2.2, hn48⟩, HX.out.1.lay, HX.out.2.1, by omega, HX.out.1.s48, F3⟩
    case round =>
      obtain ⟨fs, G1, d, rfl, rfl, rfl, rfl, rfl, rfl, rfl, ⟨hg, hg48⟩, hL, hc, hd, hs, hfr⟩ := hrel
      cases fs with
      | nil =>
        have hG : G1 = ⟨0, 0, 0, 0, 0⟩ := hL
        have hd0 : d = 0 := hc
        have hg0 : gk = 0 := hg
        subst hG hd0 hg0
        clear hL hc hg
        go_wp2_with fail
        go_ret
        exact ⟨rfl, hfr⟩
      | cons f r =>
        obtain ⟨l1, l2, l3, l4, l5, l6, l7, G', g1, g2, g3, g4, g5, g6, g7⟩ := hL
        obtain ⟨k1, k2, k3⟩ := hc
        have HR := HX.out.1.same hfr
        obtain ⟨fp, li, lr, rb, sp, hfp, hli, hlr, hrb, hsp⟩ : ∃ fp li lr rb sp, G1.fp = fp ∧ G1.li = li ∧ G1.lr = lr ∧ G1.rb = rb ∧ G1.sp = sp := ⟨_, _, _, _, _, rfl, rfl, rfl, rfl, rfl⟩
        rw [hfp, hli] at l6 g5 g6
        rw [hfp] at g1
        obtain ⟨b, hb⟩ : ∃ b, b = fp + li := ⟨_, rfl⟩
        have p0 := HR.r_st (k := b) (by omega)
        have p1 := HR.r_st (k := b + 1) (by omega)
        have p2 := HR.r_st (k := b + 2) (by omega)
        rw [← hb] at l6 g5 g6
        rw [l6] at p0
        rw [g5] at p1
        rw [g6] at p2
        unfold packI at p2
        have c56 := HR.r_cv
        rw [Hecv.out.1] at c56
        have hlt := HR.lt
        have hng : gk = r.length + 1 := by simpa using hg
        have q1 := packedLiF (G'.li + 256 * G'.lr + 65536 * G'.rb)
        have q2 := packedLrF (G'.li + 256 * G'.lr + 65536 * G'.rb)
        have q3 := packedRbF (G'.li + 256 * G'.lr + 65536 * G'.rb)
        rw [show (G'.li + 256 * G'.lr + 65536 * G'.rb) % 256 = G'.li by omega] at q1
        rw [show (G'.li + 256 * G'.lr + 65536 * G'.rb) / 256 % 256 = G'.lr by omega] at q2
        rw [show (G'.li + 256 * G'.lr + 65536 * G'.rb) / 65536 = G'.rb by omega] at q3
        generalize hpk : G'.li + 256 * G'.lr + 65536 * G'.rb = pk at *
        have y1 : decide ((fp : Int) < 0) = false := decide_eq_false (by omega)
        have y2 : decide (sp < fp) = false := decide_eq_false (by omega)
        have y3 : decide ((li : Int) < 0) = false := decide_eq_false (by omega)
        have y4 : decide ((li : Int) > (sp : Int) - fp - 3) = false := decide_eq_false (by omega)
        have y4' : decide ((sp : Int) - fp - 3 < (li : Int)) = false := decide_eq_false (by omega)
        have y5 : decide ((rb : Int) < 0) = false := decide_eq_false (by omega)
        have y6 : decide (d < rb) = false := decide_eq_false (by omega)
        have y7 : decide ((lr : Int) < 0) = false := decide_eq_false (by omega)
        have y8 : decide ((lr : Int) > (d : Int) - rb) = false := decide_eq_false (by omega)
        have y8' : decide ((d : Int) - rb < (lr : Int)) = false := decide_eq_false (by omega)
        have y9 : decide ((f.ret : Int) < 0) = false := decide_eq_false (by omega)
        have y10 : decide (C.length < f.ret) = false := decide_eq_false (by omega)
        have hbi : (b : Int) + 2 < 48 := by omega
        have hbb : b + 2 < 48 := by omega
        have hfl : (fp : Int) + (li : Int) = (b : Int) := by omega
        have hgi : (gk : Int) > 0 := by omega
        rw [hfp, hli, hlr, hrb, hsp]
        have hrb24 : rb ≤ 24 := by omega
        have hs48 : sp ≤ 48 := by omega
        have hl48 : li ≤ 48 := by omega
        have hl24 : lr ≤ 24 := by omega
        have hfs : fp ≤ 48 := by omega
        have HG : Hid _ := And.intro g7 (And.intro (l3 ▸ k3 : ChF C.length r G1.rb) (And.intro g1 (And.intro hng hfr)))
        rw [hrb] at HG
        generalize f.ret = rt at *
        clear l1 l2 l3 l4 l5 l6 l7 g1 g2 g3 g4 g5 g6 g7 k1 k2 k3 HR hfp hli hlr hrb hsp hb hpk hg hng
        obtain ⟨gsp, gfp, gli, glr, grb⟩ := G'
        simp only at *
        go_wp2_with fail
        go_quiet (fail)
        go_wp2_with fail
        refine (q1 _).mono ?_
        rintro v w4 ⟨rfl, rfl⟩
        go_wp2_with fail
        refine (q2 _).mono ?_
        rintro v w4 ⟨rfl, rfl⟩
        go_wp2_with fail
        refine (q3 _).mono ?_
        rintro v w4 ⟨rfl, rfl⟩
        go_wp2_with fail
        go_roundg (gk - 1)
        case measure => omega
        case rel =>
          obtain ⟨g7, k3, g1, hng, hfr⟩ := HG.out
          refine ⟨r, ⟨gsp, gfp, gli, glr, grb⟩, rb, rfl, rfl, rfl, rfl, ?_, rfl, ?_, ⟨by omega, by omega⟩, g7, k3, hrb24, by show gsp ≤ 48; omega, hfr.drewN _⟩
          · show _ = Value.int .i64 (gsp : Int); rw [g1]
          · have e9 : ((gk - 1 : Nat) : Int) = (gk : Int) - 1 := by omega
            rw [e9]
set_option maxRecDepth 100000 in
set_option maxHeartbeats 2000000 in
theorem check_c (H : RX w A C I V S st G nf cv iv nilS) (h1 : usedF V.fs ≤ V.most) (h2 : V.most ≤ 48) (h3 : V.pc ≤ C.length) (h4 : V.ip ≤ I.length) (h5 : V.en ≠ 21 → V.rt = 0) (ht : S.top ≤ 24) (hfs : V.fs ≠ []) (hch : ChF C.length V.fs S.top) :
    Calls Tryz.prog 20 #[.pointer (some ⟨A.m, 0, none⟩)] w fun e w' => e = .returned (.bool true) ∧ Fr (fun _ => False) w w' := by
  have c61 := H.r_en
  have c62 := H.r_rt
  have c50 := H.r_fp
  have c51 := H.r_li
  have c52 := H.r_lr
  have c53 := H.r_rb
  have c0 := H.r_h
  have c49 := H.r_sp
  have c64 := H.r_most
  have c55 := H.r_pc
  have c56 := H.r_cv
  have c57 := H.r_iv
  have c58 := H.r_ip
  have c60 := H.r_ov
  have c54 := H.r_nf
  have hlt := H.lt
  obtain ⟨ca, cc, ecv, hcc⟩ := H.code.sl
  rw [ecv] at c56
  obtain ⟨ia, ic, eiv, hic⟩ := H.inp.sl
  rw [eiv] at c57
  have hcl := H.cl
  have hil := H.il
  have hu := H.lay.used
  have hs := H.s48
  have hnf := H.nfe
  have hul := lenUsed V.fs
  have hD := fun n => depthF (H.drewN n).hm
  have HX : Hid (_ ∧ _) := ⟨H, And.intro (hch : ChF C.length V.fs S.top) (And.intro h5 hnf)⟩
  have z1 : decide ((G.sp : Int) < 0) = false := decide_eq_false (by omega)
  have z2 : decide ((G.sp : Int) > V.most) = false := decide_eq_false (by omega)
  have z2' : decide ((V.most : Int) < G.sp) = false := decide_eq_false (by omega)
  have z3 : decide ((V.most : Int) > 48) = false := decide_eq_false (by omega)
  have z3' : decide ((48 : Int) < V.most) = false := decide_eq_false (by omega)
  have z4 : decide ((V.pc : Int) < 0) = false := decide_eq_false (by omega)
  have z5 : decide ((V.pc : Int) > C.length) = false := decide_eq_false (by omega)
  have z5' : decide ((C.length : Int) < V.pc) = false := decide_eq_false (by omega)
  have z6 : decide ((V.ip : Int) < 0) = false := decide_eq_false (by omega)
  have z7 : decide ((V.ip : Int) > I.length) = false := decide_eq_false (by omega)
  have z7' : decide ((I.length : Int) < V.ip) = false := decide_eq_false (by omega)
  have z8 : decide ((nf : Int) < 0) = false := decide_eq_false (by omega)
  have w2 : decide (V.most < G.sp) = false := decide_eq_false (by omega)
  have w3 : decide (48 < V.most) = false := decide_eq_false (by omega)
  have w5 : decide (C.length < V.pc) = false := decide_eq_false (by omega)
  have w7 : decide (I.length < V.ip) = false := decide_eq_false (by omega)
  have hn48 : nf ≤ 48 := by omega
  have hsp48 : G.sp ≤ 48 := hs
  generalize V.most = mo at *
  generalize V.pc = pc at *
  generalize V.ip = ip at *
  have hn0 : nf ≠ 0 := by rw [hnf]; intro h; exact hfs (List.eq_nil_of_length_eq_zero h)
  have Hn : Hid _ := hn0
  have Hecv : Hid _ := And.intro ecv eiv
  clear H ecv eiv hfs hch hn0 h5 hu hs hnf hul
  go_enter Tryz.func20, Tryz.ntmps20
  go_wp2_with fail
  go_quiet (fail)
  go_wp2_with fail
  go_quiet (fail)
  go_upto_region 5 with fail
  clear z1 z2 z2' z3 z3' z4 z5 z5' z6 z7 z7' w2 w3 w5 w7 c64 c55 c56 c57 c58 c60
  generalize hw2 : World.drewN _ _ = wq
  have hq2 : Fr (fun _ => False) w wq := by rw [← hw2]; exact ((Fr.refl _ w).drewN _).drewN _
  clear hw2 c61 c62 c50 c51 c52 c53 c0 c49 c54 hlt hD
  go_cut [96] from 97 (fun v wx => v = .bool false ∧ Fr (fun _ => False) w wx)
  case first =>
    have H2 := HX.out.1.same hq2
    have c61 := H2.r_en
    have c62 := H2.r_rt
    have hlt := H2.lt
    clear H2
    by_cases he : V.en = 21
    · rw [he] at c61
      clear he
      go_wp2_with fail
      go_meet
      exact ⟨rfl, hq2⟩
    · have hr := HX.out.2.2.1 he
      rw [hr] at c62
      have y1 : (V.en != 21) = true := by simpa using he
      generalize V.en = en at *
      clear he hr
      go_wp2_with fail
      go_meet
      exact ⟨rfl, hq2⟩
  case rest =>
    obtain ⟨rfl, hqc⟩ := hcut
    clear hq2
    have H2 := HX.out.1.same hqc
    have c61 := H2.r_en
    have c50 := H2.r_fp
    have c51 := H2.r_li
    have c52 := H2.r_lr
    have c53 := H2.r_rb
    have c0 := H2.r_h
    have c49 := H2.r_sp
    have c54 := H2.r_nf
    have hlt := H2.lt
    clear H2
    go_wp2_with fail
    go_quiet (fail)
    generalize hw4 : World.drewN _ _ = w4
    have F4 : Fr (fun _ => False) w w4 := by rw [← hw4]; exact hqc.drewN _
    clear hw4 hqc c61 c50 c51 c52 c53 c0 c49 c54 hlt
    have H4 := HX.out.1.same F4
    have c61 := H4.r_en
    have c0 := H4.r_h
    have c49 := H4.r_sp
    have c54 := H4.r_nf
    have hlt := H4.lt
    have hD := fun n => depthF (H4.drewN n).hm
    clear H4
    have ye : ((nf : Int) == 0) = false := by have := Hn.out; simpa using this
    go_wp2_with fail
    go_quiet (first | (go_at_call 31; refine Calls.quiet_of_same (hD _)))
    go_wp2_with fail
    generalize hw3 : World.drewN _ _ = w3
    have F3 : Fr (fun _ => False) w w3 := by rw [← hw3]; exact F4.drewN _
    clear hw3 F4 c61 c0 c49 c54 hlt hD
    go_loopg [3, 4, 5, 6, 7, 8, 9, 10, 11] nf (fun g s3 s4 s5 s6 s7 s8 s9 _ _ wr => ∃ (fs : List Fm) (G1 : Gx) (d : Nat), s3 = .int .i64 G1.fp ∧ s4 = .int .i64 G1.li ∧ s5 = .int .i64 G1.lr ∧ s6 = .int .i64 G1.rb ∧ s7 = .int .i64 G1.sp ∧ s8 = .int .i64 d ∧ s9 = .int .i64 g ∧ (g = fs.length ∧ g ≤ 48) ∧ Lay st fs G1 ∧ ChF C.length fs d ∧ d ≤ 24 ∧ G1.sp ≤ 48 ∧ Fr (fun _ => False) w wr)
    case atStart => exact ⟨V.fs, G, S.top, rfl, rfl, rfl, rfl, rfl, rfl, rfl, ⟨HX.out.2.2.2, hn48⟩, HX.out.1.lay, HX.out.2.1, by omega, HX.out.1.s48, F3⟩
    case round =>
      obtain ⟨fs, G1, d, rfl, rfl, rfl, rfl, rfl, rfl, rfl, ⟨hg, hg48⟩, hL, hc, hd, hs, hfr⟩ := hrel
      cases fs with
      | nil =>
        have hG : G1 = ⟨0, 0, 0, 0, 0⟩ := hL
        have hd0 : d = 0 := hc
        have hg0 : gk = 0 := hg
        subst hG hd0 hg0
        clear hL hc hg
        go_wp2_with fail
        go_ret
        exact ⟨rfl, hfr⟩
      | cons f r =>
        obtain ⟨l1, l2, l3, l4, l5, l6, l7, G', g1, g2, g3, g4, g5, g6, g7⟩ := hL
        obtain ⟨k1, k2, k3⟩ := hc
        have HR := HX.out.1.same hfr
        obtain ⟨fp, li, lr, rb, sp, hfp, hli, hlr, hrb, hsp⟩ : ∃ fp li lr rb sp, G1.fp = fp ∧ G1.li = li ∧ G1.lr = lr ∧ G1.rb = rb ∧ G1.sp = sp := ⟨_, _, _, _, _, rfl, rfl, rfl, rfl, rfl⟩
        rw [hfp, hli] at l6 g5 g6
        rw [hfp] at g1
        obtain ⟨b, hb⟩ : ∃ b, b = fp + li := ⟨_, rfl⟩
        have p0 := HR.r_st (k := b) (by omega)
        have p1 := HR.r_st (k := b + 1) (by omega)
        have p2 := HR.r_st (k := b + 2) (by omega)
        rw [← hb] at l6 g5 g6
        rw [l6] at p0
        rw [g5] at p1
        rw [g6] at p2
        unfold packI at p2
        have c56 := HR.r_cv
        rw [Hecv.out.1] at c56
        have hlt := HR.lt
        have hng : gk = r.length + 1 := by simpa using hg
        have q1 := packedLiF (G'.li + 256 * G'.lr + 65536 * G'.rb)
        have q2 := packedLrF (G'.li + 256 * G'.lr + 65536 * G'.rb)
        have q3 := packedRbF (G'.li + 256 * G'.lr + 65536 * G'.rb)
        rw [show (G'.li + 256 * G'.lr + 65536 * G'.rb) % 256 = G'.li by omega] at q1
        rw [show (G'.li + 256 * G'.lr + 65536 * G'.rb) / 256 % 256 = G'.lr by omega] at q2
        rw [show (G'.li + 256 * G'.lr + 65536 * G'.rb) / 65536 = G'.rb by omega] at q3
        generalize hpk : G'.li + 256 * G'.lr + 65536 * G'.rb = pk at *
        have y1 : decide ((fp : Int) < 0) = false := decide_eq_false (by omega)
        have y2 : decide (sp < fp) = false := decide_eq_false (by omega)
        have y3 : decide ((li : Int) < 0) = false := decide_eq_false (by omega)
        have y4 : decide ((li : Int) > (sp : Int) - fp - 3) = false := decide_eq_false (by omega)
        have y4' : decide ((sp : Int) - fp - 3 < (li : Int)) = false := decide_eq_false (by omega)
        have y5 : decide ((rb : Int) < 0) = false := decide_eq_false (by omega)
        have y6 : decide (d < rb) = false := decide_eq_false (by omega)
        have y7 : decide ((lr : Int) < 0) = false := decide_eq_false (by omega)
        have y8 : decide ((lr : Int) > (d : Int) - rb) = false := decide_eq_false (by omega)
        have y8' : decide ((d : Int) - rb < (lr : Int)) = false := decide_eq_false (by omega)
        have y9 : decide ((f.ret : Int) < 0) = false := decide_eq_false (by omega)
        have y10 : decide (C.length < f.ret) = false := decide_eq_false (by omega)
        have hbi : (b : Int) + 2 < 48 := by omega
        have hbb : b + 2 < 48 := by omega
        have hfl : (fp : Int) + (li : Int) = (b : Int) := by omega
        have hgi : (gk : Int) > 0 := by omega
        rw [hfp, hli, hlr, hrb, hsp]
        have hrb24 : rb ≤ 24 := by omega
        have hs48 : sp ≤ 48 := by omega
        have hl48 : li ≤ 48 := by omega
        have hl24 : lr ≤ 24 := by omega
        have hfs : fp ≤ 48 := by omega
        have HG : Hid _ := And.intro g7 (And.intro (l3 ▸ k3 : ChF C.length r G1.rb) (And.intro g1 (And.intro hng hfr)))
        rw [hrb] at HG
        generalize f.ret = rt at *
        clear l1 l2 l3 l4 l5 l6 l7 g1 g2 g3 g4 g5 g6 g7 k1 k2 k3 HR hfp hli hlr hrb hsp hb hpk hg hng
        obtain ⟨gsp, gfp, gli, glr, grb⟩ := G'
        simp only at *
        go_wp2_with fail
        go_quiet (fail)
        go_wp2_with fail
        refine (q1 _).mono ?_
        rintro v w4 ⟨rfl, rfl⟩
        go_wp2_with fail
        refine (q2 _).mono ?_
        rintro v w4 ⟨rfl, rfl⟩
        go_wp2_with fail
        refine (q3 _).mono ?_
        rintro v w4 ⟨rfl, rfl⟩
        go_wp2_with fail
        go_roundg (gk - 1)
        case measure => omega
        case rel =>
          obtain ⟨g7, k3, g1, hng, hfr⟩ := HG.out
          refine ⟨r, ⟨gsp, gfp, gli, glr, grb⟩, rb, rfl, rfl, rfl, rfl, ?_, rfl, ?_, ⟨by omega, by omega⟩, g7, k3, hrb24, by show gsp ≤ 48; omega, hfr.drewN _⟩
          · show _ = Value.int .i64 (gsp : Int); rw [g1]
          · have e9 : ((gk - 1 : Nat) : Int) = (gk : Int) - 1 := by omega
            rw [e9]
theorem checkF (H : RX w A C I V S st G nf cv iv nilS) (h1 : usedF V.fs ≤ V.most) (h2 : V.most ≤ 48) (h3 : V.pc ≤ C.length) (h4 : V.ip ≤ I.length) (h5 : V.en ≠ 21 → V.rt = 0) (ht : S.top ≤ 24) (hch : (V.fs = [] ∧ V.en = 0) ∨ ChF C.length V.fs S.top) :
    Calls Tryz.prog 20 #[.pointer (some ⟨A.m, 0, none⟩)] w fun e w' => e = .returned (.bool true) ∧ Fr (fun _ => False) w w' := by
  by_cases hfs : V.fs = []
  · by_cases hen : V.en = 0
    · exact check_a H h1 h2 h3 h4 h5 ht hfs hen
    · rcases hch with h | h
      · exact absurd h.2 hen
      · rw [hfs] at h
        exact check_b H h1 h2 h3 h4 h5 ht hfs hen h
  · rcases hch with h | h
    · exact absurd h.1 hfs
    · exact check_c H h1 h2 h3 h4 h5 ht hfs h
/-- A machine is born. -/
theorem newF8 {h : Nat} (w : World) : Calls Tryz.prog 8 #[.pointer (some ⟨h, 0, none⟩)] w fun e w' => e = .returned (.pointer (some ⟨w.heap.size, 0, none⟩)) ∧ Fr (fun _ => False) w w' ∧ w'.heap.size = w.heap.size + 1 ∧ Blk w' w.heap.size 65 (vC ⟨w.heap.size, h⟩ (fun _ => 0) ⟨0, 0, 0, 0, 0⟩ 0 (V0 0) nilS nilS nilS) := by
  go_enter Tryz.func8, Tryz.ntmps8
  go_wp2_with fail
  go_ret
  refine ⟨rfl, (Fr.refl _ w).alloc _, by simp [World.size_alloc], Blk.new w _ _ _ fun o ho => ?_⟩
  have ho : o < 65 := ho
  have hh : o = 0 ∨ o = 1 ∨ o = 2 ∨ o = 3 ∨ o = 4 ∨ o = 5 ∨ o = 6 ∨ o = 7 ∨ o = 8 ∨ o = 9 ∨ o = 10 ∨ o = 11 ∨ o = 12 ∨ o = 13 ∨ o = 14 ∨ o = 15 ∨ o = 16 ∨ o = 17 ∨ o = 18 ∨ o = 19 ∨ o = 20 ∨ o = 21 ∨ o = 22 ∨ o = 23 ∨ o = 24 ∨ o = 25 ∨ o = 26 ∨ o = 27 ∨ o = 28 ∨ o = 29 ∨ o = 30 ∨ o = 31 ∨ o = 32 ∨ o = 33 ∨ o = 34 ∨ o = 35 ∨ o = 36 ∨ o = 37 ∨ o = 38 ∨ o = 39 ∨ o = 40 ∨ o = 41 ∨ o = 42 ∨ o = 43 ∨ o = 44 ∨ o = 45 ∨ o = 46 ∨ o = 47 ∨ o = 48 ∨ o = 49 ∨ o = 50 ∨ o = 51 ∨ o = 52 ∨ o = 53 ∨ o = 54 ∨ o = 55 ∨ o = 56 ∨ o = 57 ∨ o = 58 ∨ o = 59 ∨ o = 60 ∨ o = 61 ∨ o = 62 ∨ o = 63 ∨ o = 64 := by omega
  rcases hh with rfl | rfl | rfl | rfl | rfl | rfl | rfl | rfl | rfl | rfl | rfl | rfl | rfl | rfl | rfl | rfl | rfl | rfl | rfl | rfl | rfl | rfl | rfl | rfl | rfl | rfl | rfl | rfl | rfl | rfl | rfl | rfl | rfl | rfl | rfl | rfl | rfl | rfl | rfl | rfl | rfl | rfl | rfl | rfl | rfl | rfl | rfl | rfl | rfl | rfl | rfl | rfl | rfl | rfl | rfl | rfl | rfl | rfl | rfl | rfl | rfl | rfl | rfl | rfl | rfl <;> rfl
end
end Go.Proofs.Qxb6500281aGreat
