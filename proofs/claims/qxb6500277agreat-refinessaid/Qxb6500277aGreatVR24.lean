/- The real machine: a call. -/
import Derived.Test.Qxb6500277aGreatVR23
import Derived.Deep.LoopGhost
import Derived.Deep.Cut
namespace Go.Proofs.Qxb6500277aGreat
open Go Go.RowKit

theorem nils_succ : ∀ (k : Nat) (M : MS), nilsM (k + 1) M = (pushM (nilsM k M)).2
  | 0, _ => rfl
  | k + 1, M => by rw [nilsM, nils_succ k]; rfl
theorem push_24 {M : MS} (h : M.rt.length ≤ 24) : (pushM M).2.rt.length ≤ 24 := by
  unfold pushM
  split
  · exact h
  · simp; omega
theorem nils_24 {M : MS} (h : M.rt.length ≤ 24) : ∀ k, (nilsM k M).rt.length ≤ 24
  | 0 => h
  | k + 1 => by rw [nils_succ]; exact push_24 (nils_24 h k)
section
variable {w w' : World} {A : Va} {C : List Nat} {I : List Int} {V : Vs} {S S' : HS} {M : MS} {st st' : Nat → Int} {G : Gx} {nf : Nat} {cv iv ov : Value} {f : Fm} {r : List Fm}
/-- A word above the stack's top is written. -/
theorem RX.word (H : RX w A C I V S st G nf cv iv ov) {k : Nat} (hk : k < 48) (hs : G.sp ≤ k) (x : Int) : RX (w.setCell ⟨A.m, 1 + k, none⟩ (.int .i64 x)) A C I V S (upd st k x) G nf cv iv ov :=
  H.turn ((Fr.refl (fun b => b = A.m) w).setC A.m (1 + k) _ (fun _ => rfl)) ((H.blk.set (1 + k) _).congr (vC_st k hk x)) (H.lay.congr (fun i hi => upd_other _ _ _ _ (by omega))) H.nfe rfl H.s48
theorem RX.gx (H : RX w A C I V S st G nf cv iv ov) (hch : ∀ f r, V.fs = f :: r → f.rb + f.lr ≤ 24) : G.li < 256 ∧ G.lr < 256 ∧ G.rb ≤ 24 := by
  have hs := H.s48
  cases hf : V.fs with
  | nil =>
    have h := H.lay
    rw [hf] at h
    have h' : G = ⟨0, 0, 0, 0, 0⟩ := h
    rw [h']; simp
  | cons f r =>
    obtain ⟨h1, h2, h3, h4, _⟩ := H.lays hf
    have := hch f r hf
    omega
theorem enter_pi {x1 x2 : Nat} (h : ¬ ((V.fs = [] ∧ (x1 ≠ 0 ∨ x2 ≠ 0)) ∨ (V.fs ≠ [] ∧ ((topO V).length < x1 ∨ ropsV V M < x2)))) : x1 ≤ (topO V).length := by
  by_cases e : V.fs = []
  · by_cases z : x1 = 0
    · omega
    · exact absurd (.inl ⟨e, .inl z⟩) h
  · by_cases z : (topO V).length < x1
    · exact absurd (.inr ⟨e, .inl z⟩) h
    · omega
theorem enter_pr {x1 x2 : Nat} (h : ¬ ((V.fs = [] ∧ (x1 ≠ 0 ∨ x2 ≠ 0)) ∨ (V.fs ≠ [] ∧ ((topO V).length < x1 ∨ ropsV V M < x2)))) : x2 ≤ M.rt.length := by
  cases e : V.fs with
  | nil =>
    by_cases z : x2 = 0
    · omega
    · exact absurd (.inl ⟨e, .inr z⟩) h
  | cons f r =>
    by_cases z : ropsV V M < x2
    · exact absurd (.inr ⟨by rw [e]; simp, .inr z⟩) h
    · unfold ropsV at z
      rw [e] at z
      simp only at z
      omega
theorem top_used (V : Vs) : (topO V).length ≤ usedF V.fs := by
  unfold topO
  cases V.fs with
  | nil => simp
  | cons f r => simp only [usedF]; omega
theorem drop_fuel (V : Vs) (x : Int) (n : Nat) : (dropO { V with fuel := x } n).fs = (dropO V n).fs := by
  obtain ⟨fs, pc, fuel, ip, out, en, rt, steps, most⟩ := V
  cases fs <;> rfl
theorem drop_len (V : Vs) (n : Nat) : (dropO V n).fs.length = V.fs.length := by
  obtain ⟨fs, pc, fuel, ip, out, en, rt, steps, most⟩ := V
  cases fs <;> rfl
set_option maxRecDepth 100000 in
set_option maxHeartbeats 2000000 in
theorem enter_go (H : RX w A C I V S st G nf cv iv ov) (hR : Rel S M) (a ret : Nat) (h : a + 5 ≤ C.length) (h2 : byteAt C a = 25) (h3 : byteAt C (a + 1) ≤ byteAt C (a + 3)) (h4 : byteAt C (a + 2) ≤ byteAt C (a + 4)) (hb : V.fuel ≤ 9223372036854775807) (hd : M.rt.length ≤ 24) (hch : ∀ f r, V.fs = f :: r → f.rb + f.lr ≤ 24) (hmo : V.most ≤ 48) : Calls Tryz.prog 71 #[.pointer (some ⟨A.m, 0, none⟩), .int .i64 (a : Nat), .int .i64 (ret : Nat)] w (RZ w A C I (callV C V M a ret).1 (callV C V M a ret).2 cv iv ov) := by
  have hcV : callV C V M a ret = if (V.fs = [] ∧ (byteAt C (a + 1) ≠ 0 ∨ byteAt C (a + 2) ≠ 0)) ∨ (V.fs ≠ [] ∧ ((topO V).length < byteAt C (a + 1) ∨ ropsV V M < byteAt C (a + 2))) then (V.die 24, M) else enterV V M a (byteAt C (a + 1)) (byteAt C (a + 2)) (byteAt C (a + 3)) (byteAt C (a + 4)) ret := by
    unfold callV
    rw [if_neg (by omega), if_neg (by omega)]
  obtain ⟨X, hX⟩ : ∃ X, X = callV C V M a ret := ⟨_, rfl⟩
  rw [← hX]
  rw [hcV] at hX
  clear hcV
  have c1 := H.r_cv
  have c3 := H.r_en
  have c4 := H.r_nf
  have hlt := H.lt
  have hz := H.blk.frozen
  have hcl := H.cl
  have b1 := H.cb (a + 1)
  have b2 := H.cb (a + 2)
  have b3 := H.cb (a + 3)
  have b4 := H.cb (a + 4)
  obtain ⟨b, c, e, hb', hc⟩ := H.code.all (by omega)
  rw [e] at c1
  have p0 := hc a (by omega)
  rw [h2] at p0
  have p1 := hc (a + 1) (by omega)
  have p2 := hc (a + 2) (by omega)
  have p3 := hc (a + 3) (by omega)
  have p4 := hc (a + 4) (by omega)
  have z : decide ((a : Int) > (C.length : Int) - 5) = false := decide_eq_false (by omega)
  have z2 : decide ((C.length : Int) - 5 < (a : Int)) = false := decide_eq_false (by omega)
  have hai : (a : Int) + 4 < (C.length : Int) := by omega
  generalize byteAt C (a + 1) = x1 at *
  generalize byteAt C (a + 2) = x2 at *
  generalize byteAt C (a + 3) = x3 at *
  generalize byteAt C (a + 4) = x4 at *
  have y1 : decide ((x3 : Int) < (x1 : Int)) = false := decide_eq_false (by omega)
  have y2 : decide (x3 < x1) = false := decide_eq_false (by omega)
  have y3 : decide ((x4 : Int) < (x2 : Int)) = false := decide_eq_false (by omega)
  have y4 : decide (x4 < x2) = false := decide_eq_false (by omega)
  have HK : Hid (_ ∧ _ ∧ _) := ⟨H, hR, And.intro h3 (And.intro h4 (And.intro hb (And.intro hch hmo)))⟩
  have XE : Hid _ := hX
  clear H e h2 hc h3 h4 hR hb hch hmo hX
  go_enter Tryz.func71, Tryz.ntmps71
  go_wp2_with fail
  go_quiet (fail)
  generalize hw2 : World.drewN _ _ = w2
  have hF2 : Fr (fun _ => False) w w2 := by rw [← hw2]; exact (Fr.refl _ w).drewN _
  clear c1 c3 c4 hlt hz p0 p1 p2 p3 p4 z z2 hw2
  have d3 := (HK.out.1.same hF2).r_en
  have d4 := (HK.out.1.same hF2).r_nf
  have hlt := (HK.out.1.same hF2).lt
  have hz := (HK.out.1.same hF2).blk.frozen
  go_upto_if 90 with fail
  clear y1 y2 y3 y4
  go_cut [10, 11] from 17 (fun _ _ wx => Fr (fun _ => False) w wx ∧ ¬ ((V.fs = [] ∧ (x1 ≠ 0 ∨ x2 ≠ 0)) ∨ (V.fs ≠ [] ∧ ((topO V).length < x1 ∨ ropsV V M < x2))))
  case first =>
    obtain ⟨H, hR, h3, h4, hb, hch, hmo⟩ := HK.out
    have H2 := H.same hF2
    have HX : Hid _ := H2
    have hnf := H.nfe
    clear HK H h3 h4 hb hmo
    cases hf : V.fs with
    | nil =>
      rw [hf] at hnf
      subst hnf
      simp only [List.length_nil] at d4
      by_cases g1 : x1 = 0
      · subst g1
        by_cases g2 : x2 = 0
        · subst g2
          have Hf : Hid _ := hf
          clear H2 hf hch hR
          go_wp2_with fail
          go_meet
          exact ⟨hF2, by rw [Hf.out]; simp⟩
        · have y1 : ((x2 : Int) != 0) = true := by simpa using g2
          have Hf : Hid _ := And.intro hf (And.intro g2 hR)
          clear H2 hf hch hR g2
          go_wp2_with fail
          refine bodyPost_ret (v := .tuple #[]) (by simp [results, Tryz.results71, go_sem]) rfl ?_
          rw [show X = (V.die 24, M) by rw [XE.out, if_pos (.inl ⟨Hf.out.1, .inr Hf.out.2.1⟩)]]
          exact ⟨rfl, S, (HX.out.s_en 24).y, Hf.out.2.2, (hF2.mono (fun _ _ h => h.elim)).setC A.m 61 _ (fun _ => .inl rfl)⟩
      · have y1 : ((x1 : Int) != 0) = true := by simpa using g1
        have Hf : Hid _ := And.intro hf (And.intro g1 hR)
        clear H2 hf hch hR g1
        go_wp2_with fail
        refine bodyPost_ret (v := .tuple #[]) (by simp [results, Tryz.results71, go_sem]) rfl ?_
        rw [show X = (V.die 24, M) by rw [XE.out, if_pos (.inl ⟨Hf.out.1, .inl Hf.out.2.1⟩)]]
        exact ⟨rfl, S, (HX.out.s_en 24).y, Hf.out.2.2, (hF2.mono (fun _ _ h => h.elim)).setC A.m 61 _ (fun _ => .inl rfl)⟩
    | cons f r =>
      have e1 := iopsF H2 hf
      have hq := hch f r hf
      have hL := hR.len
      have e2 := fun m => ropsF (H2.drewN m) hf (by omega) (by omega)
      rw [← hL] at e2
      have t1 : (topO V).length = f.ops.length := by unfold topO; rw [hf]
      have t2 : ropsV V M = (M.rt.length : Int) - f.rb - f.lr := by unfold ropsV; rw [hf]
      have hne : V.fs ≠ [] := by rw [hf]; simp
      rw [hf] at hnf
      have hn0 : nf ≠ 0 := by rw [hnf]; simp
      have hu := lenUsed V.fs
      have hu2 := H2.lay.used
      have hs := H2.s48
      have hn48 : nf ≤ 48 := by rw [hnf, ← hf]; omega
      have y0 : ((nf : Int) == 0) = false := by simpa using hn0
      obtain ⟨no, hno⟩ : ∃ no, no = f.ops.length := ⟨_, rfl⟩
      have ho48 : no ≤ 48 := by have := (H2.lays hf).2.2.2.1; omega
      obtain ⟨nr, hnr⟩ : ∃ nr, nr = (M.rt.length : Int) - f.rb - f.lr := ⟨_, rfl⟩
      have hr48 : -48 ≤ nr ∧ nr ≤ 24 := by omega
      rw [← hno] at e1 t1
      rw [← hnr] at e2 t2
      have Hf : Hid _ := And.intro hne (And.intro hR (And.intro t1 t2))
      clear H2 hf hch hR hL t1 t2 hne hnf hu hu2 hs hno hnr hq
      go_wp2_with fail
      refine e1.mono ?_
      rintro v wa ⟨rfl, m, rfl⟩
      go_wp2_with fail
      refine (e2 m).mono ?_
      rintro v wb ⟨rfl, m2, rfl⟩
      clear e1 e2
      have HY : Hid _ := HX.out.drewN (m + m2)
      by_cases g1 : no < x1
      · have y1 : decide ((no : Int) < (x1 : Int)) = true := decide_eq_true (by omega)
        have y2 : decide (no < x1) = true := decide_eq_true g1
        go_wp2_with fail
        refine bodyPost_ret (v := .tuple #[]) (by simp [results, Tryz.results71, go_sem]) rfl ?_
        rw [show X = (V.die 24, M) by rw [XE.out, if_pos (.inr ⟨Hf.out.1, .inl (by rw [Hf.out.2.2.1]; exact g1)⟩)]]
        exact ⟨rfl, S, (HY.out.s_en 24).y, Hf.out.2.1, Fr.setC ((hF2.mono (S' := VS A) (fun _ _ h => h.elim)).drewN (m + m2)) A.m 61 _ (fun _ => Or.inl rfl)⟩
      · have y1 : decide ((no : Int) < (x1 : Int)) = false := decide_eq_false (by omega)
        have y2 : decide (no < x1) = false := decide_eq_false g1
        by_cases g2 : nr < x2
        · have y3 : decide (nr < (x2 : Int)) = true := decide_eq_true g2
          go_wp2_with fail
          refine bodyPost_ret (v := .tuple #[]) (by simp [results, Tryz.results71, go_sem]) rfl ?_
          rw [show X = (V.die 24, M) by rw [XE.out, if_pos (.inr ⟨Hf.out.1, .inr (by rw [Hf.out.2.2.2]; exact g2)⟩)]]
          exact ⟨rfl, S, (HY.out.s_en 24).y, Hf.out.2.1, Fr.setC ((hF2.mono (S' := VS A) (fun _ _ h => h.elim)).drewN (m + m2)) A.m 61 _ (fun _ => Or.inl rfl)⟩
        · have y3 : decide (nr < (x2 : Int)) = false := decide_eq_false g2
          go_wp2_with fail
          go_meet
          exact ⟨hF2.drewN (m + m2), fun hh => by rcases hh with ⟨h, _⟩ | ⟨_, h | h⟩; exact Hf.out.1 h; exact g1 (by rw [← Hf.out.2.2.1]; exact h); have := Hf.out.2.2.2; omega⟩
  case rest =>
    obtain ⟨hFc, hcond⟩ := hcut
    have hX := XE.out
    rw [if_neg hcond] at hX
    clear XE
    obtain ⟨H, hR, h3, h4, hb, hch, hmo⟩ := HK.out
    clear HK
    have H2 := H.same hFc
    have hS := spendF H2 hb
    have hpi : x1 ≤ (topO V).length := enter_pi hcond
    have hpr : x2 ≤ M.rt.length := enter_pr hcond
    have htu := top_used V
    clear hcond H
    unfold enterV at hX
    have XE : Hid _ := hX
    clear hX d3 d4 hlt hz
    have Hc : Hid _ := And.intro hR (And.intro hch (And.intro hmo (And.intro htu (And.intro hpi (And.intro hpr (And.intro h3 h4))))))
    have hL := hR.len
    clear hR hch hmo htu hpi hpr h3 h4 H2
    go_wp2_with fail
    refine hS.mono ?_
    rintro v w3 ⟨f3, hh⟩
    clear hS
    have F3 : Fr (VS A) w w3 := (hFc.mono (fun _ _ h => h.elim)).trans f3 (fun _ _ h => h)
    clear hFc f3 hF2
    by_cases hfu : V.fuel ≤ 0
    · rw [if_pos hfu] at hh
      have eX : X = (V.die 22, M) := by rw [XE.out, if_pos hfu]
      subst eX
      clear XE
      obtain ⟨rfl, K⟩ := hh
      have HX : Hid _ := K
      clear K
      go_wp2_with fail
      exact bodyPost_ret (v := .tuple #[]) (by simp [results, Tryz.results71, go_sem]) rfl ⟨rfl, S, HX.out, Hc.out.1, F3⟩
    · rw [if_neg hfu] at hh
      have hX := XE.out
      rw [if_neg hfu] at hX
      clear XE
      obtain ⟨rfl, st1, G1, nf1, H1⟩ := hh
      have hD := depthF H1.hm
      rw [← hL] at hD
      have hu : G1.sp = usedF V.fs := H1.lay.used
      rw [← hu] at hX
      obtain ⟨V1, hV1⟩ : ∃ V1 : Vs, V1 = { V with fuel := V.fuel - 1 } := ⟨_, rfl⟩
      rw [← hV1] at H1
      have s48 := H1.s48
      have d1 := H1.r_sp
      have d2 := H1.r_h
      have d3 := H1.r_en
      have hlt := H1.lt
      have hz := H1.blk.frozen
      obtain ⟨d, hdd⟩ : ∃ d, d = M.rt.length := ⟨_, rfl⟩
      rw [← hdd] at hD hd
      obtain ⟨sp, hsp⟩ : ∃ sp, sp = G1.sp := ⟨_, rfl⟩
      rw [← hsp] at d1 s48
      have g0 : Hid _ := And.intro hsp (And.intro hdd (And.intro hu hV1))
      have HX : Hid _ := H1
      have hx : x1 ≤ sp ∧ x2 ≤ d ∧ x1 ≤ x3 ∧ x2 ≤ x4 := by have := Hc.out; rw [← hu, ← hsp, ← hdd] at this; omega
      obtain ⟨hx1, hx2, hx3, hx4⟩ := hx
      rw [← hsp, ← hdd] at hX
      have XE : Hid _ := hX
      clear hX
      clear hsp hdd hu hV1 H1 hL
      by_cases g1 : (48 : Int) < (sp : Int) - x1 + x3 + 3
      · have eX : X = (({ V with fuel := V.fuel - 1 } : Vs).die 29, M) := by rw [XE.out, if_pos (.inl g1)]
        subst eX
        clear XE
        have y1 : decide ((sp : Int) - x1 + x3 + 3 > 48) = true := decide_eq_true (by omega)
        have y2 : decide ((48 : Int) < (sp : Int) - x1 + x3 + 3) = true := decide_eq_true (by omega)
        go_wp2_with fail
        refine hD.mono ?_
        rintro v w4 ⟨rfl, rfl⟩
        go_wp2_with fail
        refine bodyPost_ret (v := .tuple #[]) (by simp [results, Tryz.results71, go_sem]) rfl ⟨rfl, S, ?_, Hc.out.1, F3.setC A.m 61 _ (fun _ => .inl rfl)⟩
        have := (HX.out.s_en 29).y
        rw [g0.out.2.2.2] at this
        exact this
      · by_cases g2 : (24 : Int) < (d : Int) - x2 + x4
        · have eX : X = (({ V with fuel := V.fuel - 1 } : Vs).die 29, M) := by rw [XE.out, if_pos (.inr g2)]
          subst eX
          clear XE
          have y1 : decide ((sp : Int) - x1 + x3 + 3 > 48) = false := decide_eq_false (by omega)
          have y2 : decide ((48 : Int) < (sp : Int) - x1 + x3 + 3) = false := decide_eq_false (by omega)
          have y3 : decide ((d : Int) - x2 + x4 > 24) = true := decide_eq_true (by omega)
          have y4 : decide ((24 : Int) < (d : Int) - x2 + x4) = true := decide_eq_true (by omega)
          go_wp2_with fail
          refine hD.mono ?_
          rintro v w4 ⟨rfl, rfl⟩
          go_wp2_with fail
          refine bodyPost_ret (v := .tuple #[]) (by simp [results, Tryz.results71, go_sem]) rfl ⟨rfl, S, ?_, Hc.out.1, F3.setC A.m 61 _ (fun _ => .inl rfl)⟩
          have := (HX.out.s_en 29).y
          rw [g0.out.2.2.2] at this
          exact this
        · have hX := XE.out
          rw [if_neg (by omega)] at hX
          clear XE
          have XE : Hid _ := hX
          clear hX
          have y1 : decide ((sp : Int) - x1 + x3 + 3 > 48) = false := decide_eq_false (by omega)
          have y2 : decide ((48 : Int) < (sp : Int) - x1 + x3 + 3) = false := decide_eq_false (by omega)
          have y3 : decide ((d : Int) - x2 + x4 > 24) = false := decide_eq_false (by omega)
          have y4 : decide ((24 : Int) < (d : Int) - x2 + x4) = false := decide_eq_false (by omega)
          go_wp2_with fail
          refine hD.mono ?_
          rintro v w4 ⟨rfl, rfl⟩
          clear hD
          go_upto_region 16 with fail
          clear y1 y2 y3 y4
          obtain ⟨k, hk⟩ : ∃ k, sp = k + x1 := ⟨sp - x1, by omega⟩
          obtain ⟨b, hbb⟩ : ∃ b, b = k + x3 := ⟨_, rfl⟩
          have i1 : (sp : Int) - (x1 : Int) = (k : Int) := by omega
          have i2 : (k : Int) + (x3 : Int) = (b : Int) := by omega
          have i3 : sp ≤ b ∧ b + 3 ≤ 48 := by omega
          obtain ⟨i3, i4⟩ := i3
          have g3 : Hid _ := And.intro hk hbb
          clear hk hbb g1 g2
          go_wp2_with fail
          go_loopg [15] (b - sp) (fun g jv wr => ∃ j : Nat, jv = .int .i64 j ∧ j + g = b ∧ sp ≤ j ∧ RX wr A C I V1 S (zst st1 sp j) G1 nf1 cv iv ov ∧ Fr (VS A) w wr)
          case atStart => exact ⟨sp, rfl, by omega, Nat.le_refl _, by rw [zst_zero]; exact HX.out, F3⟩
          case round =>
            obtain ⟨j, rfl, hjg, hjs, HJ, hfr⟩ := hrel
            have hjg' : j + gk = b := hjg
            have HX2 := HX
            clear hjg d1 d2 d3 hlt hz F3 HX
            have hlt := HJ.lt
            have hz := HJ.blk.frozen
            by_cases hj : j < b
            · have hj' : (j : Int) < b := by omega
              have c1 := HJ.r_st (k := j) (by omega)
              have key := HJ.word (k := j) (by omega) (by rw [← g0.out.1]; exact hjs) 0
              rw [zst_succ hjs] at key
              have Hk2 : Hid (_ ∧ _) := ⟨key, hfr.setC A.m (1 + j) (.int .i64 0) (fun _ => .inl rfl)⟩
              clear key HJ hfr
              go_wp2_with fail
              go_roundg (gk - 1)
              case measure => omega
              case rel => exact ⟨j + 1, by simp, by omega, by omega, Hk2.out.1, Hk2.out.2⟩
            · have hjb : b = j := by omega
              subst hjb
              have c0 := HJ.r_st (k := b) (by omega)
              have c1 := HJ.r_st (k := b + 1) (by omega)
              have c2 := HJ.r_st (k := b + 2) (by omega)
              have cf := HJ.r_fp
              have cl := HJ.r_li
              have cr := HJ.r_lr
              have cb := HJ.r_rb
              have ch := HJ.r_h
              have hgx := HJ.gx (fun f r h => Hc.out.2.1 f r (by rw [g0.out.2.2.2] at h; exact h))
              have pk := packF G1.li G1.lr G1.rb hgx
              have hb2 : (b : Int) + 2 < 48 := by omega
              have hb3 : b + 2 < 48 := by omega
              have key := ((HJ.word (k := b) (by omega) (by rw [← g0.out.1]; exact hjs) (ret : Int)).word (k := b + 1) (by omega) (by rw [← g0.out.1]; omega) (G1.fp : Int)).word (k := b + 2) (by omega) (by rw [← g0.out.1]; omega) (packI G1.li G1.lr G1.rb)
              have keyF := ((hfr.setC A.m (1 + b) (.int .i64 (ret : Int)) (fun _ => .inl rfl)).setC A.m (1 + (b + 1)) (.int .i64 (G1.fp : Int)) (fun _ => .inl rfl)).setC A.m (1 + (b + 2)) (.int .i64 (packI G1.li G1.lr G1.rb)) (fun _ => .inl rfl)
              have Hk : Hid (_ ∧ _ ∧ _) := ⟨key, keyF, hgx⟩
              clear key keyF HJ hfr hgx
              go_wp2_with fail
              refine wp_region_text (by kernel_rfl) (by kernel_rfl) ?_
              go_wp2_with fail
              refine ⟨by kernel_rfl, ?_⟩
              go_wp2_with fail
              refine wp_region_ord [0, 1, 2, 3, 4, 5, 6, 7, 8, 9, 10, 11, 12, 13, 14, 16, 17, 15, 18, 19] (by kernel_rfl) (by kernel_rfl) ?_
              simp only [pick, List.filterMap_cons, List.filterMap_nil, List.getElem?_cons_zero, List.getElem?_cons_succ]
              go_wp2_with fail
              refine (pk _).mono ?_
              rintro v wq ⟨rfl, rfl⟩
              go_wp2_with fail
              refine ⟨by kernel_rfl, ?_⟩
              go_wp2_with fail
              clear c0 c1 c2 cf cl cr cb ch pk hz hlt
              go_loopg [16] (x4 - x2) (fun g qv wr2 => ∃ q : Nat, qv = .int .i64 q ∧ q + g = x4 ∧ x2 ≤ q ∧ ∃ S2, RX wr2 A C I V1 S2 (est st1 G1 sp b ret) G1 nf1 cv iv ov ∧ Rel S2 (nilsM (q - x2) M) ∧ Fr (VS A) w wr2)
              case atStart => exact ⟨x2, rfl, by omega, Nat.le_refl _, S, Hk.out.1.same ((Fr.refl _ _).drew.drew), by rw [Nat.sub_self]; exact Hc.out.1, Hk.out.2.1.drew.drew⟩
              case round =>
                obtain ⟨q, rfl, hqg, hqs, S2, HQ, hRq, hfr2⟩ := hrel
                have hqg' : q + gk = x4 := hqg
                have hgx := Hk.out.2.2
                clear hqg Hk
                have hlt := HQ.lt
                have hz := HQ.blk.frozen
                have ch := HQ.r_h
                by_cases hq : q < x4
                · have hq' : (q : Int) < x4 := by omega
                  have hP := pushF HQ.hm (by rw [← hRq.len]; exact nils_24 (by rw [← g0.out.2.1]; exact hd) _)
                  have Hk2 : Hid (_ ∧ _ ∧ _) := ⟨HQ, hRq, hfr2⟩
                  clear HQ hRq hfr2
                  go_wp2_with fail
                  refine hP.mono ?_
                  rintro v w6 ⟨rfl, hm6, f6⟩
                  clear hP
                  go_wp2_with fail
                  go_roundg (gk - 1)
                  case measure => omega
                  case rel => exact ⟨q + 1, by simp, by omega, by omega, _, Hk2.out.1.heap f6 hm6, by rw [show q + 1 - x2 = (q - x2) + 1 by omega, nils_succ]; exact (Rel.push Hk2.out.2.1).2, Hk2.out.2.2.trans (f6.mono (fun b _ h => .inr h)) (fun _ _ h => h)⟩
                · have hqx : x4 = q := by omega
                  subst hqx
                  obtain ⟨e, he⟩ : ∃ e, e = d - x2 := ⟨_, rfl⟩
                  have i5 : (d : Int) - (x2 : Int) = (e : Int) := by omega
                  have c49 := HQ.r_sp
                  have c50 := HQ.r_fp
                  have c51 := HQ.r_li
                  have c52 := HQ.r_lr
                  have c53 := HQ.r_rb
                  have c54 := HQ.r_nf
                  have c55 := HQ.r_pc
                  have c64 := HQ.r_most
                  have hmo : V1.most ≤ 48 := by rw [g0.out.2.2.2]; exact Hc.out.2.2.1
                  have hnf := HQ.nfe
                  have hu3 := lenUsed V1.fs
                  have hu4 := HQ.lay.used
                  have hs3 := HQ.s48
                  have hn48 : nf1 ≤ 48 := by omega
                  have hfs : V1.fs = V.fs := by rw [g0.out.2.2.2]
                  have hLe := Lay.enter (V := V1) (M := M) (pi := x1) (pr := x2) (li := x3) (lr := x4) (ret := ret) (b := b) (st := st1) (G := G1) (by have := HX2.out.lay; exact this) (by unfold topO; rw [hfs]; exact Hc.out.2.2.2.2.1) hx3 (by rw [← g0.out.1]; have := g3.out; omega) hgx.1 hgx.2 k (by rw [← g0.out.1]; exact g3.out.1.symm)
                  rw [← g0.out.1, ← g0.out.2.1, ← he] at hLe
                  generalize est st1 G1 sp b ret = st2 at *
                  have B1 := (((((((((HQ.blk.set 50 (.int .i64 (k : Nat))).congr (vC_fp k)).set 51 (.int .i64 (x3 : Nat))).congr (vC_li x3)).set 52 (.int .i64 (x4 : Nat))).congr (vC_lr x4)).set 53 (.int .i64 (e : Nat))).congr (vC_rb e)).set 49 (.int .i64 (b + 3 : Nat))).congr (vC_sp (b + 3))
                  have F1 := (((((Fr.refl (fun b => b = A.m) wr).setC A.m 50 (.int .i64 (k : Nat)) (fun _ => rfl)).setC A.m 51 (.int .i64 (x3 : Nat)) (fun _ => rfl)).setC A.m 52 (.int .i64 (x4 : Nat)) (fun _ => rfl)).setC A.m 53 (.int .i64 (e : Nat)) (fun _ => rfl)).setC A.m 49 (.int .i64 (b + 3 : Nat)) (fun _ => rfl)
                  obtain ⟨mo, hmoE⟩ : ∃ mo, mo = V1.most := ⟨_, rfl⟩
                  rw [← hmoE] at c64 hmo
                  by_cases hmx : mo < b + 3
                  · have y1 : decide ((mo : Int) < (b : Int) + 3) = true := decide_eq_true (by omega)
                    have y2 : decide ((b : Int) + 3 > (mo : Int)) = true := decide_eq_true (by omega)
                    have B2 := fun nq => (((((((B1.frame ((Fr.refl (fun _ => False) _).drewN nq) (fun h => h)).set 64 (.int .i64 (b + 3 : Nat))).congr (vC_most (b + 3))).set 54 (.int .i64 (nf1 + 1 : Nat))).congr (vC_nf (nf1 + 1))).set 55 (.int .i64 (a + 5 : Nat))).congr (vC_pc (a + 5)))
                    have F2 := fun nq => (((F1.drewN nq).setC A.m 64 (.int .i64 (b + 3 : Nat)) (fun _ => rfl)).setC A.m 54 (.int .i64 (nf1 + 1 : Nat)) (fun _ => rfl)).setC A.m 55 (.int .i64 (a + 5 : Nat)) (fun _ => rfl)
                    have eX : X = ({ V1 with fs := newF V1 M x1 x2 x3 x4 ret :: (dropO V1 x1).fs, most := b + 3, pc := a + 5 }, nilsM (x4 - x2) M) := by
                      rw [XE.out, g0.out.2.2.2, drop_fuel V (V.fuel - 1) x1, show max V.most (sp - x1 + x3 + 3) = b + 3 by have := g3.out; rw [g0.out.2.2.2] at hmoE; simp only at hmoE; omega]
                      rfl
                    have HD : Hid (_ ∧ _ ∧ _ ∧ _) := ⟨HQ, hRq, And.intro hfr2 (And.intro hLe (And.intro (And.intro hnf hs3) eX)), And.intro B2 F2⟩
                    clear HQ hRq hfr2 hLe B1 F1 B2 F2 eX XE hnf hu3 hu4 hs3 hfs hmoE g0 g3 Hc HX2 he hgx
                    go_wp2_with fail
                    go_quiet (fail)
                    go_wp2_with fail
                    go_end0
                    obtain ⟨HQ, hRq, ⟨hfr2, hLe, ⟨hnf, hs3⟩, eX⟩, B2, F2⟩ := HD.out
                    rw [eX]
                    refine ⟨rfl, S2, ?_, hRq, hfr2.trans ((F2 _).mono (fun b _ h => .inl h)) (fun _ _ h => h)⟩
                    exact (HQ.turn (V' := { V1 with fs := newF V1 M x1 x2 x3 x4 ret :: (dropO V1 x1).fs, most := b + 3, pc := a + 5 }) (F2 _) ((B2 _).congr (fun _ _ => rfl)) hLe (by rw [List.length_cons, drop_len, hnf]) rfl (by show b + 3 ≤ 48; omega)).y
                  · have y1 : decide ((mo : Int) < (b : Int) + 3) = false := decide_eq_false (by omega)
                    have y2 : decide ((b : Int) + 3 > (mo : Int)) = false := decide_eq_false (by omega)
                    have B2 := fun nq => (((((B1.frame ((Fr.refl (fun _ => False) _).drewN nq) (fun h => h)).set 54 (.int .i64 (nf1 + 1 : Nat))).congr (vC_nf (nf1 + 1))).set 55 (.int .i64 (a + 5 : Nat))).congr (vC_pc (a + 5)))
                    have F2 := fun nq => ((F1.drewN nq).setC A.m 54 (.int .i64 (nf1 + 1 : Nat)) (fun _ => rfl)).setC A.m 55 (.int .i64 (a + 5 : Nat)) (fun _ => rfl)
                    have eX : X = ({ V1 with fs := newF V1 M x1 x2 x3 x4 ret :: (dropO V1 x1).fs, pc := a + 5 }, nilsM (x4 - x2) M) := by
                      rw [XE.out, g0.out.2.2.2, drop_fuel V (V.fuel - 1) x1, show max V.most (sp - x1 + x3 + 3) = V.most by have := g3.out; rw [g0.out.2.2.2] at hmoE; simp only at hmoE; omega]
                      rfl
                    have HD : Hid (_ ∧ _ ∧ _ ∧ _) := ⟨HQ, hRq, And.intro hfr2 (And.intro hLe (And.intro (And.intro hnf hs3) eX)), And.intro B2 F2⟩
                    clear HQ hRq hfr2 hLe B1 F1 B2 F2 eX XE hnf hu3 hu4 hs3 hfs hmoE g0 g3 Hc HX2 he hgx
                    go_wp2_with fail
                    go_quiet (fail)
                    go_wp2_with fail
                    go_end0
                    obtain ⟨HQ, hRq, ⟨hfr2, hLe, ⟨hnf, hs3⟩, eX⟩, B2, F2⟩ := HD.out
                    rw [eX]
                    refine ⟨rfl, S2, ?_, hRq, hfr2.trans ((F2 _).mono (fun b _ h => .inl h)) (fun _ _ h => h)⟩
                    exact (HQ.turn (V' := { V1 with fs := newF V1 M x1 x2 x3 x4 ret :: (dropO V1 x1).fs, pc := a + 5 }) (F2 _) ((B2 _).congr (fun _ _ => rfl)) hLe (by rw [List.length_cons, drop_len, hnf]) rfl (by show b + 3 ≤ 48; omega)).y
end
end Go.Proofs.Qxb6500277aGreat
