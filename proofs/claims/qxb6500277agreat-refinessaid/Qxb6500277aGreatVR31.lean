/- The real machine: steps (written by genVR26.py). -/
import Derived.Test.Qxb6500277aGreatVR26
namespace Go.Proofs.Qxb6500277aGreat
open Go Go.RowKit

section
variable {w w' w0 : World} {A : Va} {C : List Nat} {I : List Int} {V V' : Vs} {S S' : HS} {M M' : MS} {st st' : Nat → Int} {G : Gx} {nf : Nat} {cv iv ov : Value} {f : Fm} {r : List Fm} {e : Ending}
set_option maxRecDepth 100000 in
set_option maxHeartbeats 1000000 in
theorem step13 (H : RX w A C I V S st G nf cv iv ov) (hR : Rel S M) (hf : V.fs = f :: r) (hd : M.rt.length ≤ 24) (hq : f.rb + f.lr ≤ 24) (hop : byteAt C V.pc = 13) (hp : V.pc + 1 + 0 ≤ C.length) (hi : 1 ≤ f.ops.length) (hr : (0 : Int) ≤ (M.rt.length : Int) - f.rb - f.lr) : Calls Tryz.prog 72 #[.pointer (some ⟨A.m, 0, none⟩)] w (RS w A C I (execV C I 13 V.pc { V with steps := wr64 (V.steps + 1), pc := V.pc + 1 + 0 } M).1 (execV C I 13 V.pc { V with steps := wr64 (V.steps + 1), pc := V.pc + 1 + 0 } M).2 cv iv ov) := by
  obtain ⟨V2, hV2⟩ : ∃ V2 : Vs, V2 = { V with steps := wr64 (V.steps + 1), pc := V.pc + 1 + 0 } := ⟨_, rfl⟩
  rw [← hV2]
  obtain ⟨X, hX⟩ : ∃ X, X = execV C I 13 V.pc V2 M := ⟨_, rfl⟩
  rw [← hX]
  have hf2 : V2.fs = f :: r := by rw [hV2]; exact hf
  have c1 := H.r_steps
  have c2 := H.r_pc
  have c3 := H.r_cv
  have c4 := H.r_en
  have hlt := H.lt
  have hz := H.blk.frozen
  have hcl := H.cl
  obtain ⟨b, c, e, hb', hc⟩ := H.code.all (by omega)
  have hbm : b ≠ A.m := (H.cd b ⟨_, _, e⟩).1
  have He : Hid _ := e
  rw [e] at c3
  have p0 := hc V.pc (by omega)
  rw [hop] at p0
  have q1 : ∀ w, Calls Tryz.prog 42 #[.int .i64 13] w fun e w' => e = .returned (.int .i64 0) ∧ w' = w := fun w => opArgsF 13 (by omega) w
  have hL := hR.len
  have H1 := H.s_steps (wr64 (V.steps + 1))
  have q2 := iopsF H1 (f := f) (r := r) hf
  have q3 : ∀ w, Calls Tryz.prog 106 #[.int .i64 13] w fun e w' => e = .returned (.int .i64 1) ∧ w' = w := fun w => wantIF 13 (by omega) w
  have q4 := fun m => ropsF (H1.drewN m) (f := f) (r := r) hf (by omega) (by omega)
  rw [← hL] at q4
  have q5 : ∀ w, Calls Tryz.prog 107 #[.int .i64 13] w fun e w' => e = .returned (.int .i64 0) ∧ w' = w := fun w => wantRF 13 (by omega) w
  have ho48 : f.ops.length ≤ 48 := by have := (H.lays hf).2.2.2.1; have := H.s48; omega
  obtain ⟨nr, hnr⟩ : ∃ nr, nr = (M.rt.length : Int) - f.rb - f.lr := ⟨_, rfl⟩
  have hr48 : -48 ≤ nr ∧ nr ≤ 24 := by omega
  rw [← hnr] at q4 hr
  have HK : Hid (∀ m, RX _ A C I V2 S st G nf cv iv ov) := fun m => by rw [hV2]; exact (H1.drewN m).s_pc (V.pc + 1 + 0)
  have FF : Hid (∀ m, _) := fun m => (((Fr.refl (VS A) w).setC A.m 63 (.int .i64 (wr64 (V.steps + 1))) (fun _ => .inl rfl)).drewN m).setC A.m 55 (.int .i64 (V.pc + 1 + 0 : Nat)) (fun _ => .inl rfl)
  have HE : Hid (_ ∧ _) := ⟨hX, And.intro hR (And.intro hf2 (And.intro hi hr))⟩
  have HV : Hid _ := hV2
  generalize hpcE : V.pc = pc at *
  obtain ⟨no, hno⟩ : ∃ no, no = f.ops.length := ⟨_, rfl⟩
  rw [← hno] at q2 hi ho48
  generalize V.steps = sx at *
  clear H H1 e hR hL hnr hf hq hd hX hf2 hno hV2 hpcE
  have hp' : (pc : Int) + 1 + 0 ≤ C.length := by omega
  have z : decide ((pc : Int) ≥ C.length) = false := decide_eq_false (by omega)
  have y2 : decide ((0 : Int) > (C.length : Int) - pc - 1) = false := decide_eq_false (by omega)
  have y3 : decide ((C.length : Int) - pc - 1 < (0 : Int)) = false := decide_eq_false (by omega)
  have y4 : decide ((no : Int) < 1) = false := decide_eq_false (by omega)
  have y5 : decide (nr < 0) = false := decide_eq_false (by omega)
  go_enter Tryz.func72, Tryz.ntmps72
  go_wp2_with fail
  refine (q1 _).mono ?_
  rintro v wa ⟨rfl, rfl⟩
  go_wp2_with fail
  refine q2.mono ?_
  rintro v wa ⟨rfl, m, rfl⟩
  go_wp2_with fail
  refine (q3 _).mono ?_
  rintro v wa ⟨rfl, rfl⟩
  go_wp2_with fail
  refine (q4 m).mono ?_
  rintro v wa ⟨rfl, m2, rfl⟩
  go_wp2_with fail
  refine (q5 _).mono ?_
  rintro v wa ⟨rfl, rfl⟩
  clear q1 q2 q3 q4 q5
  go_upto_region 46 with fail
  generalize hw2 : World.setCell _ ⟨A.m, 55, none⟩ _ = w2
  have H2 : RX w2 A C I V2 S st G nf cv iv ov := by rw [← hw2]; exact HK.out (m + m2)
  have F2 : Fr (VS A) w w2 := by rw [← hw2]; exact FF.out (m + m2)
  clear hw2 c1 c2 c3 c4 hlt hz p0 HK FF z y2 y3 y4 y5 hr48 hbm hb' hc
  have eX : X = (putO V2 1 (wr64 (-(opn V2 0))), M) := by rw [HE.out.1]; exact rfl
  have HX2 : Hid _ := And.intro F2 (And.intro HE.out.2.1 eX)
  have hlt := H2.lt
  clear F2 eX
  obtain ⟨k, k1, k2, -, s0⟩ := H2.one HE.out.2.2.1 HE.out.2.2.2.1
  have d1 := H2.r_sp
  rw [k1] at d1
  have d2 := H2.r_st (k := k) (by omega)
  rw [s0] at d2
  have hz := H2.blk.frozen
  have hki : (k : Int) < 48 := by omega
  have e1 : ((k + 1 : Nat) : Int) - 1 = (k : Int) := by omega
  generalize opn V2 0 = x at *
  have key : Hid _ := H2.put1 HE.out.2.2.1 HE.out.2.2.2.1 k1 (wr64 (-x))
  clear H2 HE He k1 s0
  refine wp_region_text (by kernel_rfl) (by kernel_rfl) ?_
  go_wp2_with fail
  refine ⟨by kernel_rfl, ?_⟩
  go_wp2_with fail
  go_end0
  rw [HX2.out.2.2]
  exact RS.of ⟨rfl, (key.out.same ((Fr.refl _ _).drew)).y, ((Fr.refl (VS A) w2).setC A.m (1 + k) _ (fun _ => .inl rfl)).drew⟩ HX2.out.2.1 HX2.out.1
set_option maxRecDepth 100000 in
set_option maxHeartbeats 1000000 in
theorem step14 (H : RX w A C I V S st G nf cv iv ov) (hR : Rel S M) (hf : V.fs = f :: r) (hd : M.rt.length ≤ 24) (hq : f.rb + f.lr ≤ 24) (hop : byteAt C V.pc = 14) (hp : V.pc + 1 + 0 ≤ C.length) (hi : 1 ≤ f.ops.length) (hr : (0 : Int) ≤ (M.rt.length : Int) - f.rb - f.lr) : Calls Tryz.prog 72 #[.pointer (some ⟨A.m, 0, none⟩)] w (RS w A C I (execV C I 14 V.pc { V with steps := wr64 (V.steps + 1), pc := V.pc + 1 + 0 } M).1 (execV C I 14 V.pc { V with steps := wr64 (V.steps + 1), pc := V.pc + 1 + 0 } M).2 cv iv ov) := by
  obtain ⟨V2, hV2⟩ : ∃ V2 : Vs, V2 = { V with steps := wr64 (V.steps + 1), pc := V.pc + 1 + 0 } := ⟨_, rfl⟩
  rw [← hV2]
  obtain ⟨X, hX⟩ : ∃ X, X = execV C I 14 V.pc V2 M := ⟨_, rfl⟩
  rw [← hX]
  have hf2 : V2.fs = f :: r := by rw [hV2]; exact hf
  have c1 := H.r_steps
  have c2 := H.r_pc
  have c3 := H.r_cv
  have c4 := H.r_en
  have hlt := H.lt
  have hz := H.blk.frozen
  have hcl := H.cl
  obtain ⟨b, c, e, hb', hc⟩ := H.code.all (by omega)
  have hbm : b ≠ A.m := (H.cd b ⟨_, _, e⟩).1
  have He : Hid _ := e
  rw [e] at c3
  have p0 := hc V.pc (by omega)
  rw [hop] at p0
  have q1 : ∀ w, Calls Tryz.prog 42 #[.int .i64 14] w fun e w' => e = .returned (.int .i64 0) ∧ w' = w := fun w => opArgsF 14 (by omega) w
  have hL := hR.len
  have H1 := H.s_steps (wr64 (V.steps + 1))
  have q2 := iopsF H1 (f := f) (r := r) hf
  have q3 : ∀ w, Calls Tryz.prog 106 #[.int .i64 14] w fun e w' => e = .returned (.int .i64 1) ∧ w' = w := fun w => wantIF 14 (by omega) w
  have q4 := fun m => ropsF (H1.drewN m) (f := f) (r := r) hf (by omega) (by omega)
  rw [← hL] at q4
  have q5 : ∀ w, Calls Tryz.prog 107 #[.int .i64 14] w fun e w' => e = .returned (.int .i64 0) ∧ w' = w := fun w => wantRF 14 (by omega) w
  have ho48 : f.ops.length ≤ 48 := by have := (H.lays hf).2.2.2.1; have := H.s48; omega
  obtain ⟨nr, hnr⟩ : ∃ nr, nr = (M.rt.length : Int) - f.rb - f.lr := ⟨_, rfl⟩
  have hr48 : -48 ≤ nr ∧ nr ≤ 24 := by omega
  rw [← hnr] at q4 hr
  have HK : Hid (∀ m, RX _ A C I V2 S st G nf cv iv ov) := fun m => by rw [hV2]; exact (H1.drewN m).s_pc (V.pc + 1 + 0)
  have FF : Hid (∀ m, _) := fun m => (((Fr.refl (VS A) w).setC A.m 63 (.int .i64 (wr64 (V.steps + 1))) (fun _ => .inl rfl)).drewN m).setC A.m 55 (.int .i64 (V.pc + 1 + 0 : Nat)) (fun _ => .inl rfl)
  have HE : Hid (_ ∧ _) := ⟨hX, And.intro hR (And.intro hf2 (And.intro hi hr))⟩
  have HV : Hid _ := hV2
  generalize hpcE : V.pc = pc at *
  obtain ⟨no, hno⟩ : ∃ no, no = f.ops.length := ⟨_, rfl⟩
  rw [← hno] at q2 hi ho48
  generalize V.steps = sx at *
  clear H H1 e hR hL hnr hf hq hd hX hf2 hno hV2 hpcE
  have hp' : (pc : Int) + 1 + 0 ≤ C.length := by omega
  have z : decide ((pc : Int) ≥ C.length) = false := decide_eq_false (by omega)
  have y2 : decide ((0 : Int) > (C.length : Int) - pc - 1) = false := decide_eq_false (by omega)
  have y3 : decide ((C.length : Int) - pc - 1 < (0 : Int)) = false := decide_eq_false (by omega)
  have y4 : decide ((no : Int) < 1) = false := decide_eq_false (by omega)
  have y5 : decide (nr < 0) = false := decide_eq_false (by omega)
  go_enter Tryz.func72, Tryz.ntmps72
  go_wp2_with fail
  refine (q1 _).mono ?_
  rintro v wa ⟨rfl, rfl⟩
  go_wp2_with fail
  refine q2.mono ?_
  rintro v wa ⟨rfl, m, rfl⟩
  go_wp2_with fail
  refine (q3 _).mono ?_
  rintro v wa ⟨rfl, rfl⟩
  go_wp2_with fail
  refine (q4 m).mono ?_
  rintro v wa ⟨rfl, m2, rfl⟩
  go_wp2_with fail
  refine (q5 _).mono ?_
  rintro v wa ⟨rfl, rfl⟩
  clear q1 q2 q3 q4 q5
  go_upto_region 48 with fail
  generalize hw2 : World.setCell _ ⟨A.m, 55, none⟩ _ = w2
  have H2 : RX w2 A C I V2 S st G nf cv iv ov := by rw [← hw2]; exact HK.out (m + m2)
  have F2 : Fr (VS A) w w2 := by rw [← hw2]; exact FF.out (m + m2)
  clear hw2 c1 c2 c3 c4 hlt hz p0 HK FF z y2 y3 y4 y5 hr48 hbm hb' hc
  have eX : X = (putO V2 1 (flagI (decide (opn V2 0 = 0))), M) := by rw [HE.out.1]; exact rfl
  have HX2 : Hid _ := And.intro F2 (And.intro HE.out.2.1 eX)
  have hlt := H2.lt
  clear F2 eX
  obtain ⟨k, k1, k2, -, s0⟩ := H2.one HE.out.2.2.1 HE.out.2.2.2.1
  have d1 := H2.r_sp
  rw [k1] at d1
  have d2 := H2.r_st (k := k) (by omega)
  rw [s0] at d2
  have hz := H2.blk.frozen
  have hki : (k : Int) < 48 := by omega
  have e1 : ((k + 1 : Nat) : Int) - 1 = (k : Int) := by omega
  obtain ⟨tb, htb⟩ : ∃ tb : Bool, decide (opn V2 0 = 0) = tb := ⟨_, rfl⟩
  have t1 : (opn V2 0 == 0) = tb := by rw [← htb]; by_cases h : opn V2 0 = 0 <;> simp [h]
  rw [htb] at HX2
  clear htb
  generalize opn V2 0 = x at *
  have hQ := flagF tb
  generalize flagI tb = fl at *
  have key : Hid _ := H2.put1 HE.out.2.2.1 HE.out.2.2.2.1 k1 fl
  clear H2 HE He k1 s0
  refine wp_region_twoK [0, 1, 2, 3, 6, 7, 8, 9, 12, 13, 18, 19, 10, 11, 14, 15, 16] [4, 5, 17, 20, 21] [17, 4, 5, 20, 21] (by kernel_rfl) (by kernel_rfl) ?_
  simp only [pick, List.filterMap_cons, List.filterMap_nil, List.getElem?_cons_zero, List.getElem?_cons_succ]
  go_wp2_with fail
  refine ⟨?_, ?_⟩
  · go_wp2_with fail
    refine (hQ _).mono ?_
    rintro v w3 ⟨rfl, rfl⟩
    clear hQ t1
    go_wp2_with fail
    refine ⟨by kernel_rfl, ?_⟩
    go_wp2_with fail
    go_end0
    rw [HX2.out.2.2]
    exact RS.of ⟨rfl, (key.out.same ((Fr.refl _ _).drew)).y, ((Fr.refl (VS A) w2).setC A.m (1 + k) _ (fun _ => .inl rfl)).drew⟩ HX2.out.2.1 HX2.out.1
  · go_wp2_with fail
    refine (hQ _).mono ?_
    rintro v w3 ⟨rfl, rfl⟩
    clear hQ t1
    go_wp2_with fail
    refine ⟨by kernel_rfl, ?_⟩
    go_wp2_with fail
    go_end0
    rw [HX2.out.2.2]
    exact RS.of ⟨rfl, (key.out.same ((Fr.refl _ _).drew)).y, ((Fr.refl (VS A) w2).setC A.m (1 + k) _ (fun _ => .inl rfl)).drew⟩ HX2.out.2.1 HX2.out.1
set_option maxRecDepth 100000 in
set_option maxHeartbeats 1000000 in
theorem step21 (H : RX w A C I V S st G nf cv iv ov) (hR : Rel S M) (hf : V.fs = f :: r) (hd : M.rt.length ≤ 24) (hq : f.rb + f.lr ≤ 24) (hop : byteAt C V.pc = 21) (hp : V.pc + 1 + 2 ≤ C.length) (hi : 0 ≤ f.ops.length) (hr : (0 : Int) ≤ (M.rt.length : Int) - f.rb - f.lr) (hfu : V.fuel ≤ 9223372036854775807) : Calls Tryz.prog 72 #[.pointer (some ⟨A.m, 0, none⟩)] w (RS w A C I (execV C I 21 V.pc { V with steps := wr64 (V.steps + 1), pc := V.pc + 1 + 2 } M).1 (execV C I 21 V.pc { V with steps := wr64 (V.steps + 1), pc := V.pc + 1 + 2 } M).2 cv iv ov) := by
  obtain ⟨V2, hV2⟩ : ∃ V2 : Vs, V2 = { V with steps := wr64 (V.steps + 1), pc := V.pc + 1 + 2 } := ⟨_, rfl⟩
  rw [← hV2]
  obtain ⟨X, hX⟩ : ∃ X, X = execV C I 21 V.pc V2 M := ⟨_, rfl⟩
  rw [← hX]
  have hf2 : V2.fs = f :: r := by rw [hV2]; exact hf
  have c1 := H.r_steps
  have c2 := H.r_pc
  have c3 := H.r_cv
  have c4 := H.r_en
  have hlt := H.lt
  have hz := H.blk.frozen
  have hcl := H.cl
  obtain ⟨b, c, e, hb', hc⟩ := H.code.all (by omega)
  have hbm : b ≠ A.m := (H.cd b ⟨_, _, e⟩).1
  have He : Hid _ := e
  rw [e] at c3
  have p0 := hc V.pc (by omega)
  rw [hop] at p0
  have q1 : ∀ w, Calls Tryz.prog 42 #[.int .i64 21] w fun e w' => e = .returned (.int .i64 2) ∧ w' = w := fun w => opArgsF 21 (by omega) w
  have hL := hR.len
  have H1 := H.s_steps (wr64 (V.steps + 1))
  have q2 := iopsF H1 (f := f) (r := r) hf
  have q3 : ∀ w, Calls Tryz.prog 106 #[.int .i64 21] w fun e w' => e = .returned (.int .i64 0) ∧ w' = w := fun w => wantIF 21 (by omega) w
  have q4 := fun m => ropsF (H1.drewN m) (f := f) (r := r) hf (by omega) (by omega)
  rw [← hL] at q4
  have q5 : ∀ w, Calls Tryz.prog 107 #[.int .i64 21] w fun e w' => e = .returned (.int .i64 0) ∧ w' = w := fun w => wantRF 21 (by omega) w
  have ho48 : f.ops.length ≤ 48 := by have := (H.lays hf).2.2.2.1; have := H.s48; omega
  obtain ⟨nr, hnr⟩ : ∃ nr, nr = (M.rt.length : Int) - f.rb - f.lr := ⟨_, rfl⟩
  have hr48 : -48 ≤ nr ∧ nr ≤ 24 := by omega
  rw [← hnr] at q4 hr
  have HK : Hid (∀ m, RX _ A C I V2 S st G nf cv iv ov) := fun m => by rw [hV2]; exact (H1.drewN m).s_pc (V.pc + 1 + 2)
  have FF : Hid (∀ m, _) := fun m => (((Fr.refl (VS A) w).setC A.m 63 (.int .i64 (wr64 (V.steps + 1))) (fun _ => .inl rfl)).drewN m).setC A.m 55 (.int .i64 (V.pc + 1 + 2 : Nat)) (fun _ => .inl rfl)
  have HE : Hid (_ ∧ _) := ⟨hX, And.intro hR (And.intro hf2 (And.intro hi hr))⟩
  have HV : Hid _ := hV2
  generalize hpcE : V.pc = pc at *
  obtain ⟨no, hno⟩ : ∃ no, no = f.ops.length := ⟨_, rfl⟩
  rw [← hno] at q2 hi ho48
  generalize V.steps = sx at *
  clear H H1 e hR hL hnr hf hq hd hX hf2 hno hV2 hpcE
  have hp' : (pc : Int) + 1 + 2 ≤ C.length := by omega
  have z : decide ((pc : Int) ≥ C.length) = false := decide_eq_false (by omega)
  have y2 : decide ((2 : Int) > (C.length : Int) - pc - 1) = false := decide_eq_false (by omega)
  have y3 : decide ((C.length : Int) - pc - 1 < (2 : Int)) = false := decide_eq_false (by omega)
  have y4 : decide ((no : Int) < 0) = false := decide_eq_false (by omega)
  have y5 : decide (nr < 0) = false := decide_eq_false (by omega)
  go_enter Tryz.func72, Tryz.ntmps72
  go_wp2_with fail
  refine (q1 _).mono ?_
  rintro v wa ⟨rfl, rfl⟩
  go_wp2_with fail
  refine q2.mono ?_
  rintro v wa ⟨rfl, m, rfl⟩
  go_wp2_with fail
  refine (q3 _).mono ?_
  rintro v wa ⟨rfl, rfl⟩
  go_wp2_with fail
  refine (q4 m).mono ?_
  rintro v wa ⟨rfl, m2, rfl⟩
  go_wp2_with fail
  refine (q5 _).mono ?_
  rintro v wa ⟨rfl, rfl⟩
  clear q1 q2 q3 q4 q5
  go_upto_region 50 with fail
  generalize hw2 : World.setCell _ ⟨A.m, 55, none⟩ _ = w2
  have H2 : RX w2 A C I V2 S st G nf cv iv ov := by rw [← hw2]; exact HK.out (m + m2)
  have F2 : Fr (VS A) w w2 := by rw [← hw2]; exact FF.out (m + m2)
  clear hw2 c1 c2 c3 c4 hlt hz p0 HK FF z y2 y3 y4 y5 hr48 hbm hb' hc
  have eX : X = (jumpV C V2 pc (u16V C (pc + 1)), M) := by rw [HE.out.1]; exact rfl
  have HX2 : Hid _ := And.intro F2 (And.intro HE.out.2.1 eX)
  have hlt := H2.lt
  clear F2 eX
  have c3 := H2.r_cv
  rw [He.out] at c3
  have q := u16F H2.code H2.cb hcl (pc + 1) (by omega)
  rw [He.out, show ((pc + 1 : Nat) : Int) = (pc : Int) + 1 from rfl] at q
  generalize u16V C (pc + 1) = to at *
  have hq1 := fun n => vjumpF (H2.drewN n) (by rw [HV.out]; exact hfu) pc to
  clear H2 HE He
  go_wp2_with fail
  refine q.mono ?_
  rintro v w3 ⟨rfl, n, rfl⟩
  go_wp2_with fail
  refine (hq1 n).mono ?_
  rintro v w4 ⟨rfl, h3, h4⟩
  go_wp2_with fail
  go_end0
  rw [HX2.out.2.2]
  exact RS.of ⟨rfl, h3, ((Fr.refl (VS A) w2).drewN n).trans h4 (fun _ _ h => h)⟩ HX2.out.2.1 HX2.out.1
set_option maxRecDepth 100000 in
set_option maxHeartbeats 1000000 in
theorem step22 (H : RX w A C I V S st G nf cv iv ov) (hR : Rel S M) (hf : V.fs = f :: r) (hd : M.rt.length ≤ 24) (hq : f.rb + f.lr ≤ 24) (hop : byteAt C V.pc = 22) (hp : V.pc + 1 + 2 ≤ C.length) (hi : 1 ≤ f.ops.length) (hr : (0 : Int) ≤ (M.rt.length : Int) - f.rb - f.lr) (hx : opn V 0 = 0) (hfu : V.fuel ≤ 9223372036854775807) : Calls Tryz.prog 72 #[.pointer (some ⟨A.m, 0, none⟩)] w (RS w A C I (execV C I 22 V.pc { V with steps := wr64 (V.steps + 1), pc := V.pc + 1 + 2 } M).1 (execV C I 22 V.pc { V with steps := wr64 (V.steps + 1), pc := V.pc + 1 + 2 } M).2 cv iv ov) := by
  obtain ⟨V2, hV2⟩ : ∃ V2 : Vs, V2 = { V with steps := wr64 (V.steps + 1), pc := V.pc + 1 + 2 } := ⟨_, rfl⟩
  rw [← hV2]
  obtain ⟨X, hX⟩ : ∃ X, X = execV C I 22 V.pc V2 M := ⟨_, rfl⟩
  rw [← hX]
  have hf2 : V2.fs = f :: r := by rw [hV2]; exact hf
  have c1 := H.r_steps
  have c2 := H.r_pc
  have c3 := H.r_cv
  have c4 := H.r_en
  have hlt := H.lt
  have hz := H.blk.frozen
  have hcl := H.cl
  obtain ⟨b, c, e, hb', hc⟩ := H.code.all (by omega)
  have hbm : b ≠ A.m := (H.cd b ⟨_, _, e⟩).1
  have He : Hid _ := e
  rw [e] at c3
  have p0 := hc V.pc (by omega)
  rw [hop] at p0
  have q1 : ∀ w, Calls Tryz.prog 42 #[.int .i64 22] w fun e w' => e = .returned (.int .i64 2) ∧ w' = w := fun w => opArgsF 22 (by omega) w
  have hL := hR.len
  have H1 := H.s_steps (wr64 (V.steps + 1))
  have q2 := iopsF H1 (f := f) (r := r) hf
  have q3 : ∀ w, Calls Tryz.prog 106 #[.int .i64 22] w fun e w' => e = .returned (.int .i64 1) ∧ w' = w := fun w => wantIF 22 (by omega) w
  have q4 := fun m => ropsF (H1.drewN m) (f := f) (r := r) hf (by omega) (by omega)
  rw [← hL] at q4
  have q5 : ∀ w, Calls Tryz.prog 107 #[.int .i64 22] w fun e w' => e = .returned (.int .i64 0) ∧ w' = w := fun w => wantRF 22 (by omega) w
  have ho48 : f.ops.length ≤ 48 := by have := (H.lays hf).2.2.2.1; have := H.s48; omega
  obtain ⟨nr, hnr⟩ : ∃ nr, nr = (M.rt.length : Int) - f.rb - f.lr := ⟨_, rfl⟩
  have hr48 : -48 ≤ nr ∧ nr ≤ 24 := by omega
  rw [← hnr] at q4 hr
  have HK : Hid (∀ m, RX _ A C I V2 S st G nf cv iv ov) := fun m => by rw [hV2]; exact (H1.drewN m).s_pc (V.pc + 1 + 2)
  have FF : Hid (∀ m, _) := fun m => (((Fr.refl (VS A) w).setC A.m 63 (.int .i64 (wr64 (V.steps + 1))) (fun _ => .inl rfl)).drewN m).setC A.m 55 (.int .i64 (V.pc + 1 + 2 : Nat)) (fun _ => .inl rfl)
  have HE : Hid (_ ∧ _) := ⟨hX, And.intro hR (And.intro hf2 (And.intro hi hr))⟩
  have HV : Hid _ := hV2
  generalize hpcE : V.pc = pc at *
  obtain ⟨no, hno⟩ : ∃ no, no = f.ops.length := ⟨_, rfl⟩
  rw [← hno] at q2 hi ho48
  generalize V.steps = sx at *
  clear H H1 e hR hL hnr hf hq hd hX hf2 hno hV2 hpcE
  have hp' : (pc : Int) + 1 + 2 ≤ C.length := by omega
  have z : decide ((pc : Int) ≥ C.length) = false := decide_eq_false (by omega)
  have y2 : decide ((2 : Int) > (C.length : Int) - pc - 1) = false := decide_eq_false (by omega)
  have y3 : decide ((C.length : Int) - pc - 1 < (2 : Int)) = false := decide_eq_false (by omega)
  have y4 : decide ((no : Int) < 1) = false := decide_eq_false (by omega)
  have y5 : decide (nr < 0) = false := decide_eq_false (by omega)
  go_enter Tryz.func72, Tryz.ntmps72
  go_wp2_with fail
  refine (q1 _).mono ?_
  rintro v wa ⟨rfl, rfl⟩
  go_wp2_with fail
  refine q2.mono ?_
  rintro v wa ⟨rfl, m, rfl⟩
  go_wp2_with fail
  refine (q3 _).mono ?_
  rintro v wa ⟨rfl, rfl⟩
  go_wp2_with fail
  refine (q4 m).mono ?_
  rintro v wa ⟨rfl, m2, rfl⟩
  go_wp2_with fail
  refine (q5 _).mono ?_
  rintro v wa ⟨rfl, rfl⟩
  clear q1 q2 q3 q4 q5
  go_upto_region 53 with fail
  generalize hw2 : World.setCell _ ⟨A.m, 55, none⟩ _ = w2
  have H2 : RX w2 A C I V2 S st G nf cv iv ov := by rw [← hw2]; exact HK.out (m + m2)
  have F2 : Fr (VS A) w w2 := by rw [← hw2]; exact FF.out (m + m2)
  clear hw2 c1 c2 c3 c4 hlt hz p0 HK FF z y2 y3 y4 y5 hr48 hbm hb' hc
  have eX : X = (jumpV C (dropO V2 1) pc (u16V C (pc + 1)), M) := by rw [HE.out.1]; show (if opn V2 0 = 0 then _ else _, M) = _; rw [if_pos (by rw [HV.out]; exact hx)]
  have HX2 : Hid _ := And.intro F2 (And.intro HE.out.2.1 eX)
  have hlt := H2.lt
  clear F2 eX
  obtain ⟨k, k1, k2, -, s0⟩ := H2.one HE.out.2.2.1 HE.out.2.2.2.1
  have d1 := H2.r_sp
  rw [k1] at d1
  have d2 := H2.r_st (k := k) (by omega)
  rw [s0] at d2
  have hz := H2.blk.frozen
  have hki : (k : Int) < 48 := by omega
  have e1 : ((k + 1 : Nat) : Int) - 1 = (k : Int) := by omega
  have hx0 : opn V2 0 = 0 := by rw [HV.out]; exact hx
  generalize opn V2 0 = x at *
  have y1 : (x == 0) = true := by simpa using hx0
  have y2 : (x != 0) = false := by simpa using hx0
  have D := H2.drop HE.out.2.2.1 1 HE.out.2.2.2.1 k1
  have HD : Hid _ := And.intro D He.out
  have hfu2 : V2.fuel ≤ 9223372036854775807 := by rw [HV.out]; exact hfu
  have hfd : (dropO V2 1).fuel = V2.fuel := drop_fu V2 1
  have Hfu : Hid _ := And.intro hfu2 hfd
  have Hs0 : Hid _ := s0
  clear H2 HE He k1 s0 hx hfu hfu2 hfd D
  go_upto_region 54 with fail
  generalize hw3 : World.setCell _ ⟨A.m, 49, none⟩ _ = w3
  have D3 : RX w3 A C I (dropO V2 1) S st { G with sp := k } nf cv iv ov := by rw [← hw3]; exact HD.out.1
  have F3 : Fr (VS A) w2 w3 := by rw [← hw3]; exact (Fr.refl (VS A) w2).setC A.m 49 _ (fun _ => .inl rfl)
  have HF3 : Hid _ := F3
  clear d1 d2 hz hw3 F3 e1 hlt
  have d1 := D3.r_sp
  have d2 := D3.r_st (k := k) (by omega)
  rw [Hs0.out] at d2
  have c3 := D3.r_cv
  rw [HD.out.2] at c3
  have hlt := D3.lt
  simp only at d1
  have HDD : Hid _ := D3
  clear D3
  go_wp2_with fail
  go_quiet (fail)
  generalize hw4 : World.drewN _ _ = w4
  have D4 : RX w4 A C I (dropO V2 1) S st { G with sp := k } nf cv iv ov := by rw [← hw4]; exact HDD.out.drewN _
  have F4 : Hid (Fr (VS A) w2 w4) := by show Fr (VS A) w2 w4; rw [← hw4]; exact HF3.out.drewN _
  clear hw4 d1 d2 c3 hlt
  have c3 := D4.r_cv
  rw [HD.out.2] at c3
  have hlt := D4.lt
  have q := u16F D4.code D4.cb hcl (pc + 1) (by omega)
  rw [HD.out.2, show ((pc + 1 : Nat) : Int) = (pc : Int) + 1 from rfl] at q
  generalize u16V C (pc + 1) = to at *
  have hq1 := fun n => vjumpF (D4.drewN n) (by rw [Hfu.out.2]; exact Hfu.out.1) pc to
  clear D4
  go_wp2_with fail
  refine q.mono ?_
  rintro v w5 ⟨rfl, n, rfl⟩
  go_wp2_with fail
  refine (hq1 n).mono ?_
  rintro v w6 ⟨rfl, h3, h4⟩
  go_wp2_with fail
  go_end0
  rw [HX2.out.2.2]
  exact RS.of ⟨rfl, h3, (F4.out.drewN n).trans h4 (fun _ _ h => h)⟩ HX2.out.2.1 HX2.out.1
set_option maxRecDepth 100000 in
set_option maxHeartbeats 1000000 in
theorem step22n (H : RX w A C I V S st G nf cv iv ov) (hR : Rel S M) (hf : V.fs = f :: r) (hd : M.rt.length ≤ 24) (hq : f.rb + f.lr ≤ 24) (hop : byteAt C V.pc = 22) (hp : V.pc + 1 + 2 ≤ C.length) (hi : 1 ≤ f.ops.length) (hr : (0 : Int) ≤ (M.rt.length : Int) - f.rb - f.lr) (hx : opn V 0 ≠ 0) (hfu : V.fuel ≤ 9223372036854775807) : Calls Tryz.prog 72 #[.pointer (some ⟨A.m, 0, none⟩)] w (RS w A C I (execV C I 22 V.pc { V with steps := wr64 (V.steps + 1), pc := V.pc + 1 + 2 } M).1 (execV C I 22 V.pc { V with steps := wr64 (V.steps + 1), pc := V.pc + 1 + 2 } M).2 cv iv ov) := by
  obtain ⟨V2, hV2⟩ : ∃ V2 : Vs, V2 = { V with steps := wr64 (V.steps + 1), pc := V.pc + 1 + 2 } := ⟨_, rfl⟩
  rw [← hV2]
  obtain ⟨X, hX⟩ : ∃ X, X = execV C I 22 V.pc V2 M := ⟨_, rfl⟩
  rw [← hX]
  have hf2 : V2.fs = f :: r := by rw [hV2]; exact hf
  have c1 := H.r_steps
  have c2 := H.r_pc
  have c3 := H.r_cv
  have c4 := H.r_en
  have hlt := H.lt
  have hz := H.blk.frozen
  have hcl := H.cl
  obtain ⟨b, c, e, hb', hc⟩ := H.code.all (by omega)
  have hbm : b ≠ A.m := (H.cd b ⟨_, _, e⟩).1
  have He : Hid _ := e
  rw [e] at c3
  have p0 := hc V.pc (by omega)
  rw [hop] at p0
  have q1 : ∀ w, Calls Tryz.prog 42 #[.int .i64 22] w fun e w' => e = .returned (.int .i64 2) ∧ w' = w := fun w => opArgsF 22 (by omega) w
  have hL := hR.len
  have H1 := H.s_steps (wr64 (V.steps + 1))
  have q2 := iopsF H1 (f := f) (r := r) hf
  have q3 : ∀ w, Calls Tryz.prog 106 #[.int .i64 22] w fun e w' => e = .returned (.int .i64 1) ∧ w' = w := fun w => wantIF 22 (by omega) w
  have q4 := fun m => ropsF (H1.drewN m) (f := f) (r := r) hf (by omega) (by omega)
  rw [← hL] at q4
  have q5 : ∀ w, Calls Tryz.prog 107 #[.int .i64 22] w fun e w' => e = .returned (.int .i64 0) ∧ w' = w := fun w => wantRF 22 (by omega) w
  have ho48 : f.ops.length ≤ 48 := by have := (H.lays hf).2.2.2.1; have := H.s48; omega
  obtain ⟨nr, hnr⟩ : ∃ nr, nr = (M.rt.length : Int) - f.rb - f.lr := ⟨_, rfl⟩
  have hr48 : -48 ≤ nr ∧ nr ≤ 24 := by omega
  rw [← hnr] at q4 hr
  have HK : Hid (∀ m, RX _ A C I V2 S st G nf cv iv ov) := fun m => by rw [hV2]; exact (H1.drewN m).s_pc (V.pc + 1 + 2)
  have FF : Hid (∀ m, _) := fun m => (((Fr.refl (VS A) w).setC A.m 63 (.int .i64 (wr64 (V.steps + 1))) (fun _ => .inl rfl)).drewN m).setC A.m 55 (.int .i64 (V.pc + 1 + 2 : Nat)) (fun _ => .inl rfl)
  have HE : Hid (_ ∧ _) := ⟨hX, And.intro hR (And.intro hf2 (And.intro hi hr))⟩
  have HV : Hid _ := hV2
  generalize hpcE : V.pc = pc at *
  obtain ⟨no, hno⟩ : ∃ no, no = f.ops.length := ⟨_, rfl⟩
  rw [← hno] at q2 hi ho48
  generalize V.steps = sx at *
  clear H H1 e hR hL hnr hf hq hd hX hf2 hno hV2 hpcE
  have hp' : (pc : Int) + 1 + 2 ≤ C.length := by omega
  have z : decide ((pc : Int) ≥ C.length) = false := decide_eq_false (by omega)
  have y2 : decide ((2 : Int) > (C.length : Int) - pc - 1) = false := decide_eq_false (by omega)
  have y3 : decide ((C.length : Int) - pc - 1 < (2 : Int)) = false := decide_eq_false (by omega)
  have y4 : decide ((no : Int) < 1) = false := decide_eq_false (by omega)
  have y5 : decide (nr < 0) = false := decide_eq_false (by omega)
  go_enter Tryz.func72, Tryz.ntmps72
  go_wp2_with fail
  refine (q1 _).mono ?_
  rintro v wa ⟨rfl, rfl⟩
  go_wp2_with fail
  refine q2.mono ?_
  rintro v wa ⟨rfl, m, rfl⟩
  go_wp2_with fail
  refine (q3 _).mono ?_
  rintro v wa ⟨rfl, rfl⟩
  go_wp2_with fail
  refine (q4 m).mono ?_
  rintro v wa ⟨rfl, m2, rfl⟩
  go_wp2_with fail
  refine (q5 _).mono ?_
  rintro v wa ⟨rfl, rfl⟩
  clear q1 q2 q3 q4 q5
  go_upto_region 53 with fail
  generalize hw2 : World.setCell _ ⟨A.m, 55, none⟩ _ = w2
  have H2 : RX w2 A C I V2 S st G nf cv iv ov := by rw [← hw2]; exact HK.out (m + m2)
  have F2 : Fr (VS A) w w2 := by rw [← hw2]; exact FF.out (m + m2)
  clear hw2 c1 c2 c3 c4 hlt hz p0 HK FF z y2 y3 y4 y5 hr48 hbm hb' hc
  have eX : X = (dropO V2 1, M) := by rw [HE.out.1]; show (if opn V2 0 = 0 then _ else _, M) = _; rw [if_neg (by rw [HV.out]; exact hx)]
  have HX2 : Hid _ := And.intro F2 (And.intro HE.out.2.1 eX)
  have hlt := H2.lt
  clear F2 eX
  obtain ⟨k, k1, k2, -, s0⟩ := H2.one HE.out.2.2.1 HE.out.2.2.2.1
  have d1 := H2.r_sp
  rw [k1] at d1
  have d2 := H2.r_st (k := k) (by omega)
  rw [s0] at d2
  have hz := H2.blk.frozen
  have hki : (k : Int) < 48 := by omega
  have e1 : ((k + 1 : Nat) : Int) - 1 = (k : Int) := by omega
  have hx0 : opn V2 0 ≠ 0 := by rw [HV.out]; exact hx
  generalize opn V2 0 = x at *
  have y1 : (x == 0) = false := by simpa using hx0
  have y2 : (x != 0) = true := by simpa using hx0
  have D := H2.drop HE.out.2.2.1 1 HE.out.2.2.2.1 k1
  have HD : Hid _ := And.intro D He.out
  have hfu2 : V2.fuel ≤ 9223372036854775807 := by rw [HV.out]; exact hfu
  have hfd : (dropO V2 1).fuel = V2.fuel := drop_fu V2 1
  have Hfu : Hid _ := And.intro hfu2 hfd
  have Hs0 : Hid _ := s0
  clear H2 HE He k1 s0 hx hfu hfu2 hfd D
  go_upto_region 54 with fail
  generalize hw3 : World.setCell _ ⟨A.m, 49, none⟩ _ = w3
  have D3 : RX w3 A C I (dropO V2 1) S st { G with sp := k } nf cv iv ov := by rw [← hw3]; exact HD.out.1
  have F3 : Fr (VS A) w2 w3 := by rw [← hw3]; exact (Fr.refl (VS A) w2).setC A.m 49 _ (fun _ => .inl rfl)
  have HF3 : Hid _ := F3
  clear d1 d2 hz hw3 F3 e1 hlt
  have d1 := D3.r_sp
  have d2 := D3.r_st (k := k) (by omega)
  rw [Hs0.out] at d2
  have c3 := D3.r_cv
  rw [HD.out.2] at c3
  have hlt := D3.lt
  simp only at d1
  have HDD : Hid _ := D3
  clear D3
  go_wp2_with fail
  go_quiet (fail)
  generalize hw4 : World.drewN _ _ = w4
  have D4 : RX w4 A C I (dropO V2 1) S st { G with sp := k } nf cv iv ov := by rw [← hw4]; exact HDD.out.drewN _
  have F4 : Hid (Fr (VS A) w2 w4) := by show Fr (VS A) w2 w4; rw [← hw4]; exact HF3.out.drewN _
  clear hw4 d1 d2 c3 hlt
  have c3 := D4.r_cv
  rw [HD.out.2] at c3
  have hlt := D4.lt
  have HD4 : Hid _ := D4.y
  clear D4
  go_wp2_with fail
  go_end0
  rw [HX2.out.2.2]
  exact RS.of ⟨rfl, HD4.out, F4.out⟩ HX2.out.2.1 HX2.out.1
set_option maxRecDepth 100000 in
set_option maxHeartbeats 1000000 in
theorem step23 (H : RX w A C I V S st G nf cv iv ov) (hR : Rel S M) (hf : V.fs = f :: r) (hd : M.rt.length ≤ 24) (hq : f.rb + f.lr ≤ 24) (hop : byteAt C V.pc = 23) (hp : V.pc + 1 + 2 ≤ C.length) (hi : 1 ≤ f.ops.length) (hr : (0 : Int) ≤ (M.rt.length : Int) - f.rb - f.lr) (hx : opn V 0 ≠ 0) (hfu : V.fuel ≤ 9223372036854775807) : Calls Tryz.prog 72 #[.pointer (some ⟨A.m, 0, none⟩)] w (RS w A C I (execV C I 23 V.pc { V with steps := wr64 (V.steps + 1), pc := V.pc + 1 + 2 } M).1 (execV C I 23 V.pc { V with steps := wr64 (V.steps + 1), pc := V.pc + 1 + 2 } M).2 cv iv ov) := by
  obtain ⟨V2, hV2⟩ : ∃ V2 : Vs, V2 = { V with steps := wr64 (V.steps + 1), pc := V.pc + 1 + 2 } := ⟨_, rfl⟩
  rw [← hV2]
  obtain ⟨X, hX⟩ : ∃ X, X = execV C I 23 V.pc V2 M := ⟨_, rfl⟩
  rw [← hX]
  have hf2 : V2.fs = f :: r := by rw [hV2]; exact hf
  have c1 := H.r_steps
  have c2 := H.r_pc
  have c3 := H.r_cv
  have c4 := H.r_en
  have hlt := H.lt
  have hz := H.blk.frozen
  have hcl := H.cl
  obtain ⟨b, c, e, hb', hc⟩ := H.code.all (by omega)
  have hbm : b ≠ A.m := (H.cd b ⟨_, _, e⟩).1
  have He : Hid _ := e
  rw [e] at c3
  have p0 := hc V.pc (by omega)
  rw [hop] at p0
  have q1 : ∀ w, Calls Tryz.prog 42 #[.int .i64 23] w fun e w' => e = .returned (.int .i64 2) ∧ w' = w := fun w => opArgsF 23 (by omega) w
  have hL := hR.len
  have H1 := H.s_steps (wr64 (V.steps + 1))
  have q2 := iopsF H1 (f := f) (r := r) hf
  have q3 : ∀ w, Calls Tryz.prog 106 #[.int .i64 23] w fun e w' => e = .returned (.int .i64 1) ∧ w' = w := fun w => wantIF 23 (by omega) w
  have q4 := fun m => ropsF (H1.drewN m) (f := f) (r := r) hf (by omega) (by omega)
  rw [← hL] at q4
  have q5 : ∀ w, Calls Tryz.prog 107 #[.int .i64 23] w fun e w' => e = .returned (.int .i64 0) ∧ w' = w := fun w => wantRF 23 (by omega) w
  have ho48 : f.ops.length ≤ 48 := by have := (H.lays hf).2.2.2.1; have := H.s48; omega
  obtain ⟨nr, hnr⟩ : ∃ nr, nr = (M.rt.length : Int) - f.rb - f.lr := ⟨_, rfl⟩
  have hr48 : -48 ≤ nr ∧ nr ≤ 24 := by omega
  rw [← hnr] at q4 hr
  have HK : Hid (∀ m, RX _ A C I V2 S st G nf cv iv ov) := fun m => by rw [hV2]; exact (H1.drewN m).s_pc (V.pc + 1 + 2)
  have FF : Hid (∀ m, _) := fun m => (((Fr.refl (VS A) w).setC A.m 63 (.int .i64 (wr64 (V.steps + 1))) (fun _ => .inl rfl)).drewN m).setC A.m 55 (.int .i64 (V.pc + 1 + 2 : Nat)) (fun _ => .inl rfl)
  have HE : Hid (_ ∧ _) := ⟨hX, And.intro hR (And.intro hf2 (And.intro hi hr))⟩
  have HV : Hid _ := hV2
  generalize hpcE : V.pc = pc at *
  obtain ⟨no, hno⟩ : ∃ no, no = f.ops.length := ⟨_, rfl⟩
  rw [← hno] at q2 hi ho48
  generalize V.steps = sx at *
  clear H H1 e hR hL hnr hf hq hd hX hf2 hno hV2 hpcE
  have hp' : (pc : Int) + 1 + 2 ≤ C.length := by omega
  have z : decide ((pc : Int) ≥ C.length) = false := decide_eq_false (by omega)
  have y2 : decide ((2 : Int) > (C.length : Int) - pc - 1) = false := decide_eq_false (by omega)
  have y3 : decide ((C.length : Int) - pc - 1 < (2 : Int)) = false := decide_eq_false (by omega)
  have y4 : decide ((no : Int) < 1) = false := decide_eq_false (by omega)
  have y5 : decide (nr < 0) = false := decide_eq_false (by omega)
  go_enter Tryz.func72, Tryz.ntmps72
  go_wp2_with fail
  refine (q1 _).mono ?_
  rintro v wa ⟨rfl, rfl⟩
  go_wp2_with fail
  refine q2.mono ?_
  rintro v wa ⟨rfl, m, rfl⟩
  go_wp2_with fail
  refine (q3 _).mono ?_
  rintro v wa ⟨rfl, rfl⟩
  go_wp2_with fail
  refine (q4 m).mono ?_
  rintro v wa ⟨rfl, m2, rfl⟩
  go_wp2_with fail
  refine (q5 _).mono ?_
  rintro v wa ⟨rfl, rfl⟩
  clear q1 q2 q3 q4 q5
  go_upto_region 58 with fail
  generalize hw2 : World.setCell _ ⟨A.m, 55, none⟩ _ = w2
  have H2 : RX w2 A C I V2 S st G nf cv iv ov := by rw [← hw2]; exact HK.out (m + m2)
  have F2 : Fr (VS A) w w2 := by rw [← hw2]; exact FF.out (m + m2)
  clear hw2 c1 c2 c3 c4 hlt hz p0 HK FF z y2 y3 y4 y5 hr48 hbm hb' hc
  have eX : X = (jumpV C (dropO V2 1) pc (u16V C (pc + 1)), M) := by rw [HE.out.1]; show (if opn V2 0 = 0 then _ else _, M) = _; rw [if_neg (by rw [HV.out]; exact hx)]
  have HX2 : Hid _ := And.intro F2 (And.intro HE.out.2.1 eX)
  have hlt := H2.lt
  clear F2 eX
  obtain ⟨k, k1, k2, -, s0⟩ := H2.one HE.out.2.2.1 HE.out.2.2.2.1
  have d1 := H2.r_sp
  rw [k1] at d1
  have d2 := H2.r_st (k := k) (by omega)
  rw [s0] at d2
  have hz := H2.blk.frozen
  have hki : (k : Int) < 48 := by omega
  have e1 : ((k + 1 : Nat) : Int) - 1 = (k : Int) := by omega
  have hx0 : opn V2 0 ≠ 0 := by rw [HV.out]; exact hx
  generalize opn V2 0 = x at *
  have y1 : (x == 0) = false := by simpa using hx0
  have y2 : (x != 0) = true := by simpa using hx0
  have D := H2.drop HE.out.2.2.1 1 HE.out.2.2.2.1 k1
  have HD : Hid _ := And.intro D He.out
  have hfu2 : V2.fuel ≤ 9223372036854775807 := by rw [HV.out]; exact hfu
  have hfd : (dropO V2 1).fuel = V2.fuel := drop_fu V2 1
  have Hfu : Hid _ := And.intro hfu2 hfd
  have Hs0 : Hid _ := s0
  clear H2 HE He k1 s0 hx hfu hfu2 hfd D
  go_upto_region 59 with fail
  generalize hw3 : World.setCell _ ⟨A.m, 49, none⟩ _ = w3
  have D3 : RX w3 A C I (dropO V2 1) S st { G with sp := k } nf cv iv ov := by rw [← hw3]; exact HD.out.1
  have F3 : Fr (VS A) w2 w3 := by rw [← hw3]; exact (Fr.refl (VS A) w2).setC A.m 49 _ (fun _ => .inl rfl)
  have HF3 : Hid _ := F3
  clear d1 d2 hz hw3 F3 e1 hlt
  have d1 := D3.r_sp
  have d2 := D3.r_st (k := k) (by omega)
  rw [Hs0.out] at d2
  have c3 := D3.r_cv
  rw [HD.out.2] at c3
  have hlt := D3.lt
  simp only at d1
  have HDD : Hid _ := D3
  clear D3
  go_wp2_with fail
  go_quiet (fail)
  generalize hw4 : World.drewN _ _ = w4
  have D4 : RX w4 A C I (dropO V2 1) S st { G with sp := k } nf cv iv ov := by rw [← hw4]; exact HDD.out.drewN _
  have F4 : Hid (Fr (VS A) w2 w4) := by show Fr (VS A) w2 w4; rw [← hw4]; exact HF3.out.drewN _
  clear hw4 d1 d2 c3 hlt
  have c3 := D4.r_cv
  rw [HD.out.2] at c3
  have hlt := D4.lt
  have q := u16F D4.code D4.cb hcl (pc + 1) (by omega)
  rw [HD.out.2, show ((pc + 1 : Nat) : Int) = (pc : Int) + 1 from rfl] at q
  generalize u16V C (pc + 1) = to at *
  have hq1 := fun n => vjumpF (D4.drewN n) (by rw [Hfu.out.2]; exact Hfu.out.1) pc to
  clear D4
  go_wp2_with fail
  refine q.mono ?_
  rintro v w5 ⟨rfl, n, rfl⟩
  go_wp2_with fail
  refine (hq1 n).mono ?_
  rintro v w6 ⟨rfl, h3, h4⟩
  go_wp2_with fail
  go_end0
  rw [HX2.out.2.2]
  exact RS.of ⟨rfl, h3, (F4.out.drewN n).trans h4 (fun _ _ h => h)⟩ HX2.out.2.1 HX2.out.1
set_option maxRecDepth 100000 in
set_option maxHeartbeats 1000000 in
theorem step23n (H : RX w A C I V S st G nf cv iv ov) (hR : Rel S M) (hf : V.fs = f :: r) (hd : M.rt.length ≤ 24) (hq : f.rb + f.lr ≤ 24) (hop : byteAt C V.pc = 23) (hp : V.pc + 1 + 2 ≤ C.length) (hi : 1 ≤ f.ops.length) (hr : (0 : Int) ≤ (M.rt.length : Int) - f.rb - f.lr) (hx : opn V 0 = 0) (hfu : V.fuel ≤ 9223372036854775807) : Calls Tryz.prog 72 #[.pointer (some ⟨A.m, 0, none⟩)] w (RS w A C I (execV C I 23 V.pc { V with steps := wr64 (V.steps + 1), pc := V.pc + 1 + 2 } M).1 (execV C I 23 V.pc { V with steps := wr64 (V.steps + 1), pc := V.pc + 1 + 2 } M).2 cv iv ov) := by
  obtain ⟨V2, hV2⟩ : ∃ V2 : Vs, V2 = { V with steps := wr64 (V.steps + 1), pc := V.pc + 1 + 2 } := ⟨_, rfl⟩
  rw [← hV2]
  obtain ⟨X, hX⟩ : ∃ X, X = execV C I 23 V.pc V2 M := ⟨_, rfl⟩
  rw [← hX]
  have hf2 : V2.fs = f :: r := by rw [hV2]; exact hf
  have c1 := H.r_steps
  have c2 := H.r_pc
  have c3 := H.r_cv
  have c4 := H.r_en
  have hlt := H.lt
  have hz := H.blk.frozen
  have hcl := H.cl
  obtain ⟨b, c, e, hb', hc⟩ := H.code.all (by omega)
  have hbm : b ≠ A.m := (H.cd b ⟨_, _, e⟩).1
  have He : Hid _ := e
  rw [e] at c3
  have p0 := hc V.pc (by omega)
  rw [hop] at p0
  have q1 : ∀ w, Calls Tryz.prog 42 #[.int .i64 23] w fun e w' => e = .returned (.int .i64 2) ∧ w' = w := fun w => opArgsF 23 (by omega) w
  have hL := hR.len
  have H1 := H.s_steps (wr64 (V.steps + 1))
  have q2 := iopsF H1 (f := f) (r := r) hf
  have q3 : ∀ w, Calls Tryz.prog 106 #[.int .i64 23] w fun e w' => e = .returned (.int .i64 1) ∧ w' = w := fun w => wantIF 23 (by omega) w
  have q4 := fun m => ropsF (H1.drewN m) (f := f) (r := r) hf (by omega) (by omega)
  rw [← hL] at q4
  have q5 : ∀ w, Calls Tryz.prog 107 #[.int .i64 23] w fun e w' => e = .returned (.int .i64 0) ∧ w' = w := fun w => wantRF 23 (by omega) w
  have ho48 : f.ops.length ≤ 48 := by have := (H.lays hf).2.2.2.1; have := H.s48; omega
  obtain ⟨nr, hnr⟩ : ∃ nr, nr = (M.rt.length : Int) - f.rb - f.lr := ⟨_, rfl⟩
  have hr48 : -48 ≤ nr ∧ nr ≤ 24 := by omega
  rw [← hnr] at q4 hr
  have HK : Hid (∀ m, RX _ A C I V2 S st G nf cv iv ov) := fun m => by rw [hV2]; exact (H1.drewN m).s_pc (V.pc + 1 + 2)
  have FF : Hid (∀ m, _) := fun m => (((Fr.refl (VS A) w).setC A.m 63 (.int .i64 (wr64 (V.steps + 1))) (fun _ => .inl rfl)).drewN m).setC A.m 55 (.int .i64 (V.pc + 1 + 2 : Nat)) (fun _ => .inl rfl)
  have HE : Hid (_ ∧ _) := ⟨hX, And.intro hR (And.intro hf2 (And.intro hi hr))⟩
  have HV : Hid _ := hV2
  generalize hpcE : V.pc = pc at *
  obtain ⟨no, hno⟩ : ∃ no, no = f.ops.length := ⟨_, rfl⟩
  rw [← hno] at q2 hi ho48
  generalize V.steps = sx at *
  clear H H1 e hR hL hnr hf hq hd hX hf2 hno hV2 hpcE
  have hp' : (pc : Int) + 1 + 2 ≤ C.length := by omega
  have z : decide ((pc : Int) ≥ C.length) = false := decide_eq_false (by omega)
  have y2 : decide ((2 : Int) > (C.length : Int) - pc - 1) = false := decide_eq_false (by omega)
  have y3 : decide ((C.length : Int) - pc - 1 < (2 : Int)) = false := decide_eq_false (by omega)
  have y4 : decide ((no : Int) < 1) = false := decide_eq_false (by omega)
  have y5 : decide (nr < 0) = false := decide_eq_false (by omega)
  go_enter Tryz.func72, Tryz.ntmps72
  go_wp2_with fail
  refine (q1 _).mono ?_
  rintro v wa ⟨rfl, rfl⟩
  go_wp2_with fail
  refine q2.mono ?_
  rintro v wa ⟨rfl, m, rfl⟩
  go_wp2_with fail
  refine (q3 _).mono ?_
  rintro v wa ⟨rfl, rfl⟩
  go_wp2_with fail
  refine (q4 m).mono ?_
  rintro v wa ⟨rfl, m2, rfl⟩
  go_wp2_with fail
  refine (q5 _).mono ?_
  rintro v wa ⟨rfl, rfl⟩
  clear q1 q2 q3 q4 q5
  go_upto_region 58 with fail
  generalize hw2 : World.setCell _ ⟨A.m, 55, none⟩ _ = w2
  have H2 : RX w2 A C I V2 S st G nf cv iv ov := by rw [← hw2]; exact HK.out (m + m2)
  have F2 : Fr (VS A) w w2 := by rw [← hw2]; exact FF.out (m + m2)
  clear hw2 c1 c2 c3 c4 hlt hz p0 HK FF z y2 y3 y4 y5 hr48 hbm hb' hc
  have eX : X = (dropO V2 1, M) := by rw [HE.out.1]; show (if opn V2 0 = 0 then _ else _, M) = _; rw [if_pos (by rw [HV.out]; exact hx)]
  have HX2 : Hid _ := And.intro F2 (And.intro HE.out.2.1 eX)
  have hlt := H2.lt
  clear F2 eX
  obtain ⟨k, k1, k2, -, s0⟩ := H2.one HE.out.2.2.1 HE.out.2.2.2.1
  have d1 := H2.r_sp
  rw [k1] at d1
  have d2 := H2.r_st (k := k) (by omega)
  rw [s0] at d2
  have hz := H2.blk.frozen
  have hki : (k : Int) < 48 := by omega
  have e1 : ((k + 1 : Nat) : Int) - 1 = (k : Int) := by omega
  have hx0 : opn V2 0 = 0 := by rw [HV.out]; exact hx
  generalize opn V2 0 = x at *
  have y1 : (x == 0) = true := by simpa using hx0
  have y2 : (x != 0) = false := by simpa using hx0
  have D := H2.drop HE.out.2.2.1 1 HE.out.2.2.2.1 k1
  have HD : Hid _ := And.intro D He.out
  have hfu2 : V2.fuel ≤ 9223372036854775807 := by rw [HV.out]; exact hfu
  have hfd : (dropO V2 1).fuel = V2.fuel := drop_fu V2 1
  have Hfu : Hid _ := And.intro hfu2 hfd
  have Hs0 : Hid _ := s0
  clear H2 HE He k1 s0 hx hfu hfu2 hfd D
  go_upto_region 59 with fail
  generalize hw3 : World.setCell _ ⟨A.m, 49, none⟩ _ = w3
  have D3 : RX w3 A C I (dropO V2 1) S st { G with sp := k } nf cv iv ov := by rw [← hw3]; exact HD.out.1
  have F3 : Fr (VS A) w2 w3 := by rw [← hw3]; exact (Fr.refl (VS A) w2).setC A.m 49 _ (fun _ => .inl rfl)
  have HF3 : Hid _ := F3
  clear d1 d2 hz hw3 F3 e1 hlt
  have d1 := D3.r_sp
  have d2 := D3.r_st (k := k) (by omega)
  rw [Hs0.out] at d2
  have c3 := D3.r_cv
  rw [HD.out.2] at c3
  have hlt := D3.lt
  simp only at d1
  have HDD : Hid _ := D3
  clear D3
  go_wp2_with fail
  go_quiet (fail)
  generalize hw4 : World.drewN _ _ = w4
  have D4 : RX w4 A C I (dropO V2 1) S st { G with sp := k } nf cv iv ov := by rw [← hw4]; exact HDD.out.drewN _
  have F4 : Hid (Fr (VS A) w2 w4) := by show Fr (VS A) w2 w4; rw [← hw4]; exact HF3.out.drewN _
  clear hw4 d1 d2 c3 hlt
  have c3 := D4.r_cv
  rw [HD.out.2] at c3
  have hlt := D4.lt
  have HD4 : Hid _ := D4.y
  clear D4
  go_wp2_with fail
  go_end0
  rw [HX2.out.2.2]
  exact RS.of ⟨rfl, HD4.out, F4.out⟩ HX2.out.2.1 HX2.out.1
set_option maxRecDepth 100000 in
set_option maxHeartbeats 1000000 in
theorem step24 (H : RX w A C I V S st G nf cv iv ov) (hR : Rel S M) (hf : V.fs = f :: r) (hd : M.rt.length ≤ 24) (hq : f.rb + f.lr ≤ 24) (hop : byteAt C V.pc = 24) (hp : V.pc + 1 + 2 ≤ C.length) (hi : 0 ≤ f.ops.length) (hr : (0 : Int) ≤ (M.rt.length : Int) - f.rb - f.lr) (hfu : V.fuel ≤ 9223372036854775807) (hd24 : M.rt.length ≤ 24) (hch : f.rb + f.lr ≤ 24) (hmo : V.most ≤ 48) : Calls Tryz.prog 72 #[.pointer (some ⟨A.m, 0, none⟩)] w (RS w A C I (execV C I 24 V.pc { V with steps := wr64 (V.steps + 1), pc := V.pc + 1 + 2 } M).1 (execV C I 24 V.pc { V with steps := wr64 (V.steps + 1), pc := V.pc + 1 + 2 } M).2 cv iv ov) := by
  obtain ⟨V2, hV2⟩ : ∃ V2 : Vs, V2 = { V with steps := wr64 (V.steps + 1), pc := V.pc + 1 + 2 } := ⟨_, rfl⟩
  rw [← hV2]
  obtain ⟨X, hX⟩ : ∃ X, X = execV C I 24 V.pc V2 M := ⟨_, rfl⟩
  rw [← hX]
  have hf2 : V2.fs = f :: r := by rw [hV2]; exact hf
  have c1 := H.r_steps
  have c2 := H.r_pc
  have c3 := H.r_cv
  have c4 := H.r_en
  have hlt := H.lt
  have hz := H.blk.frozen
  have hcl := H.cl
  obtain ⟨b, c, e, hb', hc⟩ := H.code.all (by omega)
  have hbm : b ≠ A.m := (H.cd b ⟨_, _, e⟩).1
  have He : Hid _ := e
  rw [e] at c3
  have p0 := hc V.pc (by omega)
  rw [hop] at p0
  have q1 : ∀ w, Calls Tryz.prog 42 #[.int .i64 24] w fun e w' => e = .returned (.int .i64 2) ∧ w' = w := fun w => opArgsF 24 (by omega) w
  have hL := hR.len
  have H1 := H.s_steps (wr64 (V.steps + 1))
  have q2 := iopsF H1 (f := f) (r := r) hf
  have q3 : ∀ w, Calls Tryz.prog 106 #[.int .i64 24] w fun e w' => e = .returned (.int .i64 0) ∧ w' = w := fun w => wantIF 24 (by omega) w
  have q4 := fun m => ropsF (H1.drewN m) (f := f) (r := r) hf (by omega) (by omega)
  rw [← hL] at q4
  have q5 : ∀ w, Calls Tryz.prog 107 #[.int .i64 24] w fun e w' => e = .returned (.int .i64 0) ∧ w' = w := fun w => wantRF 24 (by omega) w
  have ho48 : f.ops.length ≤ 48 := by have := (H.lays hf).2.2.2.1; have := H.s48; omega
  obtain ⟨nr, hnr⟩ : ∃ nr, nr = (M.rt.length : Int) - f.rb - f.lr := ⟨_, rfl⟩
  have hr48 : -48 ≤ nr ∧ nr ≤ 24 := by omega
  rw [← hnr] at q4 hr
  have HK : Hid (∀ m, RX _ A C I V2 S st G nf cv iv ov) := fun m => by rw [hV2]; exact (H1.drewN m).s_pc (V.pc + 1 + 2)
  have FF : Hid (∀ m, _) := fun m => (((Fr.refl (VS A) w).setC A.m 63 (.int .i64 (wr64 (V.steps + 1))) (fun _ => .inl rfl)).drewN m).setC A.m 55 (.int .i64 (V.pc + 1 + 2 : Nat)) (fun _ => .inl rfl)
  have HE : Hid (_ ∧ _) := ⟨hX, And.intro hR (And.intro hf2 (And.intro hi hr))⟩
  have HV : Hid _ := hV2
  generalize hpcE : V.pc = pc at *
  obtain ⟨no, hno⟩ : ∃ no, no = f.ops.length := ⟨_, rfl⟩
  rw [← hno] at q2 hi ho48
  generalize V.steps = sx at *
  clear H H1 e hR hL hnr hf hq hd hX hf2 hno hV2 hpcE
  have hp' : (pc : Int) + 1 + 2 ≤ C.length := by omega
  have z : decide ((pc : Int) ≥ C.length) = false := decide_eq_false (by omega)
  have y2 : decide ((2 : Int) > (C.length : Int) - pc - 1) = false := decide_eq_false (by omega)
  have y3 : decide ((C.length : Int) - pc - 1 < (2 : Int)) = false := decide_eq_false (by omega)
  have y4 : decide ((no : Int) < 0) = false := decide_eq_false (by omega)
  have y5 : decide (nr < 0) = false := decide_eq_false (by omega)
  go_enter Tryz.func72, Tryz.ntmps72
  go_wp2_with fail
  refine (q1 _).mono ?_
  rintro v wa ⟨rfl, rfl⟩
  go_wp2_with fail
  refine q2.mono ?_
  rintro v wa ⟨rfl, m, rfl⟩
  go_wp2_with fail
  refine (q3 _).mono ?_
  rintro v wa ⟨rfl, rfl⟩
  go_wp2_with fail
  refine (q4 m).mono ?_
  rintro v wa ⟨rfl, m2, rfl⟩
  go_wp2_with fail
  refine (q5 _).mono ?_
  rintro v wa ⟨rfl, rfl⟩
  clear q1 q2 q3 q4 q5
  go_upto_region 63 with fail
  generalize hw2 : World.setCell _ ⟨A.m, 55, none⟩ _ = w2
  have H2 : RX w2 A C I V2 S st G nf cv iv ov := by rw [← hw2]; exact HK.out (m + m2)
  have F2 : Fr (VS A) w w2 := by rw [← hw2]; exact FF.out (m + m2)
  clear hw2 c1 c2 c3 c4 hlt hz p0 HK FF z y2 y3 y4 y5 hr48 hbm hb' hc
  have eX : X = (callV C V2 M (u16V C (pc + 1)) (pc + 3)) := by rw [HE.out.1]; exact rfl
  have HX2 : Hid _ := And.intro F2 (And.intro HE.out.2.1 eX)
  have hlt := H2.lt
  clear F2 eX
  have c3 := H2.r_cv
  rw [He.out] at c3
  have q := u16F H2.code H2.cb hcl (pc + 1) (by omega)
  rw [He.out, show ((pc + 1 : Nat) : Int) = (pc : Int) + 1 from rfl] at q
  generalize u16V C (pc + 1) = to at *
  have hq1 := fun n => enterF (H2.drewN n) HE.out.2.1 to (pc + 3) (by rw [HV.out]; exact hfu) hd24 (fun f' r' h => by rw [HE.out.2.2.1] at h; cases h; exact hch) (by rw [HV.out]; exact hmo)
  rw [show ((pc + 3 : Nat) : Int) = (pc : Int) + 3 from rfl] at hq1
  generalize callV C V2 M to (pc + 3) = X2 at *
  clear H2 HE He hd24 hch hmo hfu
  go_wp2_with fail
  refine q.mono ?_
  rintro v w3 ⟨rfl, n, rfl⟩
  go_wp2_with fail
  refine (hq1 n).mono ?_
  rintro v w4 ⟨rfl, h3⟩
  go_wp2_with fail
  go_end0
  rw [HX2.out.2.2]
  exact RZ.s ⟨rfl, h3⟩ (HX2.out.1.drewN n)
end
end Go.Proofs.Qxb6500277aGreat
