/- The real machine: steps (written by genVR26.py). -/
import Derived.Test.Qxb6500277aGreatVR26
namespace Go.Proofs.Qxb6500277aGreat
open Go Go.RowKit

section
variable {w w' w0 : World} {A : Va} {C : List Nat} {I : List Int} {V V' : Vs} {S S' : HS} {M M' : MS} {st st' : Nat → Int} {G : Gx} {nf : Nat} {cv iv ov : Value} {f : Fm} {r : List Fm} {e : Ending}
set_option maxRecDepth 100000 in
set_option maxHeartbeats 1000000 in
theorem step2n (H : RX w A C I V S st G nf cv iv ov) (hR : Rel S M) (hf : V.fs = f :: r) (hd : M.rt.length ≤ 24) (hq : f.rb + f.lr ≤ 24) (hop : byteAt C V.pc = 2) (hp : V.pc + 1 + 1 ≤ C.length) (hi : 0 ≤ f.ops.length) (hr : (0 : Int) ≤ (M.rt.length : Int) - f.rb - f.lr) (hx : f.loc.length ≤ (byteAt C (V.pc + 1))) : Calls Tryz.prog 72 #[.pointer (some ⟨A.m, 0, none⟩)] w (RS w A C I (execV C I 2 V.pc { V with steps := wr64 (V.steps + 1), pc := V.pc + 1 + 1 } M).1 (execV C I 2 V.pc { V with steps := wr64 (V.steps + 1), pc := V.pc + 1 + 1 } M).2 cv iv ov) := by
  obtain ⟨V2, hV2⟩ : ∃ V2 : Vs, V2 = { V with steps := wr64 (V.steps + 1), pc := V.pc + 1 + 1 } := ⟨_, rfl⟩
  rw [← hV2]
  obtain ⟨X, hX⟩ : ∃ X, X = execV C I 2 V.pc V2 M := ⟨_, rfl⟩
  rw [← hX]
  have hf2 : V2.fs = f :: r := by rw [hV2]; exact hf
  have c1 := H.r_steps
  have c2 := H.r_pc
  have c3 := H.r_cv
  have c4 := H.r_en
  have hlt := H.lt
  have hz := H.blk.frozen
  have hcl := H.cl
  obtain ⟨b, c, e, hb', hc⟩ := H.code.all (by omega)
  have hbm : b ≠ A.m := (H.cd b ⟨_, _, e⟩).1
  have He : Hid _ := e
  rw [e] at c3
  have p0 := hc V.pc (by omega)
  rw [hop] at p0
  have q1 : ∀ w, Calls Tryz.prog 42 #[.int .i64 2] w fun e w' => e = .returned (.int .i64 1) ∧ w' = w := fun w => opArgsF 2 (by omega) w
  have hL := hR.len
  have H1 := H.s_steps (wr64 (V.steps + 1))
  have q2 := iopsF H1 (f := f) (r := r) hf
  have q3 : ∀ w, Calls Tryz.prog 106 #[.int .i64 2] w fun e w' => e = .returned (.int .i64 0) ∧ w' = w := fun w => wantIF 2 (by omega) w
  have q4 := fun m => ropsF (H1.drewN m) (f := f) (r := r) hf (by omega) (by omega)
  rw [← hL] at q4
  have q5 : ∀ w, Calls Tryz.prog 107 #[.int .i64 2] w fun e w' => e = .returned (.int .i64 0) ∧ w' = w := fun w => wantRF 2 (by omega) w
  have ho48 : f.ops.length ≤ 48 := by have := (H.lays hf).2.2.2.1; have := H.s48; omega
  obtain ⟨nr, hnr⟩ : ∃ nr, nr = (M.rt.length : Int) - f.rb - f.lr := ⟨_, rfl⟩
  have hr48 : -48 ≤ nr ∧ nr ≤ 24 := by omega
  rw [← hnr] at q4 hr
  have HK : Hid (∀ m, RX _ A C I V2 S st G nf cv iv ov) := fun m => by rw [hV2]; exact (H1.drewN m).s_pc (V.pc + 1 + 1)
  have FF : Hid (∀ m, _) := fun m => (((Fr.refl (VS A) w).setC A.m 63 (.int .i64 (wr64 (V.steps + 1))) (fun _ => .inl rfl)).drewN m).setC A.m 55 (.int .i64 (V.pc + 1 + 1 : Nat)) (fun _ => .inl rfl)
  have HE : Hid (_ ∧ _) := ⟨hX, And.intro hR (And.intro hf2 (And.intro hi hr))⟩
  have HV : Hid _ := hV2
  generalize hpcE : V.pc = pc at *
  obtain ⟨no, hno⟩ : ∃ no, no = f.ops.length := ⟨_, rfl⟩
  rw [← hno] at q2 hi ho48
  generalize V.steps = sx at *
  clear H H1 e hR hL hnr hf hq hd hX hf2 hno hV2 hpcE
  have hp' : (pc : Int) + 1 + 1 ≤ C.length := by omega
  have z : decide ((pc : Int) ≥ C.length) = false := decide_eq_false (by omega)
  have y2 : decide ((1 : Int) > (C.length : Int) - pc - 1) = false := decide_eq_false (by omega)
  have y3 : decide ((C.length : Int) - pc - 1 < (1 : Int)) = false := decide_eq_false (by omega)
  have y4 : decide ((no : Int) < 0) = false := decide_eq_false (by omega)
  have y5 : decide (nr < 0) = false := decide_eq_false (by omega)
  go_enter Tryz.func72, Tryz.ntmps72
  go_wp2_with fail
  refine (q1 _).mono ?_
  rintro v wa ⟨rfl, rfl⟩
  go_wp2_with fail
  refine q2.mono ?_
  rintro v wa ⟨rfl, m, rfl⟩
  go_wp2_with fail
  refine (q3 _).mono ?_
  rintro v wa ⟨rfl, rfl⟩
  go_wp2_with fail
  refine (q4 m).mono ?_
  rintro v wa ⟨rfl, m2, rfl⟩
  go_wp2_with fail
  refine (q5 _).mono ?_
  rintro v wa ⟨rfl, rfl⟩
  clear q1 q2 q3 q4 q5
  go_upto_region 23 with fail
  generalize hw2 : World.setCell _ ⟨A.m, 55, none⟩ _ = w2
  have H2 : RX w2 A C I V2 S st G nf cv iv ov := by rw [← hw2]; exact HK.out (m + m2)
  have F2 : Fr (VS A) w w2 := by rw [← hw2]; exact FF.out (m + m2)
  clear hw2 c1 c2 c3 c4 hlt hz p0 HK FF z y2 y3 y4 y5 hr48 hbm hb' hc
  have eX : X = (V2.die 24, M) := by rw [HE.out.1]; show (if (topF V2).loc.length ≤ (byteAt C (pc + 1)) then _ else _, M) = _; rw [topF_c HE.out.2.2.1, if_pos hx]
  have HX2 : Hid _ := And.intro F2 (And.intro HE.out.2.1 eX)
  have hlt := H2.lt
  clear F2 eX
  have c3 := H2.r_cv
  rw [He.out] at c3
  have p1 := H2.byte He.out (i := pc + 1) (by omega)
  have b1 := H2.cb (pc + 1)
  have hq1 := local_no H2 HE.out.2.2.1 (op := 2) _ hx
  have hpi : (pc : Int) + 1 < (C.length : Int) := by omega
  have hbl := H2.blt He.out
  generalize byteAt C (pc + 1) = s at *
  clear H2 HE He
  go_wp2_with fail
  refine hq1.mono ?_
  rintro v w3 ⟨rfl, h3⟩
  go_wp2_with fail
  go_end0
  rw [HX2.out.2.2]
  exact RS.of ⟨rfl, h3⟩ HX2.out.2.1 HX2.out.1
set_option maxRecDepth 100000 in
set_option maxHeartbeats 1000000 in
theorem step2 (H : RX w A C I V S st G nf cv iv ov) (hR : Rel S M) (hf : V.fs = f :: r) (hd : M.rt.length ≤ 24) (hq : f.rb + f.lr ≤ 24) (hop : byteAt C V.pc = 2) (hp : V.pc + 1 + 1 ≤ C.length) (hi : 0 ≤ f.ops.length) (hr : (0 : Int) ≤ (M.rt.length : Int) - f.rb - f.lr) (hx : (byteAt C (V.pc + 1)) < f.loc.length) : Calls Tryz.prog 72 #[.pointer (some ⟨A.m, 0, none⟩)] w (RS w A C I (execV C I 2 V.pc { V with steps := wr64 (V.steps + 1), pc := V.pc + 1 + 1 } M).1 (execV C I 2 V.pc { V with steps := wr64 (V.steps + 1), pc := V.pc + 1 + 1 } M).2 cv iv ov) := by
  obtain ⟨V2, hV2⟩ : ∃ V2 : Vs, V2 = { V with steps := wr64 (V.steps + 1), pc := V.pc + 1 + 1 } := ⟨_, rfl⟩
  rw [← hV2]
  obtain ⟨X, hX⟩ : ∃ X, X = execV C I 2 V.pc V2 M := ⟨_, rfl⟩
  rw [← hX]
  have hf2 : V2.fs = f :: r := by rw [hV2]; exact hf
  have c1 := H.r_steps
  have c2 := H.r_pc
  have c3 := H.r_cv
  have c4 := H.r_en
  have hlt := H.lt
  have hz := H.blk.frozen
  have hcl := H.cl
  obtain ⟨b, c, e, hb', hc⟩ := H.code.all (by omega)
  have hbm : b ≠ A.m := (H.cd b ⟨_, _, e⟩).1
  have He : Hid _ := e
  rw [e] at c3
  have p0 := hc V.pc (by omega)
  rw [hop] at p0
  have q1 : ∀ w, Calls Tryz.prog 42 #[.int .i64 2] w fun e w' => e = .returned (.int .i64 1) ∧ w' = w := fun w => opArgsF 2 (by omega) w
  have hL := hR.len
  have H1 := H.s_steps (wr64 (V.steps + 1))
  have q2 := iopsF H1 (f := f) (r := r) hf
  have q3 : ∀ w, Calls Tryz.prog 106 #[.int .i64 2] w fun e w' => e = .returned (.int .i64 0) ∧ w' = w := fun w => wantIF 2 (by omega) w
  have q4 := fun m => ropsF (H1.drewN m) (f := f) (r := r) hf (by omega) (by omega)
  rw [← hL] at q4
  have q5 : ∀ w, Calls Tryz.prog 107 #[.int .i64 2] w fun e w' => e = .returned (.int .i64 0) ∧ w' = w := fun w => wantRF 2 (by omega) w
  have ho48 : f.ops.length ≤ 48 := by have := (H.lays hf).2.2.2.1; have := H.s48; omega
  obtain ⟨nr, hnr⟩ : ∃ nr, nr = (M.rt.length : Int) - f.rb - f.lr := ⟨_, rfl⟩
  have hr48 : -48 ≤ nr ∧ nr ≤ 24 := by omega
  rw [← hnr] at q4 hr
  have HK : Hid (∀ m, RX _ A C I V2 S st G nf cv iv ov) := fun m => by rw [hV2]; exact (H1.drewN m).s_pc (V.pc + 1 + 1)
  have FF : Hid (∀ m, _) := fun m => (((Fr.refl (VS A) w).setC A.m 63 (.int .i64 (wr64 (V.steps + 1))) (fun _ => .inl rfl)).drewN m).setC A.m 55 (.int .i64 (V.pc + 1 + 1 : Nat)) (fun _ => .inl rfl)
  have HE : Hid (_ ∧ _) := ⟨hX, And.intro hR (And.intro hf2 (And.intro hi hr))⟩
  have HV : Hid _ := hV2
  generalize hpcE : V.pc = pc at *
  obtain ⟨no, hno⟩ : ∃ no, no = f.ops.length := ⟨_, rfl⟩
  rw [← hno] at q2 hi ho48
  generalize V.steps = sx at *
  clear H H1 e hR hL hnr hf hq hd hX hf2 hno hV2 hpcE
  have hp' : (pc : Int) + 1 + 1 ≤ C.length := by omega
  have z : decide ((pc : Int) ≥ C.length) = false := decide_eq_false (by omega)
  have y2 : decide ((1 : Int) > (C.length : Int) - pc - 1) = false := decide_eq_false (by omega)
  have y3 : decide ((C.length : Int) - pc - 1 < (1 : Int)) = false := decide_eq_false (by omega)
  have y4 : decide ((no : Int) < 0) = false := decide_eq_false (by omega)
  have y5 : decide (nr < 0) = false := decide_eq_false (by omega)
  go_enter Tryz.func72, Tryz.ntmps72
  go_wp2_with fail
  refine (q1 _).mono ?_
  rintro v wa ⟨rfl, rfl⟩
  go_wp2_with fail
  refine q2.mono ?_
  rintro v wa ⟨rfl, m, rfl⟩
  go_wp2_with fail
  refine (q3 _).mono ?_
  rintro v wa ⟨rfl, rfl⟩
  go_wp2_with fail
  refine (q4 m).mono ?_
  rintro v wa ⟨rfl, m2, rfl⟩
  go_wp2_with fail
  refine (q5 _).mono ?_
  rintro v wa ⟨rfl, rfl⟩
  clear q1 q2 q3 q4 q5
  go_upto_region 23 with fail
  generalize hw2 : World.setCell _ ⟨A.m, 55, none⟩ _ = w2
  have H2 : RX w2 A C I V2 S st G nf cv iv ov := by rw [← hw2]; exact HK.out (m + m2)
  have F2 : Fr (VS A) w w2 := by rw [← hw2]; exact FF.out (m + m2)
  clear hw2 c1 c2 c3 c4 hlt hz p0 HK FF z y2 y3 y4 y5 hr48 hbm hb' hc
  have eX : X = (pushV V2 (f.loc.getD (byteAt C (pc + 1)) 0), M) := by rw [HE.out.1]; show (if (topF V2).loc.length ≤ (byteAt C (pc + 1)) then _ else _, M) = _; rw [topF_c HE.out.2.2.1, if_neg (by omega)]
  have HX2 : Hid _ := And.intro F2 (And.intro HE.out.2.1 eX)
  have hlt := H2.lt
  clear F2 eX
  have c3 := H2.r_cv
  rw [He.out] at c3
  have p1 := H2.byte He.out (i := pc + 1) (by omega)
  have b1 := H2.cb (pc + 1)
  have hq1 := local_ld H2 HE.out.2.2.1 _ hx
  have hpi : (pc : Int) + 1 < (C.length : Int) := by omega
  have hbl := H2.blt He.out
  generalize byteAt C (pc + 1) = s at *
  clear H2 HE He
  go_wp2_with fail
  refine hq1.mono ?_
  rintro v w3 ⟨rfl, h3⟩
  go_wp2_with fail
  go_end0
  rw [HX2.out.2.2]
  exact RS.of ⟨rfl, h3⟩ HX2.out.2.1 HX2.out.1
set_option maxRecDepth 100000 in
set_option maxHeartbeats 1000000 in
theorem step3n (H : RX w A C I V S st G nf cv iv ov) (hR : Rel S M) (hf : V.fs = f :: r) (hd : M.rt.length ≤ 24) (hq : f.rb + f.lr ≤ 24) (hop : byteAt C V.pc = 3) (hp : V.pc + 1 + 1 ≤ C.length) (hi : 1 ≤ f.ops.length) (hr : (0 : Int) ≤ (M.rt.length : Int) - f.rb - f.lr) (hx : f.loc.length ≤ (byteAt C (V.pc + 1))) : Calls Tryz.prog 72 #[.pointer (some ⟨A.m, 0, none⟩)] w (RS w A C I (execV C I 3 V.pc { V with steps := wr64 (V.steps + 1), pc := V.pc + 1 + 1 } M).1 (execV C I 3 V.pc { V with steps := wr64 (V.steps + 1), pc := V.pc + 1 + 1 } M).2 cv iv ov) := by
  obtain ⟨V2, hV2⟩ : ∃ V2 : Vs, V2 = { V with steps := wr64 (V.steps + 1), pc := V.pc + 1 + 1 } := ⟨_, rfl⟩
  rw [← hV2]
  obtain ⟨X, hX⟩ : ∃ X, X = execV C I 3 V.pc V2 M := ⟨_, rfl⟩
  rw [← hX]
  have hf2 : V2.fs = f :: r := by rw [hV2]; exact hf
  have c1 := H.r_steps
  have c2 := H.r_pc
  have c3 := H.r_cv
  have c4 := H.r_en
  have hlt := H.lt
  have hz := H.blk.frozen
  have hcl := H.cl
  obtain ⟨b, c, e, hb', hc⟩ := H.code.all (by omega)
  have hbm : b ≠ A.m := (H.cd b ⟨_, _, e⟩).1
  have He : Hid _ := e
  rw [e] at c3
  have p0 := hc V.pc (by omega)
  rw [hop] at p0
  have q1 : ∀ w, Calls Tryz.prog 42 #[.int .i64 3] w fun e w' => e = .returned (.int .i64 1) ∧ w' = w := fun w => opArgsF 3 (by omega) w
  have hL := hR.len
  have H1 := H.s_steps (wr64 (V.steps + 1))
  have q2 := iopsF H1 (f := f) (r := r) hf
  have q3 : ∀ w, Calls Tryz.prog 106 #[.int .i64 3] w fun e w' => e = .returned (.int .i64 1) ∧ w' = w := fun w => wantIF 3 (by omega) w
  have q4 := fun m => ropsF (H1.drewN m) (f := f) (r := r) hf (by omega) (by omega)
  rw [← hL] at q4
  have q5 : ∀ w, Calls Tryz.prog 107 #[.int .i64 3] w fun e w' => e = .returned (.int .i64 0) ∧ w' = w := fun w => wantRF 3 (by omega) w
  have ho48 : f.ops.length ≤ 48 := by have := (H.lays hf).2.2.2.1; have := H.s48; omega
  obtain ⟨nr, hnr⟩ : ∃ nr, nr = (M.rt.length : Int) - f.rb - f.lr := ⟨_, rfl⟩
  have hr48 : -48 ≤ nr ∧ nr ≤ 24 := by omega
  rw [← hnr] at q4 hr
  have HK : Hid (∀ m, RX _ A C I V2 S st G nf cv iv ov) := fun m => by rw [hV2]; exact (H1.drewN m).s_pc (V.pc + 1 + 1)
  have FF : Hid (∀ m, _) := fun m => (((Fr.refl (VS A) w).setC A.m 63 (.int .i64 (wr64 (V.steps + 1))) (fun _ => .inl rfl)).drewN m).setC A.m 55 (.int .i64 (V.pc + 1 + 1 : Nat)) (fun _ => .inl rfl)
  have HE : Hid (_ ∧ _) := ⟨hX, And.intro hR (And.intro hf2 (And.intro hi hr))⟩
  have HV : Hid _ := hV2
  generalize hpcE : V.pc = pc at *
  obtain ⟨no, hno⟩ : ∃ no, no = f.ops.length := ⟨_, rfl⟩
  rw [← hno] at q2 hi ho48
  generalize V.steps = sx at *
  clear H H1 e hR hL hnr hf hq hd hX hf2 hno hV2 hpcE
  have hp' : (pc : Int) + 1 + 1 ≤ C.length := by omega
  have z : decide ((pc : Int) ≥ C.length) = false := decide_eq_false (by omega)
  have y2 : decide ((1 : Int) > (C.length : Int) - pc - 1) = false := decide_eq_false (by omega)
  have y3 : decide ((C.length : Int) - pc - 1 < (1 : Int)) = false := decide_eq_false (by omega)
  have y4 : decide ((no : Int) < 1) = false := decide_eq_false (by omega)
  have y5 : decide (nr < 0) = false := decide_eq_false (by omega)
  go_enter Tryz.func72, Tryz.ntmps72
  go_wp2_with fail
  refine (q1 _).mono ?_
  rintro v wa ⟨rfl, rfl⟩
  go_wp2_with fail
  refine q2.mono ?_
  rintro v wa ⟨rfl, m, rfl⟩
  go_wp2_with fail
  refine (q3 _).mono ?_
  rintro v wa ⟨rfl, rfl⟩
  go_wp2_with fail
  refine (q4 m).mono ?_
  rintro v wa ⟨rfl, m2, rfl⟩
  go_wp2_with fail
  refine (q5 _).mono ?_
  rintro v wa ⟨rfl, rfl⟩
  clear q1 q2 q3 q4 q5
  go_upto_region 23 with fail
  generalize hw2 : World.setCell _ ⟨A.m, 55, none⟩ _ = w2
  have H2 : RX w2 A C I V2 S st G nf cv iv ov := by rw [← hw2]; exact HK.out (m + m2)
  have F2 : Fr (VS A) w w2 := by rw [← hw2]; exact FF.out (m + m2)
  clear hw2 c1 c2 c3 c4 hlt hz p0 HK FF z y2 y3 y4 y5 hr48 hbm hb' hc
  have eX : X = (V2.die 24, M) := by rw [HE.out.1]; show (if (topF V2).loc.length ≤ (byteAt C (pc + 1)) then _ else _, M) = _; rw [topF_c HE.out.2.2.1, if_pos hx]
  have HX2 : Hid _ := And.intro F2 (And.intro HE.out.2.1 eX)
  have hlt := H2.lt
  clear F2 eX
  have c3 := H2.r_cv
  rw [He.out] at c3
  have p1 := H2.byte He.out (i := pc + 1) (by omega)
  have b1 := H2.cb (pc + 1)
  have hq1 := local_no H2 HE.out.2.2.1 (op := 3) _ hx
  have hpi : (pc : Int) + 1 < (C.length : Int) := by omega
  have hbl := H2.blt He.out
  generalize byteAt C (pc + 1) = s at *
  clear H2 HE He
  go_wp2_with fail
  refine hq1.mono ?_
  rintro v w3 ⟨rfl, h3⟩
  go_wp2_with fail
  go_end0
  rw [HX2.out.2.2]
  exact RS.of ⟨rfl, h3⟩ HX2.out.2.1 HX2.out.1
set_option maxRecDepth 100000 in
set_option maxHeartbeats 1000000 in
theorem step3 (H : RX w A C I V S st G nf cv iv ov) (hR : Rel S M) (hf : V.fs = f :: r) (hd : M.rt.length ≤ 24) (hq : f.rb + f.lr ≤ 24) (hop : byteAt C V.pc = 3) (hp : V.pc + 1 + 1 ≤ C.length) (hi : 1 ≤ f.ops.length) (hr : (0 : Int) ≤ (M.rt.length : Int) - f.rb - f.lr) (hx : (byteAt C (V.pc + 1)) < f.loc.length) : Calls Tryz.prog 72 #[.pointer (some ⟨A.m, 0, none⟩)] w (RS w A C I (execV C I 3 V.pc { V with steps := wr64 (V.steps + 1), pc := V.pc + 1 + 1 } M).1 (execV C I 3 V.pc { V with steps := wr64 (V.steps + 1), pc := V.pc + 1 + 1 } M).2 cv iv ov) := by
  obtain ⟨V2, hV2⟩ : ∃ V2 : Vs, V2 = { V with steps := wr64 (V.steps + 1), pc := V.pc + 1 + 1 } := ⟨_, rfl⟩
  rw [← hV2]
  obtain ⟨X, hX⟩ : ∃ X, X = execV C I 3 V.pc V2 M := ⟨_, rfl⟩
  rw [← hX]
  have hf2 : V2.fs = f :: r := by rw [hV2]; exact hf
  have c1 := H.r_steps
  have c2 := H.r_pc
  have c3 := H.r_cv
  have c4 := H.r_en
  have hlt := H.lt
  have hz := H.blk.frozen
  have hcl := H.cl
  obtain ⟨b, c, e, hb', hc⟩ := H.code.all (by omega)
  have hbm : b ≠ A.m := (H.cd b ⟨_, _, e⟩).1
  have He : Hid _ := e
  rw [e] at c3
  have p0 := hc V.pc (by omega)
  rw [hop] at p0
  have q1 : ∀ w, Calls Tryz.prog 42 #[.int .i64 3] w fun e w' => e = .returned (.int .i64 1) ∧ w' = w := fun w => opArgsF 3 (by omega) w
  have hL := hR.len
  have H1 := H.s_steps (wr64 (V.steps + 1))
  have q2 := iopsF H1 (f := f) (r := r) hf
  have q3 : ∀ w, Calls Tryz.prog 106 #[.int .i64 3] w fun e w' => e = .returned (.int .i64 1) ∧ w' = w := fun w => wantIF 3 (by omega) w
  have q4 := fun m => ropsF (H1.drewN m) (f := f) (r := r) hf (by omega) (by omega)
  rw [← hL] at q4
  have q5 : ∀ w, Calls Tryz.prog 107 #[.int .i64 3] w fun e w' => e = .returned (.int .i64 0) ∧ w' = w := fun w => wantRF 3 (by omega) w
  have ho48 : f.ops.length ≤ 48 := by have := (H.lays hf).2.2.2.1; have := H.s48; omega
  obtain ⟨nr, hnr⟩ : ∃ nr, nr = (M.rt.length : Int) - f.rb - f.lr := ⟨_, rfl⟩
  have hr48 : -48 ≤ nr ∧ nr ≤ 24 := by omega
  rw [← hnr] at q4 hr
  have HK : Hid (∀ m, RX _ A C I V2 S st G nf cv iv ov) := fun m => by rw [hV2]; exact (H1.drewN m).s_pc (V.pc + 1 + 1)
  have FF : Hid (∀ m, _) := fun m => (((Fr.refl (VS A) w).setC A.m 63 (.int .i64 (wr64 (V.steps + 1))) (fun _ => .inl rfl)).drewN m).setC A.m 55 (.int .i64 (V.pc + 1 + 1 : Nat)) (fun _ => .inl rfl)
  have HE : Hid (_ ∧ _) := ⟨hX, And.intro hR (And.intro hf2 (And.intro hi hr))⟩
  have HV : Hid _ := hV2
  generalize hpcE : V.pc = pc at *
  obtain ⟨no, hno⟩ : ∃ no, no = f.ops.length := ⟨_, rfl⟩
  rw [← hno] at q2 hi ho48
  generalize V.steps = sx at *
  clear H H1 e hR hL hnr hf hq hd hX hf2 hno hV2 hpcE
  have hp' : (pc : Int) + 1 + 1 ≤ C.length := by omega
  have z : decide ((pc : Int) ≥ C.length) = false := decide_eq_false (by omega)
  have y2 : decide ((1 : Int) > (C.length : Int) - pc - 1) = false := decide_eq_false (by omega)
  have y3 : decide ((C.length : Int) - pc - 1 < (1 : Int)) = false := decide_eq_false (by omega)
  have y4 : decide ((no : Int) < 1) = false := decide_eq_false (by omega)
  have y5 : decide (nr < 0) = false := decide_eq_false (by omega)
  go_enter Tryz.func72, Tryz.ntmps72
  go_wp2_with fail
  refine (q1 _).mono ?_
  rintro v wa ⟨rfl, rfl⟩
  go_wp2_with fail
  refine q2.mono ?_
  rintro v wa ⟨rfl, m, rfl⟩
  go_wp2_with fail
  refine (q3 _).mono ?_
  rintro v wa ⟨rfl, rfl⟩
  go_wp2_with fail
  refine (q4 m).mono ?_
  rintro v wa ⟨rfl, m2, rfl⟩
  go_wp2_with fail
  refine (q5 _).mono ?_
  rintro v wa ⟨rfl, rfl⟩
  clear q1 q2 q3 q4 q5
  go_upto_region 23 with fail
  generalize hw2 : World.setCell _ ⟨A.m, 55, none⟩ _ = w2
  have H2 : RX w2 A C I V2 S st G nf cv iv ov := by rw [← hw2]; exact HK.out (m + m2)
  have F2 : Fr (VS A) w w2 := by rw [← hw2]; exact FF.out (m + m2)
  clear hw2 c1 c2 c3 c4 hlt hz p0 HK FF z y2 y3 y4 y5 hr48 hbm hb' hc
  have eX : X = (setLoc (dropO V2 1) (byteAt C (pc + 1)) (opn V2 0), M) := by rw [HE.out.1]; show (if (topF V2).loc.length ≤ (byteAt C (pc + 1)) then _ else _, M) = _; rw [topF_c HE.out.2.2.1, if_neg (by omega)]
  have HX2 : Hid _ := And.intro F2 (And.intro HE.out.2.1 eX)
  have hlt := H2.lt
  clear F2 eX
  have c3 := H2.r_cv
  rw [He.out] at c3
  have p1 := H2.byte He.out (i := pc + 1) (by omega)
  have b1 := H2.cb (pc + 1)
  have hq1 := local_st H2 HE.out.2.2.1 HE.out.2.2.2.1 _ hx
  have hpi : (pc : Int) + 1 < (C.length : Int) := by omega
  have hbl := H2.blt He.out
  generalize byteAt C (pc + 1) = s at *
  clear H2 HE He
  go_wp2_with fail
  refine hq1.mono ?_
  rintro v w3 ⟨rfl, h3⟩
  go_wp2_with fail
  go_end0
  rw [HX2.out.2.2]
  exact RS.of ⟨rfl, h3⟩ HX2.out.2.1 HX2.out.1
set_option maxRecDepth 100000 in
set_option maxHeartbeats 1000000 in
theorem step4n (H : RX w A C I V S st G nf cv iv ov) (hR : Rel S M) (hf : V.fs = f :: r) (hd : M.rt.length ≤ 24) (hq : f.rb + f.lr ≤ 24) (hop : byteAt C V.pc = 4) (hp : V.pc + 1 + 1 ≤ C.length) (hi : 0 ≤ f.ops.length) (hr : (0 : Int) ≤ (M.rt.length : Int) - f.rb - f.lr) (hx : f.lr ≤ (byteAt C (V.pc + 1))) : Calls Tryz.prog 72 #[.pointer (some ⟨A.m, 0, none⟩)] w (RS w A C I (execV C I 4 V.pc { V with steps := wr64 (V.steps + 1), pc := V.pc + 1 + 1 } M).1 (execV C I 4 V.pc { V with steps := wr64 (V.steps + 1), pc := V.pc + 1 + 1 } M).2 cv iv ov) := by
  obtain ⟨V2, hV2⟩ : ∃ V2 : Vs, V2 = { V with steps := wr64 (V.steps + 1), pc := V.pc + 1 + 1 } := ⟨_, rfl⟩
  rw [← hV2]
  obtain ⟨X, hX⟩ : ∃ X, X = execV C I 4 V.pc V2 M := ⟨_, rfl⟩
  rw [← hX]
  have hf2 : V2.fs = f :: r := by rw [hV2]; exact hf
  have c1 := H.r_steps
  have c2 := H.r_pc
  have c3 := H.r_cv
  have c4 := H.r_en
  have hlt := H.lt
  have hz := H.blk.frozen
  have hcl := H.cl
  obtain ⟨b, c, e, hb', hc⟩ := H.code.all (by omega)
  have hbm : b ≠ A.m := (H.cd b ⟨_, _, e⟩).1
  have He : Hid _ := e
  rw [e] at c3
  have p0 := hc V.pc (by omega)
  rw [hop] at p0
  have q1 : ∀ w, Calls Tryz.prog 42 #[.int .i64 4] w fun e w' => e = .returned (.int .i64 1) ∧ w' = w := fun w => opArgsF 4 (by omega) w
  have hL := hR.len
  have H1 := H.s_steps (wr64 (V.steps + 1))
  have q2 := iopsF H1 (f := f) (r := r) hf
  have q3 : ∀ w, Calls Tryz.prog 106 #[.int .i64 4] w fun e w' => e = .returned (.int .i64 0) ∧ w' = w := fun w => wantIF 4 (by omega) w
  have q4 := fun m => ropsF (H1.drewN m) (f := f) (r := r) hf (by omega) (by omega)
  rw [← hL] at q4
  have q5 : ∀ w, Calls Tryz.prog 107 #[.int .i64 4] w fun e w' => e = .returned (.int .i64 0) ∧ w' = w := fun w => wantRF 4 (by omega) w
  have ho48 : f.ops.length ≤ 48 := by have := (H.lays hf).2.2.2.1; have := H.s48; omega
  obtain ⟨nr, hnr⟩ : ∃ nr, nr = (M.rt.length : Int) - f.rb - f.lr := ⟨_, rfl⟩
  have hr48 : -48 ≤ nr ∧ nr ≤ 24 := by omega
  rw [← hnr] at q4 hr
  have HK : Hid (∀ m, RX _ A C I V2 S st G nf cv iv ov) := fun m => by rw [hV2]; exact (H1.drewN m).s_pc (V.pc + 1 + 1)
  have FF : Hid (∀ m, _) := fun m => (((Fr.refl (VS A) w).setC A.m 63 (.int .i64 (wr64 (V.steps + 1))) (fun _ => .inl rfl)).drewN m).setC A.m 55 (.int .i64 (V.pc + 1 + 1 : Nat)) (fun _ => .inl rfl)
  have HE : Hid (_ ∧ _) := ⟨hX, And.intro hR (And.intro hf2 (And.intro hi hr))⟩
  have HV : Hid _ := hV2
  generalize hpcE : V.pc = pc at *
  obtain ⟨no, hno⟩ : ∃ no, no = f.ops.length := ⟨_, rfl⟩
  rw [← hno] at q2 hi ho48
  generalize V.steps = sx at *
  clear H H1 e hR hL hnr hf hq hd hX hf2 hno hV2 hpcE
  have hp' : (pc : Int) + 1 + 1 ≤ C.length := by omega
  have z : decide ((pc : Int) ≥ C.length) = false := decide_eq_false (by omega)
  have y2 : decide ((1 : Int) > (C.length : Int) - pc - 1) = false := decide_eq_false (by omega)
  have y3 : decide ((C.length : Int) - pc - 1 < (1 : Int)) = false := decide_eq_false (by omega)
  have y4 : decide ((no : Int) < 0) = false := decide_eq_false (by omega)
  have y5 : decide (nr < 0) = false := decide_eq_false (by omega)
  go_enter Tryz.func72, Tryz.ntmps72
  go_wp2_with fail
  refine (q1 _).mono ?_
  rintro v wa ⟨rfl, rfl⟩
  go_wp2_with fail
  refine q2.mono ?_
  rintro v wa ⟨rfl, m, rfl⟩
  go_wp2_with fail
  refine (q3 _).mono ?_
  rintro v wa ⟨rfl, rfl⟩
  go_wp2_with fail
  refine (q4 m).mono ?_
  rintro v wa ⟨rfl, m2, rfl⟩
  go_wp2_with fail
  refine (q5 _).mono ?_
  rintro v wa ⟨rfl, rfl⟩
  clear q1 q2 q3 q4 q5
  go_upto_region 26 with fail
  generalize hw2 : World.setCell _ ⟨A.m, 55, none⟩ _ = w2
  have H2 : RX w2 A C I V2 S st G nf cv iv ov := by rw [← hw2]; exact HK.out (m + m2)
  have F2 : Fr (VS A) w w2 := by rw [← hw2]; exact FF.out (m + m2)
  clear hw2 c1 c2 c3 c4 hlt hz p0 HK FF z y2 y3 y4 y5 hr48 hbm hb' hc
  have eX : X = (V2.die 24, M) := by rw [HE.out.1]; show (if (topF V2).lr ≤ (byteAt C (pc + 1)) then _ else _) = _; rw [topF_c HE.out.2.2.1, if_pos hx]
  have HX2 : Hid _ := And.intro F2 (And.intro HE.out.2.1 eX)
  have hlt := H2.lt
  clear F2 eX
  have c3 := H2.r_cv
  rw [He.out] at c3
  have p1 := H2.byte He.out (i := pc + 1) (by omega)
  have b1 := H2.cb (pc + 1)
  have hq1 := localR_no H2 HE.out.2.1 HE.out.2.2.1 (op := 4) _ hx
  have hpi : (pc : Int) + 1 < (C.length : Int) := by omega
  have hbl := H2.blt He.out
  generalize byteAt C (pc + 1) = s at *
  clear H2 HE He
  go_wp2_with fail
  refine hq1.mono ?_
  rintro v w3 ⟨rfl, h3⟩
  go_wp2_with fail
  go_end0
  rw [HX2.out.2.2]
  exact RZ.s ⟨rfl, h3⟩ HX2.out.1
set_option maxRecDepth 100000 in
set_option maxHeartbeats 1000000 in
theorem step4 (H : RX w A C I V S st G nf cv iv ov) (hR : Rel S M) (hf : V.fs = f :: r) (hd : M.rt.length ≤ 24) (_hq : f.rb + f.lr ≤ 24) (hop : byteAt C V.pc = 4) (hp : V.pc + 1 + 1 ≤ C.length) (hi : 0 ≤ f.ops.length) (hr : (0 : Int) ≤ (M.rt.length : Int) - f.rb - f.lr) (hbb : f.rb ≤ 24 ∧ f.lr ≤ 24) (hx : (byteAt C (V.pc + 1)) < f.lr) : Calls Tryz.prog 72 #[.pointer (some ⟨A.m, 0, none⟩)] w (RS w A C I (execV C I 4 V.pc { V with steps := wr64 (V.steps + 1), pc := V.pc + 1 + 1 } M).1 (execV C I 4 V.pc { V with steps := wr64 (V.steps + 1), pc := V.pc + 1 + 1 } M).2 cv iv ov) := by
  obtain ⟨V2, hV2⟩ : ∃ V2 : Vs, V2 = { V with steps := wr64 (V.steps + 1), pc := V.pc + 1 + 1 } := ⟨_, rfl⟩
  rw [← hV2]
  obtain ⟨X, hX⟩ : ∃ X, X = execV C I 4 V.pc V2 M := ⟨_, rfl⟩
  rw [← hX]
  have hf2 : V2.fs = f :: r := by rw [hV2]; exact hf
  have c1 := H.r_steps
  have c2 := H.r_pc
  have c3 := H.r_cv
  have c4 := H.r_en
  have hlt := H.lt
  have hz := H.blk.frozen
  have hcl := H.cl
  obtain ⟨b, c, e, hb', hc⟩ := H.code.all (by omega)
  have hbm : b ≠ A.m := (H.cd b ⟨_, _, e⟩).1
  have He : Hid _ := e
  rw [e] at c3
  have p0 := hc V.pc (by omega)
  rw [hop] at p0
  have q1 : ∀ w, Calls Tryz.prog 42 #[.int .i64 4] w fun e w' => e = .returned (.int .i64 1) ∧ w' = w := fun w => opArgsF 4 (by omega) w
  have hL := hR.len
  have H1 := H.s_steps (wr64 (V.steps + 1))
  have q2 := iopsF H1 (f := f) (r := r) hf
  have q3 : ∀ w, Calls Tryz.prog 106 #[.int .i64 4] w fun e w' => e = .returned (.int .i64 0) ∧ w' = w := fun w => wantIF 4 (by omega) w
  have q4 := fun m => ropsF (H1.drewN m) (f := f) (r := r) hf (by omega) (by omega)
  rw [← hL] at q4
  have q5 : ∀ w, Calls Tryz.prog 107 #[.int .i64 4] w fun e w' => e = .returned (.int .i64 0) ∧ w' = w := fun w => wantRF 4 (by omega) w
  have ho48 : f.ops.length ≤ 48 := by have := (H.lays hf).2.2.2.1; have := H.s48; omega
  obtain ⟨nr, hnr⟩ : ∃ nr, nr = (M.rt.length : Int) - f.rb - f.lr := ⟨_, rfl⟩
  have hr48 : -48 ≤ nr ∧ nr ≤ 24 := by omega
  rw [← hnr] at q4 hr
  have HK : Hid (∀ m, RX _ A C I V2 S st G nf cv iv ov) := fun m => by rw [hV2]; exact (H1.drewN m).s_pc (V.pc + 1 + 1)
  have FF : Hid (∀ m, _) := fun m => (((Fr.refl (VS A) w).setC A.m 63 (.int .i64 (wr64 (V.steps + 1))) (fun _ => .inl rfl)).drewN m).setC A.m 55 (.int .i64 (V.pc + 1 + 1 : Nat)) (fun _ => .inl rfl)
  have HE : Hid (_ ∧ _) := ⟨hX, And.intro hR (And.intro hf2 (And.intro hi hr))⟩
  have HV : Hid _ := hV2
  generalize hpcE : V.pc = pc at *
  obtain ⟨no, hno⟩ : ∃ no, no = f.ops.length := ⟨_, rfl⟩
  rw [← hno] at q2 hi ho48
  generalize V.steps = sx at *
  clear H H1 e hR hL hnr hf _hq hd hX hf2 hno hV2 hpcE
  have hp' : (pc : Int) + 1 + 1 ≤ C.length := by omega
  have z : decide ((pc : Int) ≥ C.length) = false := decide_eq_false (by omega)
  have y2 : decide ((1 : Int) > (C.length : Int) - pc - 1) = false := decide_eq_false (by omega)
  have y3 : decide ((C.length : Int) - pc - 1 < (1 : Int)) = false := decide_eq_false (by omega)
  have y4 : decide ((no : Int) < 0) = false := decide_eq_false (by omega)
  have y5 : decide (nr < 0) = false := decide_eq_false (by omega)
  go_enter Tryz.func72, Tryz.ntmps72
  go_wp2_with fail
  refine (q1 _).mono ?_
  rintro v wa ⟨rfl, rfl⟩
  go_wp2_with fail
  refine q2.mono ?_
  rintro v wa ⟨rfl, m, rfl⟩
  go_wp2_with fail
  refine (q3 _).mono ?_
  rintro v wa ⟨rfl, rfl⟩
  go_wp2_with fail
  refine (q4 m).mono ?_
  rintro v wa ⟨rfl, m2, rfl⟩
  go_wp2_with fail
  refine (q5 _).mono ?_
  rintro v wa ⟨rfl, rfl⟩
  clear q1 q2 q3 q4 q5
  go_upto_region 26 with fail
  generalize hw2 : World.setCell _ ⟨A.m, 55, none⟩ _ = w2
  have H2 : RX w2 A C I V2 S st G nf cv iv ov := by rw [← hw2]; exact HK.out (m + m2)
  have F2 : Fr (VS A) w w2 := by rw [← hw2]; exact FF.out (m + m2)
  clear hw2 c1 c2 c3 c4 hlt hz p0 HK FF z y2 y3 y4 y5 hr48 hbm hb' hc
  have eX : X = (did V2 (dupM M (f.rb + (byteAt C (pc + 1)) : Nat)).1, (dupM M (f.rb + (byteAt C (pc + 1)) : Nat)).2) := by rw [HE.out.1]; show (if (topF V2).lr ≤ (byteAt C (pc + 1)) then _ else _) = _; rw [topF_c HE.out.2.2.1, if_neg (by omega)]
  have HX2 : Hid _ := And.intro F2 (And.intro HE.out.2.1 eX)
  have hlt := H2.lt
  clear F2 eX
  have c3 := H2.r_cv
  rw [He.out] at c3
  have p1 := H2.byte He.out (i := pc + 1) (by omega)
  have b1 := H2.cb (pc + 1)
  have hq1 := localR_ld H2 HE.out.2.1 HE.out.2.2.1 _ hx hbb
  have hpi : (pc : Int) + 1 < (C.length : Int) := by omega
  have hbl := H2.blt He.out
  generalize byteAt C (pc + 1) = s at *
  clear H2 HE He
  go_wp2_with fail
  refine hq1.mono ?_
  rintro v w3 ⟨rfl, h3⟩
  go_wp2_with fail
  go_end0
  rw [HX2.out.2.2]
  exact RZ.s ⟨rfl, h3⟩ HX2.out.1
set_option maxRecDepth 100000 in
set_option maxHeartbeats 1000000 in
theorem step5n (H : RX w A C I V S st G nf cv iv ov) (hR : Rel S M) (hf : V.fs = f :: r) (hd : M.rt.length ≤ 24) (hq : f.rb + f.lr ≤ 24) (hop : byteAt C V.pc = 5) (hp : V.pc + 1 + 1 ≤ C.length) (hi : 0 ≤ f.ops.length) (hr : (1 : Int) ≤ (M.rt.length : Int) - f.rb - f.lr) (hx : f.lr ≤ (byteAt C (V.pc + 1))) : Calls Tryz.prog 72 #[.pointer (some ⟨A.m, 0, none⟩)] w (RS w A C I (execV C I 5 V.pc { V with steps := wr64 (V.steps + 1), pc := V.pc + 1 + 1 } M).1 (execV C I 5 V.pc { V with steps := wr64 (V.steps + 1), pc := V.pc + 1 + 1 } M).2 cv iv ov) := by
  obtain ⟨V2, hV2⟩ : ∃ V2 : Vs, V2 = { V with steps := wr64 (V.steps + 1), pc := V.pc + 1 + 1 } := ⟨_, rfl⟩
  rw [← hV2]
  obtain ⟨X, hX⟩ : ∃ X, X = execV C I 5 V.pc V2 M := ⟨_, rfl⟩
  rw [← hX]
  have hf2 : V2.fs = f :: r := by rw [hV2]; exact hf
  have c1 := H.r_steps
  have c2 := H.r_pc
  have c3 := H.r_cv
  have c4 := H.r_en
  have hlt := H.lt
  have hz := H.blk.frozen
  have hcl := H.cl
  obtain ⟨b, c, e, hb', hc⟩ := H.code.all (by omega)
  have hbm : b ≠ A.m := (H.cd b ⟨_, _, e⟩).1
  have He : Hid _ := e
  rw [e] at c3
  have p0 := hc V.pc (by omega)
  rw [hop] at p0
  have q1 : ∀ w, Calls Tryz.prog 42 #[.int .i64 5] w fun e w' => e = .returned (.int .i64 1) ∧ w' = w := fun w => opArgsF 5 (by omega) w
  have hL := hR.len
  have H1 := H.s_steps (wr64 (V.steps + 1))
  have q2 := iopsF H1 (f := f) (r := r) hf
  have q3 : ∀ w, Calls Tryz.prog 106 #[.int .i64 5] w fun e w' => e = .returned (.int .i64 0) ∧ w' = w := fun w => wantIF 5 (by omega) w
  have q4 := fun m => ropsF (H1.drewN m) (f := f) (r := r) hf (by omega) (by omega)
  rw [← hL] at q4
  have q5 : ∀ w, Calls Tryz.prog 107 #[.int .i64 5] w fun e w' => e = .returned (.int .i64 1) ∧ w' = w := fun w => wantRF 5 (by omega) w
  have ho48 : f.ops.length ≤ 48 := by have := (H.lays hf).2.2.2.1; have := H.s48; omega
  obtain ⟨nr, hnr⟩ : ∃ nr, nr = (M.rt.length : Int) - f.rb - f.lr := ⟨_, rfl⟩
  have hr48 : -48 ≤ nr ∧ nr ≤ 24 := by omega
  rw [← hnr] at q4 hr
  have HK : Hid (∀ m, RX _ A C I V2 S st G nf cv iv ov) := fun m => by rw [hV2]; exact (H1.drewN m).s_pc (V.pc + 1 + 1)
  have FF : Hid (∀ m, _) := fun m => (((Fr.refl (VS A) w).setC A.m 63 (.int .i64 (wr64 (V.steps + 1))) (fun _ => .inl rfl)).drewN m).setC A.m 55 (.int .i64 (V.pc + 1 + 1 : Nat)) (fun _ => .inl rfl)
  have HE : Hid (_ ∧ _) := ⟨hX, And.intro hR (And.intro hf2 (And.intro hi hr))⟩
  have HV : Hid _ := hV2
  generalize hpcE : V.pc = pc at *
  obtain ⟨no, hno⟩ : ∃ no, no = f.ops.length := ⟨_, rfl⟩
  rw [← hno] at q2 hi ho48
  generalize V.steps = sx at *
  clear H H1 e hR hL hnr hf hq hd hX hf2 hno hV2 hpcE
  have hp' : (pc : Int) + 1 + 1 ≤ C.length := by omega
  have z : decide ((pc : Int) ≥ C.length) = false := decide_eq_false (by omega)
  have y2 : decide ((1 : Int) > (C.length : Int) - pc - 1) = false := decide_eq_false (by omega)
  have y3 : decide ((C.length : Int) - pc - 1 < (1 : Int)) = false := decide_eq_false (by omega)
  have y4 : decide ((no : Int) < 0) = false := decide_eq_false (by omega)
  have y5 : decide (nr < 1) = false := decide_eq_false (by omega)
  go_enter Tryz.func72, Tryz.ntmps72
  go_wp2_with fail
  refine (q1 _).mono ?_
  rintro v wa ⟨rfl, rfl⟩
  go_wp2_with fail
  refine q2.mono ?_
  rintro v wa ⟨rfl, m, rfl⟩
  go_wp2_with fail
  refine (q3 _).mono ?_
  rintro v wa ⟨rfl, rfl⟩
  go_wp2_with fail
  refine (q4 m).mono ?_
  rintro v wa ⟨rfl, m2, rfl⟩
  go_wp2_with fail
  refine (q5 _).mono ?_
  rintro v wa ⟨rfl, rfl⟩
  clear q1 q2 q3 q4 q5
  go_upto_region 26 with fail
  generalize hw2 : World.setCell _ ⟨A.m, 55, none⟩ _ = w2
  have H2 : RX w2 A C I V2 S st G nf cv iv ov := by rw [← hw2]; exact HK.out (m + m2)
  have F2 : Fr (VS A) w w2 := by rw [← hw2]; exact FF.out (m + m2)
  clear hw2 c1 c2 c3 c4 hlt hz p0 HK FF z y2 y3 y4 y5 hr48 hbm hb' hc
  have eX : X = (V2.die 24, M) := by rw [HE.out.1]; show (if (topF V2).lr ≤ (byteAt C (pc + 1)) then _ else _) = _; rw [topF_c HE.out.2.2.1, if_pos hx]
  have HX2 : Hid _ := And.intro F2 (And.intro HE.out.2.1 eX)
  have hlt := H2.lt
  clear F2 eX
  have c3 := H2.r_cv
  rw [He.out] at c3
  have p1 := H2.byte He.out (i := pc + 1) (by omega)
  have b1 := H2.cb (pc + 1)
  have hq1 := localR_no H2 HE.out.2.1 HE.out.2.2.1 (op := 5) _ hx
  have hpi : (pc : Int) + 1 < (C.length : Int) := by omega
  have hbl := H2.blt He.out
  generalize byteAt C (pc + 1) = s at *
  clear H2 HE He
  go_wp2_with fail
  refine hq1.mono ?_
  rintro v w3 ⟨rfl, h3⟩
  go_wp2_with fail
  go_end0
  rw [HX2.out.2.2]
  exact RZ.s ⟨rfl, h3⟩ HX2.out.1
set_option maxRecDepth 100000 in
set_option maxHeartbeats 1000000 in
theorem step5 (H : RX w A C I V S st G nf cv iv ov) (hR : Rel S M) (hf : V.fs = f :: r) (hd : M.rt.length ≤ 24) (_hq : f.rb + f.lr ≤ 24) (hop : byteAt C V.pc = 5) (hp : V.pc + 1 + 1 ≤ C.length) (hi : 0 ≤ f.ops.length) (hr : (1 : Int) ≤ (M.rt.length : Int) - f.rb - f.lr) (hbb : f.rb ≤ 24 ∧ f.lr ≤ 24) (hx : (byteAt C (V.pc + 1)) < f.lr) : Calls Tryz.prog 72 #[.pointer (some ⟨A.m, 0, none⟩)] w (RS w A C I (execV C I 5 V.pc { V with steps := wr64 (V.steps + 1), pc := V.pc + 1 + 1 } M).1 (execV C I 5 V.pc { V with steps := wr64 (V.steps + 1), pc := V.pc + 1 + 1 } M).2 cv iv ov) := by
  obtain ⟨V2, hV2⟩ : ∃ V2 : Vs, V2 = { V with steps := wr64 (V.steps + 1), pc := V.pc + 1 + 1 } := ⟨_, rfl⟩
  rw [← hV2]
  obtain ⟨X, hX⟩ : ∃ X, X = execV C I 5 V.pc V2 M := ⟨_, rfl⟩
  rw [← hX]
  have hf2 : V2.fs = f :: r := by rw [hV2]; exact hf
  have c1 := H.r_steps
  have c2 := H.r_pc
  have c3 := H.r_cv
  have c4 := H.r_en
  have hlt := H.lt
  have hz := H.blk.frozen
  have hcl := H.cl
  obtain ⟨b, c, e, hb', hc⟩ := H.code.all (by omega)
  have hbm : b ≠ A.m := (H.cd b ⟨_, _, e⟩).1
  have He : Hid _ := e
  rw [e] at c3
  have p0 := hc V.pc (by omega)
  rw [hop] at p0
  have q1 : ∀ w, Calls Tryz.prog 42 #[.int .i64 5] w fun e w' => e = .returned (.int .i64 1) ∧ w' = w := fun w => opArgsF 5 (by omega) w
  have hL := hR.len
  have H1 := H.s_steps (wr64 (V.steps + 1))
  have q2 := iopsF H1 (f := f) (r := r) hf
  have q3 : ∀ w, Calls Tryz.prog 106 #[.int .i64 5] w fun e w' => e = .returned (.int .i64 0) ∧ w' = w := fun w => wantIF 5 (by omega) w
  have q4 := fun m => ropsF (H1.drewN m) (f := f) (r := r) hf (by omega) (by omega)
  rw [← hL] at q4
  have q5 : ∀ w, Calls Tryz.prog 107 #[.int .i64 5] w fun e w' => e = .returned (.int .i64 1) ∧ w' = w := fun w => wantRF 5 (by omega) w
  have ho48 : f.ops.length ≤ 48 := by have := (H.lays hf).2.2.2.1; have := H.s48; omega
  obtain ⟨nr, hnr⟩ : ∃ nr, nr = (M.rt.length : Int) - f.rb - f.lr := ⟨_, rfl⟩
  have hr48 : -48 ≤ nr ∧ nr ≤ 24 := by omega
  rw [← hnr] at q4 hr
  have HK : Hid (∀ m, RX _ A C I V2 S st G nf cv iv ov) := fun m => by rw [hV2]; exact (H1.drewN m).s_pc (V.pc + 1 + 1)
  have FF : Hid (∀ m, _) := fun m => (((Fr.refl (VS A) w).setC A.m 63 (.int .i64 (wr64 (V.steps + 1))) (fun _ => .inl rfl)).drewN m).setC A.m 55 (.int .i64 (V.pc + 1 + 1 : Nat)) (fun _ => .inl rfl)
  have HE : Hid (_ ∧ _) := ⟨hX, And.intro hR (And.intro hf2 (And.intro hi hr))⟩
  have HV : Hid _ := hV2
  generalize hpcE : V.pc = pc at *
  obtain ⟨no, hno⟩ : ∃ no, no = f.ops.length := ⟨_, rfl⟩
  rw [← hno] at q2 hi ho48
  generalize V.steps = sx at *
  clear H H1 e hR hL hnr hf _hq hd hX hf2 hno hV2 hpcE
  have hp' : (pc : Int) + 1 + 1 ≤ C.length := by omega
  have z : decide ((pc : Int) ≥ C.length) = false := decide_eq_false (by omega)
  have y2 : decide ((1 : Int) > (C.length : Int) - pc - 1) = false := decide_eq_false (by omega)
  have y3 : decide ((C.length : Int) - pc - 1 < (1 : Int)) = false := decide_eq_false (by omega)
  have y4 : decide ((no : Int) < 0) = false := decide_eq_false (by omega)
  have y5 : decide (nr < 1) = false := decide_eq_false (by omega)
  go_enter Tryz.func72, Tryz.ntmps72
  go_wp2_with fail
  refine (q1 _).mono ?_
  rintro v wa ⟨rfl, rfl⟩
  go_wp2_with fail
  refine q2.mono ?_
  rintro v wa ⟨rfl, m, rfl⟩
  go_wp2_with fail
  refine (q3 _).mono ?_
  rintro v wa ⟨rfl, rfl⟩
  go_wp2_with fail
  refine (q4 m).mono ?_
  rintro v wa ⟨rfl, m2, rfl⟩
  go_wp2_with fail
  refine (q5 _).mono ?_
  rintro v wa ⟨rfl, rfl⟩
  clear q1 q2 q3 q4 q5
  go_upto_region 26 with fail
  generalize hw2 : World.setCell _ ⟨A.m, 55, none⟩ _ = w2
  have H2 : RX w2 A C I V2 S st G nf cv iv ov := by rw [← hw2]; exact HK.out (m + m2)
  have F2 : Fr (VS A) w w2 := by rw [← hw2]; exact FF.out (m + m2)
  clear hw2 c1 c2 c3 c4 hlt hz p0 HK FF z y2 y3 y4 y5 hr48 hbm hb' hc
  have eX : X = (V2, (setM M (f.rb + (byteAt C (pc + 1)) : Nat)).2) := by rw [HE.out.1]; show (if (topF V2).lr ≤ (byteAt C (pc + 1)) then _ else _) = _; rw [topF_c HE.out.2.2.1, if_neg (by omega)]
  have HX2 : Hid _ := And.intro F2 (And.intro HE.out.2.1 eX)
  have hlt := H2.lt
  clear F2 eX
  have c3 := H2.r_cv
  rw [He.out] at c3
  have p1 := H2.byte He.out (i := pc + 1) (by omega)
  have b1 := H2.cb (pc + 1)
  have hq1 := localR_st H2 HE.out.2.1 HE.out.2.2.1 _ hx hbb
  have hpi : (pc : Int) + 1 < (C.length : Int) := by omega
  have hbl := H2.blt He.out
  generalize byteAt C (pc + 1) = s at *
  clear H2 HE He
  go_wp2_with fail
  refine hq1.mono ?_
  rintro v w3 ⟨rfl, h3⟩
  go_wp2_with fail
  go_end0
  rw [HX2.out.2.2]
  exact RZ.s ⟨rfl, h3⟩ HX2.out.1
end
end Go.Proofs.Qxb6500277aGreat
