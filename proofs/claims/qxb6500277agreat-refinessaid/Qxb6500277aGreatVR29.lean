/- The real machine: steps (written by genVR26.py). -/
import Derived.Test.Qxb6500277aGreatVR26
namespace Go.Proofs.Qxb6500277aGreat
open Go Go.RowKit

section
variable {w w' w0 : World} {A : Va} {C : List Nat} {I : List Int} {V V' : Vs} {S S' : HS} {M M' : MS} {st st' : Nat → Int} {G : Gx} {nf : Nat} {cv iv ov : Value} {f : Fm} {r : List Fm} {e : Ending}
set_option maxRecDepth 100000 in
set_option maxHeartbeats 1000000 in
theorem step32n (H : RX w A C I V S st G nf cv iv ov) (hR : Rel S M) (hf : V.fs = f :: r) (hd : M.rt.length ≤ 24) (hq : f.rb + f.lr ≤ 24) (hop : byteAt C V.pc = 32) (hp : V.pc + 1 + 0 ≤ C.length) (hi : 2 ≤ f.ops.length) (hr : (1 : Int) ≤ (M.rt.length : Int) - f.rb - f.lr) (hx : (stIntM M ((M.rt.length : Int) - 1) (opn V 1) (opn V 0)).1 ≠ 0) : Calls Tryz.prog 72 #[.pointer (some ⟨A.m, 0, none⟩)] w (RS w A C I (execV C I 32 V.pc { V with steps := wr64 (V.steps + 1), pc := V.pc + 1 + 0 } M).1 (execV C I 32 V.pc { V with steps := wr64 (V.steps + 1), pc := V.pc + 1 + 0 } M).2 cv iv ov) := by
  obtain ⟨V2, hV2⟩ : ∃ V2 : Vs, V2 = { V with steps := wr64 (V.steps + 1), pc := V.pc + 1 + 0 } := ⟨_, rfl⟩
  rw [← hV2]
  obtain ⟨X, hX⟩ : ∃ X, X = execV C I 32 V.pc V2 M := ⟨_, rfl⟩
  rw [← hX]
  have hf2 : V2.fs = f :: r := by rw [hV2]; exact hf
  have c1 := H.r_steps
  have c2 := H.r_pc
  have c3 := H.r_cv
  have c4 := H.r_en
  have hlt := H.lt
  have hz := H.blk.frozen
  have hcl := H.cl
  obtain ⟨b, c, e, hb', hc⟩ := H.code.all (by omega)
  have hbm : b ≠ A.m := (H.cd b ⟨_, _, e⟩).1
  have He : Hid _ := e
  rw [e] at c3
  have p0 := hc V.pc (by omega)
  rw [hop] at p0
  have q1 : ∀ w, Calls Tryz.prog 42 #[.int .i64 32] w fun e w' => e = .returned (.int .i64 0) ∧ w' = w := fun w => opArgsF 32 (by omega) w
  have hL := hR.len
  have H1 := H.s_steps (wr64 (V.steps + 1))
  have q2 := iopsF H1 (f := f) (r := r) hf
  have q3 : ∀ w, Calls Tryz.prog 106 #[.int .i64 32] w fun e w' => e = .returned (.int .i64 2) ∧ w' = w := fun w => wantIF 32 (by omega) w
  have q4 := fun m => ropsF (H1.drewN m) (f := f) (r := r) hf (by omega) (by omega)
  rw [← hL] at q4
  have q5 : ∀ w, Calls Tryz.prog 107 #[.int .i64 32] w fun e w' => e = .returned (.int .i64 1) ∧ w' = w := fun w => wantRF 32 (by omega) w
  have ho48 : f.ops.length ≤ 48 := by have := (H.lays hf).2.2.2.1; have := H.s48; omega
  obtain ⟨nr, hnr⟩ : ∃ nr, nr = (M.rt.length : Int) - f.rb - f.lr := ⟨_, rfl⟩
  have hr48 : -48 ≤ nr ∧ nr ≤ 24 := by omega
  rw [← hnr] at q4 hr
  have HK : Hid (∀ m, RX _ A C I V2 S st G nf cv iv ov) := fun m => by rw [hV2]; exact (H1.drewN m).s_pc (V.pc + 1 + 0)
  have FF : Hid (∀ m, _) := fun m => (((Fr.refl (VS A) w).setC A.m 63 (.int .i64 (wr64 (V.steps + 1))) (fun _ => .inl rfl)).drewN m).setC A.m 55 (.int .i64 (V.pc + 1 + 0 : Nat)) (fun _ => .inl rfl)
  have HE : Hid (_ ∧ _) := ⟨hX, And.intro hR (And.intro hf2 (And.intro hi hr))⟩
  have HV : Hid _ := hV2
  generalize hpcE : V.pc = pc at *
  obtain ⟨no, hno⟩ : ∃ no, no = f.ops.length := ⟨_, rfl⟩
  rw [← hno] at q2 hi ho48
  generalize V.steps = sx at *
  clear H H1 e hR hL hnr hf hq hd hX hf2 hno hV2 hpcE
  have hp' : (pc : Int) + 1 + 0 ≤ C.length := by omega
  have z : decide ((pc : Int) ≥ C.length) = false := decide_eq_false (by omega)
  have y2 : decide ((0 : Int) > (C.length : Int) - pc - 1) = false := decide_eq_false (by omega)
  have y3 : decide ((C.length : Int) - pc - 1 < (0 : Int)) = false := decide_eq_false (by omega)
  have y4 : decide ((no : Int) < 2) = false := decide_eq_false (by omega)
  have y5 : decide (nr < 1) = false := decide_eq_false (by omega)
  go_enter Tryz.func72, Tryz.ntmps72
  go_wp2_with fail
  refine (q1 _).mono ?_
  rintro v wa ⟨rfl, rfl⟩
  go_wp2_with fail
  refine q2.mono ?_
  rintro v wa ⟨rfl, m, rfl⟩
  go_wp2_with fail
  refine (q3 _).mono ?_
  rintro v wa ⟨rfl, rfl⟩
  go_wp2_with fail
  refine (q4 m).mono ?_
  rintro v wa ⟨rfl, m2, rfl⟩
  go_wp2_with fail
  refine (q5 _).mono ?_
  rintro v wa ⟨rfl, rfl⟩
  clear q1 q2 q3 q4 q5
  go_upto_region 79 with fail
  generalize hw2 : World.setCell _ ⟨A.m, 55, none⟩ _ = w2
  have H2 : RX w2 A C I V2 S st G nf cv iv ov := by rw [← hw2]; exact HK.out (m + m2)
  have F2 : Fr (VS A) w w2 := by rw [← hw2]; exact FF.out (m + m2)
  clear hw2 c1 c2 c3 c4 hlt hz p0 HK FF z y2 y3 y4 y5 hr48 hbm hb' hc
  have eX : X = ((dropO V2 2).die (endOf (stIntM M ((M.rt.length : Int) - 1) (opn V2 1) (opn V2 0)).1), (stIntM M ((M.rt.length : Int) - 1) (opn V2 1) (opn V2 0)).2) := by rw [HE.out.1]; show (if (stIntM M ((M.rt.length : Int) - 1) (opn V2 1) (opn V2 0)).1 = 0 then _ else _) = _; rw [if_neg (by rw [HV.out]; exact hx)]
  have hq1 := set32_no H2 HE.out.2.1 HE.out.2.2.1 HE.out.2.2.2.1 (by rw [HV.out]; exact hx)
  have HX2 : Hid _ := And.intro F2 (And.intro HE.out.2.1 eX)
  have hlt := H2.lt
  clear H2 F2 eX HE
  go_wp2_with fail
  refine hq1.mono ?_
  rintro v w3 ⟨rfl, h3⟩
  go_wp2_with fail
  go_end0
  rw [HX2.out.2.2]
  exact RZ.s ⟨rfl, h3⟩ HX2.out.1
set_option maxRecDepth 100000 in
set_option maxHeartbeats 1000000 in
theorem step32 (H : RX w A C I V S st G nf cv iv ov) (hR : Rel S M) (hf : V.fs = f :: r) (hd : M.rt.length ≤ 24) (hq : f.rb + f.lr ≤ 24) (hop : byteAt C V.pc = 32) (hp : V.pc + 1 + 0 ≤ C.length) (hi : 2 ≤ f.ops.length) (hr : (1 : Int) ≤ (M.rt.length : Int) - f.rb - f.lr) (hx : (stIntM M ((M.rt.length : Int) - 1) (opn V 1) (opn V 0)).1 = 0) : Calls Tryz.prog 72 #[.pointer (some ⟨A.m, 0, none⟩)] w (RS w A C I (execV C I 32 V.pc { V with steps := wr64 (V.steps + 1), pc := V.pc + 1 + 0 } M).1 (execV C I 32 V.pc { V with steps := wr64 (V.steps + 1), pc := V.pc + 1 + 0 } M).2 cv iv ov) := by
  obtain ⟨V2, hV2⟩ : ∃ V2 : Vs, V2 = { V with steps := wr64 (V.steps + 1), pc := V.pc + 1 + 0 } := ⟨_, rfl⟩
  rw [← hV2]
  obtain ⟨X, hX⟩ : ∃ X, X = execV C I 32 V.pc V2 M := ⟨_, rfl⟩
  rw [← hX]
  have hf2 : V2.fs = f :: r := by rw [hV2]; exact hf
  have c1 := H.r_steps
  have c2 := H.r_pc
  have c3 := H.r_cv
  have c4 := H.r_en
  have hlt := H.lt
  have hz := H.blk.frozen
  have hcl := H.cl
  obtain ⟨b, c, e, hb', hc⟩ := H.code.all (by omega)
  have hbm : b ≠ A.m := (H.cd b ⟨_, _, e⟩).1
  have He : Hid _ := e
  rw [e] at c3
  have p0 := hc V.pc (by omega)
  rw [hop] at p0
  have q1 : ∀ w, Calls Tryz.prog 42 #[.int .i64 32] w fun e w' => e = .returned (.int .i64 0) ∧ w' = w := fun w => opArgsF 32 (by omega) w
  have hL := hR.len
  have H1 := H.s_steps (wr64 (V.steps + 1))
  have q2 := iopsF H1 (f := f) (r := r) hf
  have q3 : ∀ w, Calls Tryz.prog 106 #[.int .i64 32] w fun e w' => e = .returned (.int .i64 2) ∧ w' = w := fun w => wantIF 32 (by omega) w
  have q4 := fun m => ropsF (H1.drewN m) (f := f) (r := r) hf (by omega) (by omega)
  rw [← hL] at q4
  have q5 : ∀ w, Calls Tryz.prog 107 #[.int .i64 32] w fun e w' => e = .returned (.int .i64 1) ∧ w' = w := fun w => wantRF 32 (by omega) w
  have ho48 : f.ops.length ≤ 48 := by have := (H.lays hf).2.2.2.1; have := H.s48; omega
  obtain ⟨nr, hnr⟩ : ∃ nr, nr = (M.rt.length : Int) - f.rb - f.lr := ⟨_, rfl⟩
  have hr48 : -48 ≤ nr ∧ nr ≤ 24 := by omega
  rw [← hnr] at q4 hr
  have HK : Hid (∀ m, RX _ A C I V2 S st G nf cv iv ov) := fun m => by rw [hV2]; exact (H1.drewN m).s_pc (V.pc + 1 + 0)
  have FF : Hid (∀ m, _) := fun m => (((Fr.refl (VS A) w).setC A.m 63 (.int .i64 (wr64 (V.steps + 1))) (fun _ => .inl rfl)).drewN m).setC A.m 55 (.int .i64 (V.pc + 1 + 0 : Nat)) (fun _ => .inl rfl)
  have HE : Hid (_ ∧ _) := ⟨hX, And.intro hR (And.intro hf2 (And.intro hi hr))⟩
  have HV : Hid _ := hV2
  generalize hpcE : V.pc = pc at *
  obtain ⟨no, hno⟩ : ∃ no, no = f.ops.length := ⟨_, rfl⟩
  rw [← hno] at q2 hi ho48
  generalize V.steps = sx at *
  clear H H1 e hR hL hnr hf hq hd hX hf2 hno hV2 hpcE
  have hp' : (pc : Int) + 1 + 0 ≤ C.length := by omega
  have z : decide ((pc : Int) ≥ C.length) = false := decide_eq_false (by omega)
  have y2 : decide ((0 : Int) > (C.length : Int) - pc - 1) = false := decide_eq_false (by omega)
  have y3 : decide ((C.length : Int) - pc - 1 < (0 : Int)) = false := decide_eq_false (by omega)
  have y4 : decide ((no : Int) < 2) = false := decide_eq_false (by omega)
  have y5 : decide (nr < 1) = false := decide_eq_false (by omega)
  go_enter Tryz.func72, Tryz.ntmps72
  go_wp2_with fail
  refine (q1 _).mono ?_
  rintro v wa ⟨rfl, rfl⟩
  go_wp2_with fail
  refine q2.mono ?_
  rintro v wa ⟨rfl, m, rfl⟩
  go_wp2_with fail
  refine (q3 _).mono ?_
  rintro v wa ⟨rfl, rfl⟩
  go_wp2_with fail
  refine (q4 m).mono ?_
  rintro v wa ⟨rfl, m2, rfl⟩
  go_wp2_with fail
  refine (q5 _).mono ?_
  rintro v wa ⟨rfl, rfl⟩
  clear q1 q2 q3 q4 q5
  go_upto_region 79 with fail
  generalize hw2 : World.setCell _ ⟨A.m, 55, none⟩ _ = w2
  have H2 : RX w2 A C I V2 S st G nf cv iv ov := by rw [← hw2]; exact HK.out (m + m2)
  have F2 : Fr (VS A) w w2 := by rw [← hw2]; exact FF.out (m + m2)
  clear hw2 c1 c2 c3 c4 hlt hz p0 HK FF z y2 y3 y4 y5 hr48 hbm hb' hc
  have eX : X = (dropO V2 2, (popM (stIntM M ((M.rt.length : Int) - 1) (opn V2 1) (opn V2 0)).2 1).2) := by rw [HE.out.1]; show (if (stIntM M ((M.rt.length : Int) - 1) (opn V2 1) (opn V2 0)).1 = 0 then _ else _) = _; rw [if_pos (by rw [HV.out]; exact hx)]
  have hq1 := set32_ok H2 HE.out.2.1 HE.out.2.2.1 HE.out.2.2.2.1 (by rw [HV.out]; exact hx)
  have HX2 : Hid _ := And.intro F2 (And.intro HE.out.2.1 eX)
  have hlt := H2.lt
  clear H2 F2 eX HE
  go_wp2_with fail
  refine hq1.mono ?_
  rintro v w3 ⟨rfl, h3⟩
  go_wp2_with fail
  go_end0
  rw [HX2.out.2.2]
  exact RZ.s ⟨rfl, h3⟩ HX2.out.1
set_option maxRecDepth 100000 in
set_option maxHeartbeats 1000000 in
theorem step33n (H : RX w A C I V S st G nf cv iv ov) (hR : Rel S M) (hf : V.fs = f :: r) (hd : M.rt.length ≤ 24) (hq : f.rb + f.lr ≤ 24) (hop : byteAt C V.pc = 33) (hp : V.pc + 1 + 0 ≤ C.length) (hi : 1 ≤ f.ops.length) (hr : (2 : Int) ≤ (M.rt.length : Int) - f.rb - f.lr) (hx : (stRefM M ((M.rt.length : Int) - 2) (opn V 0) ((M.rt.length : Int) - 1)).1 ≠ 0) : Calls Tryz.prog 72 #[.pointer (some ⟨A.m, 0, none⟩)] w (RS w A C I (execV C I 33 V.pc { V with steps := wr64 (V.steps + 1), pc := V.pc + 1 + 0 } M).1 (execV C I 33 V.pc { V with steps := wr64 (V.steps + 1), pc := V.pc + 1 + 0 } M).2 cv iv ov) := by
  obtain ⟨V2, hV2⟩ : ∃ V2 : Vs, V2 = { V with steps := wr64 (V.steps + 1), pc := V.pc + 1 + 0 } := ⟨_, rfl⟩
  rw [← hV2]
  obtain ⟨X, hX⟩ : ∃ X, X = execV C I 33 V.pc V2 M := ⟨_, rfl⟩
  rw [← hX]
  have hf2 : V2.fs = f :: r := by rw [hV2]; exact hf
  have c1 := H.r_steps
  have c2 := H.r_pc
  have c3 := H.r_cv
  have c4 := H.r_en
  have hlt := H.lt
  have hz := H.blk.frozen
  have hcl := H.cl
  obtain ⟨b, c, e, hb', hc⟩ := H.code.all (by omega)
  have hbm : b ≠ A.m := (H.cd b ⟨_, _, e⟩).1
  have He : Hid _ := e
  rw [e] at c3
  have p0 := hc V.pc (by omega)
  rw [hop] at p0
  have q1 : ∀ w, Calls Tryz.prog 42 #[.int .i64 33] w fun e w' => e = .returned (.int .i64 0) ∧ w' = w := fun w => opArgsF 33 (by omega) w
  have hL := hR.len
  have H1 := H.s_steps (wr64 (V.steps + 1))
  have q2 := iopsF H1 (f := f) (r := r) hf
  have q3 : ∀ w, Calls Tryz.prog 106 #[.int .i64 33] w fun e w' => e = .returned (.int .i64 1) ∧ w' = w := fun w => wantIF 33 (by omega) w
  have q4 := fun m => ropsF (H1.drewN m) (f := f) (r := r) hf (by omega) (by omega)
  rw [← hL] at q4
  have q5 : ∀ w, Calls Tryz.prog 107 #[.int .i64 33] w fun e w' => e = .returned (.int .i64 2) ∧ w' = w := fun w => wantRF 33 (by omega) w
  have ho48 : f.ops.length ≤ 48 := by have := (H.lays hf).2.2.2.1; have := H.s48; omega
  obtain ⟨nr, hnr⟩ : ∃ nr, nr = (M.rt.length : Int) - f.rb - f.lr := ⟨_, rfl⟩
  have hr48 : -48 ≤ nr ∧ nr ≤ 24 := by omega
  rw [← hnr] at q4 hr
  have HK : Hid (∀ m, RX _ A C I V2 S st G nf cv iv ov) := fun m => by rw [hV2]; exact (H1.drewN m).s_pc (V.pc + 1 + 0)
  have FF : Hid (∀ m, _) := fun m => (((Fr.refl (VS A) w).setC A.m 63 (.int .i64 (wr64 (V.steps + 1))) (fun _ => .inl rfl)).drewN m).setC A.m 55 (.int .i64 (V.pc + 1 + 0 : Nat)) (fun _ => .inl rfl)
  have HE : Hid (_ ∧ _) := ⟨hX, And.intro hR (And.intro hf2 (And.intro hi hr))⟩
  have HV : Hid _ := hV2
  generalize hpcE : V.pc = pc at *
  obtain ⟨no, hno⟩ : ∃ no, no = f.ops.length := ⟨_, rfl⟩
  rw [← hno] at q2 hi ho48
  generalize V.steps = sx at *
  clear H H1 e hR hL hnr hf hq hd hX hf2 hno hV2 hpcE
  have hp' : (pc : Int) + 1 + 0 ≤ C.length := by omega
  have z : decide ((pc : Int) ≥ C.length) = false := decide_eq_false (by omega)
  have y2 : decide ((0 : Int) > (C.length : Int) - pc - 1) = false := decide_eq_false (by omega)
  have y3 : decide ((C.length : Int) - pc - 1 < (0 : Int)) = false := decide_eq_false (by omega)
  have y4 : decide ((no : Int) < 1) = false := decide_eq_false (by omega)
  have y5 : decide (nr < 2) = false := decide_eq_false (by omega)
  go_enter Tryz.func72, Tryz.ntmps72
  go_wp2_with fail
  refine (q1 _).mono ?_
  rintro v wa ⟨rfl, rfl⟩
  go_wp2_with fail
  refine q2.mono ?_
  rintro v wa ⟨rfl, m, rfl⟩
  go_wp2_with fail
  refine (q3 _).mono ?_
  rintro v wa ⟨rfl, rfl⟩
  go_wp2_with fail
  refine (q4 m).mono ?_
  rintro v wa ⟨rfl, m2, rfl⟩
  go_wp2_with fail
  refine (q5 _).mono ?_
  rintro v wa ⟨rfl, rfl⟩
  clear q1 q2 q3 q4 q5
  go_upto_region 79 with fail
  generalize hw2 : World.setCell _ ⟨A.m, 55, none⟩ _ = w2
  have H2 : RX w2 A C I V2 S st G nf cv iv ov := by rw [← hw2]; exact HK.out (m + m2)
  have F2 : Fr (VS A) w w2 := by rw [← hw2]; exact FF.out (m + m2)
  clear hw2 c1 c2 c3 c4 hlt hz p0 HK FF z y2 y3 y4 y5 hr48 hbm hb' hc
  have eX : X = ((dropO V2 1).die (endOf (stRefM M ((M.rt.length : Int) - 2) (opn V2 0) ((M.rt.length : Int) - 1)).1), (stRefM M ((M.rt.length : Int) - 2) (opn V2 0) ((M.rt.length : Int) - 1)).2) := by rw [HE.out.1]; show (if (stRefM M ((M.rt.length : Int) - 2) (opn V2 0) ((M.rt.length : Int) - 1)).1 = 0 then _ else _) = _; rw [if_neg (by rw [HV.out]; exact hx)]
  have hq1 := set33_no H2 HE.out.2.1 HE.out.2.2.1 HE.out.2.2.2.1 (by rw [HV.out]; exact hx)
  have HX2 : Hid _ := And.intro F2 (And.intro HE.out.2.1 eX)
  have hlt := H2.lt
  clear H2 F2 eX HE
  go_wp2_with fail
  refine hq1.mono ?_
  rintro v w3 ⟨rfl, h3⟩
  go_wp2_with fail
  go_end0
  rw [HX2.out.2.2]
  exact RZ.s ⟨rfl, h3⟩ HX2.out.1
set_option maxRecDepth 100000 in
set_option maxHeartbeats 1000000 in
theorem step33 (H : RX w A C I V S st G nf cv iv ov) (hR : Rel S M) (hf : V.fs = f :: r) (hd : M.rt.length ≤ 24) (hq : f.rb + f.lr ≤ 24) (hop : byteAt C V.pc = 33) (hp : V.pc + 1 + 0 ≤ C.length) (hi : 1 ≤ f.ops.length) (hr : (2 : Int) ≤ (M.rt.length : Int) - f.rb - f.lr) (hx : (stRefM M ((M.rt.length : Int) - 2) (opn V 0) ((M.rt.length : Int) - 1)).1 = 0) : Calls Tryz.prog 72 #[.pointer (some ⟨A.m, 0, none⟩)] w (RS w A C I (execV C I 33 V.pc { V with steps := wr64 (V.steps + 1), pc := V.pc + 1 + 0 } M).1 (execV C I 33 V.pc { V with steps := wr64 (V.steps + 1), pc := V.pc + 1 + 0 } M).2 cv iv ov) := by
  obtain ⟨V2, hV2⟩ : ∃ V2 : Vs, V2 = { V with steps := wr64 (V.steps + 1), pc := V.pc + 1 + 0 } := ⟨_, rfl⟩
  rw [← hV2]
  obtain ⟨X, hX⟩ : ∃ X, X = execV C I 33 V.pc V2 M := ⟨_, rfl⟩
  rw [← hX]
  have hf2 : V2.fs = f :: r := by rw [hV2]; exact hf
  have c1 := H.r_steps
  have c2 := H.r_pc
  have c3 := H.r_cv
  have c4 := H.r_en
  have hlt := H.lt
  have hz := H.blk.frozen
  have hcl := H.cl
  obtain ⟨b, c, e, hb', hc⟩ := H.code.all (by omega)
  have hbm : b ≠ A.m := (H.cd b ⟨_, _, e⟩).1
  have He : Hid _ := e
  rw [e] at c3
  have p0 := hc V.pc (by omega)
  rw [hop] at p0
  have q1 : ∀ w, Calls Tryz.prog 42 #[.int .i64 33] w fun e w' => e = .returned (.int .i64 0) ∧ w' = w := fun w => opArgsF 33 (by omega) w
  have hL := hR.len
  have H1 := H.s_steps (wr64 (V.steps + 1))
  have q2 := iopsF H1 (f := f) (r := r) hf
  have q3 : ∀ w, Calls Tryz.prog 106 #[.int .i64 33] w fun e w' => e = .returned (.int .i64 1) ∧ w' = w := fun w => wantIF 33 (by omega) w
  have q4 := fun m => ropsF (H1.drewN m) (f := f) (r := r) hf (by omega) (by omega)
  rw [← hL] at q4
  have q5 : ∀ w, Calls Tryz.prog 107 #[.int .i64 33] w fun e w' => e = .returned (.int .i64 2) ∧ w' = w := fun w => wantRF 33 (by omega) w
  have ho48 : f.ops.length ≤ 48 := by have := (H.lays hf).2.2.2.1; have := H.s48; omega
  obtain ⟨nr, hnr⟩ : ∃ nr, nr = (M.rt.length : Int) - f.rb - f.lr := ⟨_, rfl⟩
  have hr48 : -48 ≤ nr ∧ nr ≤ 24 := by omega
  rw [← hnr] at q4 hr
  have HK : Hid (∀ m, RX _ A C I V2 S st G nf cv iv ov) := fun m => by rw [hV2]; exact (H1.drewN m).s_pc (V.pc + 1 + 0)
  have FF : Hid (∀ m, _) := fun m => (((Fr.refl (VS A) w).setC A.m 63 (.int .i64 (wr64 (V.steps + 1))) (fun _ => .inl rfl)).drewN m).setC A.m 55 (.int .i64 (V.pc + 1 + 0 : Nat)) (fun _ => .inl rfl)
  have HE : Hid (_ ∧ _) := ⟨hX, And.intro hR (And.intro hf2 (And.intro hi hr))⟩
  have HV : Hid _ := hV2
  generalize hpcE : V.pc = pc at *
  obtain ⟨no, hno⟩ : ∃ no, no = f.ops.length := ⟨_, rfl⟩
  rw [← hno] at q2 hi ho48
  generalize V.steps = sx at *
  clear H H1 e hR hL hnr hf hq hd hX hf2 hno hV2 hpcE
  have hp' : (pc : Int) + 1 + 0 ≤ C.length := by omega
  have z : decide ((pc : Int) ≥ C.length) = false := decide_eq_false (by omega)
  have y2 : decide ((0 : Int) > (C.length : Int) - pc - 1) = false := decide_eq_false (by omega)
  have y3 : decide ((C.length : Int) - pc - 1 < (0 : Int)) = false := decide_eq_false (by omega)
  have y4 : decide ((no : Int) < 1) = false := decide_eq_false (by omega)
  have y5 : decide (nr < 2) = false := decide_eq_false (by omega)
  go_enter Tryz.func72, Tryz.ntmps72
  go_wp2_with fail
  refine (q1 _).mono ?_
  rintro v wa ⟨rfl, rfl⟩
  go_wp2_with fail
  refine q2.mono ?_
  rintro v wa ⟨rfl, m, rfl⟩
  go_wp2_with fail
  refine (q3 _).mono ?_
  rintro v wa ⟨rfl, rfl⟩
  go_wp2_with fail
  refine (q4 m).mono ?_
  rintro v wa ⟨rfl, m2, rfl⟩
  go_wp2_with fail
  refine (q5 _).mono ?_
  rintro v wa ⟨rfl, rfl⟩
  clear q1 q2 q3 q4 q5
  go_upto_region 79 with fail
  generalize hw2 : World.setCell _ ⟨A.m, 55, none⟩ _ = w2
  have H2 : RX w2 A C I V2 S st G nf cv iv ov := by rw [← hw2]; exact HK.out (m + m2)
  have F2 : Fr (VS A) w w2 := by rw [← hw2]; exact FF.out (m + m2)
  clear hw2 c1 c2 c3 c4 hlt hz p0 HK FF z y2 y3 y4 y5 hr48 hbm hb' hc
  have eX : X = (dropO V2 1, (popM (stRefM M ((M.rt.length : Int) - 2) (opn V2 0) ((M.rt.length : Int) - 1)).2 2).2) := by rw [HE.out.1]; show (if (stRefM M ((M.rt.length : Int) - 2) (opn V2 0) ((M.rt.length : Int) - 1)).1 = 0 then _ else _) = _; rw [if_pos (by rw [HV.out]; exact hx)]
  have hq1 := set33_ok H2 HE.out.2.1 HE.out.2.2.1 HE.out.2.2.2.1 (by rw [HV.out]; exact hx)
  have HX2 : Hid _ := And.intro F2 (And.intro HE.out.2.1 eX)
  have hlt := H2.lt
  clear H2 F2 eX HE
  go_wp2_with fail
  refine hq1.mono ?_
  rintro v w3 ⟨rfl, h3⟩
  go_wp2_with fail
  go_end0
  rw [HX2.out.2.2]
  exact RZ.s ⟨rfl, h3⟩ HX2.out.1
set_option maxRecDepth 100000 in
set_option maxHeartbeats 1000000 in
theorem step34n (H : RX w A C I V S st G nf cv iv ov) (hR : Rel S M) (hf : V.fs = f :: r) (hd : M.rt.length ≤ 24) (hq : f.rb + f.lr ≤ 24) (hop : byteAt C V.pc = 34) (hp : V.pc + 1 + 0 ≤ C.length) (hi : 0 ≤ f.ops.length) (hr : (1 : Int) ≤ (M.rt.length : Int) - f.rb - f.lr) (hx : (lenM M ((M.rt.length : Int) - 1)).2.2 ≠ 0) : Calls Tryz.prog 72 #[.pointer (some ⟨A.m, 0, none⟩)] w (RS w A C I (execV C I 34 V.pc { V with steps := wr64 (V.steps + 1), pc := V.pc + 1 + 0 } M).1 (execV C I 34 V.pc { V with steps := wr64 (V.steps + 1), pc := V.pc + 1 + 0 } M).2 cv iv ov) := by
  obtain ⟨V2, hV2⟩ : ∃ V2 : Vs, V2 = { V with steps := wr64 (V.steps + 1), pc := V.pc + 1 + 0 } := ⟨_, rfl⟩
  rw [← hV2]
  obtain ⟨X, hX⟩ : ∃ X, X = execV C I 34 V.pc V2 M := ⟨_, rfl⟩
  rw [← hX]
  have hf2 : V2.fs = f :: r := by rw [hV2]; exact hf
  have c1 := H.r_steps
  have c2 := H.r_pc
  have c3 := H.r_cv
  have c4 := H.r_en
  have hlt := H.lt
  have hz := H.blk.frozen
  have hcl := H.cl
  obtain ⟨b, c, e, hb', hc⟩ := H.code.all (by omega)
  have hbm : b ≠ A.m := (H.cd b ⟨_, _, e⟩).1
  have He : Hid _ := e
  rw [e] at c3
  have p0 := hc V.pc (by omega)
  rw [hop] at p0
  have q1 : ∀ w, Calls Tryz.prog 42 #[.int .i64 34] w fun e w' => e = .returned (.int .i64 0) ∧ w' = w := fun w => opArgsF 34 (by omega) w
  have hL := hR.len
  have H1 := H.s_steps (wr64 (V.steps + 1))
  have q2 := iopsF H1 (f := f) (r := r) hf
  have q3 : ∀ w, Calls Tryz.prog 106 #[.int .i64 34] w fun e w' => e = .returned (.int .i64 0) ∧ w' = w := fun w => wantIF 34 (by omega) w
  have q4 := fun m => ropsF (H1.drewN m) (f := f) (r := r) hf (by omega) (by omega)
  rw [← hL] at q4
  have q5 : ∀ w, Calls Tryz.prog 107 #[.int .i64 34] w fun e w' => e = .returned (.int .i64 1) ∧ w' = w := fun w => wantRF 34 (by omega) w
  have ho48 : f.ops.length ≤ 48 := by have := (H.lays hf).2.2.2.1; have := H.s48; omega
  obtain ⟨nr, hnr⟩ : ∃ nr, nr = (M.rt.length : Int) - f.rb - f.lr := ⟨_, rfl⟩
  have hr48 : -48 ≤ nr ∧ nr ≤ 24 := by omega
  rw [← hnr] at q4 hr
  have HK : Hid (∀ m, RX _ A C I V2 S st G nf cv iv ov) := fun m => by rw [hV2]; exact (H1.drewN m).s_pc (V.pc + 1 + 0)
  have FF : Hid (∀ m, _) := fun m => (((Fr.refl (VS A) w).setC A.m 63 (.int .i64 (wr64 (V.steps + 1))) (fun _ => .inl rfl)).drewN m).setC A.m 55 (.int .i64 (V.pc + 1 + 0 : Nat)) (fun _ => .inl rfl)
  have HE : Hid (_ ∧ _) := ⟨hX, And.intro hR (And.intro hf2 (And.intro hi hr))⟩
  have HV : Hid _ := hV2
  generalize hpcE : V.pc = pc at *
  obtain ⟨no, hno⟩ : ∃ no, no = f.ops.length := ⟨_, rfl⟩
  rw [← hno] at q2 hi ho48
  generalize V.steps = sx at *
  clear H H1 e hR hL hnr hf hq hd hX hf2 hno hV2 hpcE
  have hp' : (pc : Int) + 1 + 0 ≤ C.length := by omega
  have z : decide ((pc : Int) ≥ C.length) = false := decide_eq_false (by omega)
  have y2 : decide ((0 : Int) > (C.length : Int) - pc - 1) = false := decide_eq_false (by omega)
  have y3 : decide ((C.length : Int) - pc - 1 < (0 : Int)) = false := decide_eq_false (by omega)
  have y4 : decide ((no : Int) < 0) = false := decide_eq_false (by omega)
  have y5 : decide (nr < 1) = false := decide_eq_false (by omega)
  go_enter Tryz.func72, Tryz.ntmps72
  go_wp2_with fail
  refine (q1 _).mono ?_
  rintro v wa ⟨rfl, rfl⟩
  go_wp2_with fail
  refine q2.mono ?_
  rintro v wa ⟨rfl, m, rfl⟩
  go_wp2_with fail
  refine (q3 _).mono ?_
  rintro v wa ⟨rfl, rfl⟩
  go_wp2_with fail
  refine (q4 m).mono ?_
  rintro v wa ⟨rfl, m2, rfl⟩
  go_wp2_with fail
  refine (q5 _).mono ?_
  rintro v wa ⟨rfl, rfl⟩
  clear q1 q2 q3 q4 q5
  go_upto_region 81 with fail
  generalize hw2 : World.setCell _ ⟨A.m, 55, none⟩ _ = w2
  have H2 : RX w2 A C I V2 S st G nf cv iv ov := by rw [← hw2]; exact HK.out (m + m2)
  have F2 : Fr (VS A) w w2 := by rw [← hw2]; exact FF.out (m + m2)
  clear hw2 c1 c2 c3 c4 hlt hz p0 HK FF z y2 y3 y4 y5 hr48 hbm hb' hc
  have eX : X = (V2.die (endOf (lenM M ((M.rt.length : Int) - 1)).2.2), M) := by rw [HE.out.1]; show (if (lenM M ((M.rt.length : Int) - 1)).2.2 = 0 then _ else _) = _; rw [if_neg hx]
  have hq1 := length_no H2 HE.out.2.1 hx
  have HX2 : Hid _ := And.intro F2 (And.intro HE.out.2.1 eX)
  have hlt := H2.lt
  clear H2 F2 eX HE
  go_wp2_with fail
  refine hq1.mono ?_
  rintro v w3 ⟨rfl, h3⟩
  go_wp2_with fail
  go_end0
  rw [HX2.out.2.2]
  exact RZ.s ⟨rfl, h3⟩ HX2.out.1
set_option maxRecDepth 100000 in
set_option maxHeartbeats 1000000 in
theorem step34 (H : RX w A C I V S st G nf cv iv ov) (hR : Rel S M) (hf : V.fs = f :: r) (hd : M.rt.length ≤ 24) (hq : f.rb + f.lr ≤ 24) (hop : byteAt C V.pc = 34) (hp : V.pc + 1 + 0 ≤ C.length) (hi : 0 ≤ f.ops.length) (hr : (1 : Int) ≤ (M.rt.length : Int) - f.rb - f.lr) (hx : (lenM M ((M.rt.length : Int) - 1)).2.2 = 0) : Calls Tryz.prog 72 #[.pointer (some ⟨A.m, 0, none⟩)] w (RS w A C I (execV C I 34 V.pc { V with steps := wr64 (V.steps + 1), pc := V.pc + 1 + 0 } M).1 (execV C I 34 V.pc { V with steps := wr64 (V.steps + 1), pc := V.pc + 1 + 0 } M).2 cv iv ov) := by
  obtain ⟨V2, hV2⟩ : ∃ V2 : Vs, V2 = { V with steps := wr64 (V.steps + 1), pc := V.pc + 1 + 0 } := ⟨_, rfl⟩
  rw [← hV2]
  obtain ⟨X, hX⟩ : ∃ X, X = execV C I 34 V.pc V2 M := ⟨_, rfl⟩
  rw [← hX]
  have hf2 : V2.fs = f :: r := by rw [hV2]; exact hf
  have c1 := H.r_steps
  have c2 := H.r_pc
  have c3 := H.r_cv
  have c4 := H.r_en
  have hlt := H.lt
  have hz := H.blk.frozen
  have hcl := H.cl
  obtain ⟨b, c, e, hb', hc⟩ := H.code.all (by omega)
  have hbm : b ≠ A.m := (H.cd b ⟨_, _, e⟩).1
  have He : Hid _ := e
  rw [e] at c3
  have p0 := hc V.pc (by omega)
  rw [hop] at p0
  have q1 : ∀ w, Calls Tryz.prog 42 #[.int .i64 34] w fun e w' => e = .returned (.int .i64 0) ∧ w' = w := fun w => opArgsF 34 (by omega) w
  have hL := hR.len
  have H1 := H.s_steps (wr64 (V.steps + 1))
  have q2 := iopsF H1 (f := f) (r := r) hf
  have q3 : ∀ w, Calls Tryz.prog 106 #[.int .i64 34] w fun e w' => e = .returned (.int .i64 0) ∧ w' = w := fun w => wantIF 34 (by omega) w
  have q4 := fun m => ropsF (H1.drewN m) (f := f) (r := r) hf (by omega) (by omega)
  rw [← hL] at q4
  have q5 : ∀ w, Calls Tryz.prog 107 #[.int .i64 34] w fun e w' => e = .returned (.int .i64 1) ∧ w' = w := fun w => wantRF 34 (by omega) w
  have ho48 : f.ops.length ≤ 48 := by have := (H.lays hf).2.2.2.1; have := H.s48; omega
  obtain ⟨nr, hnr⟩ : ∃ nr, nr = (M.rt.length : Int) - f.rb - f.lr := ⟨_, rfl⟩
  have hr48 : -48 ≤ nr ∧ nr ≤ 24 := by omega
  rw [← hnr] at q4 hr
  have HK : Hid (∀ m, RX _ A C I V2 S st G nf cv iv ov) := fun m => by rw [hV2]; exact (H1.drewN m).s_pc (V.pc + 1 + 0)
  have FF : Hid (∀ m, _) := fun m => (((Fr.refl (VS A) w).setC A.m 63 (.int .i64 (wr64 (V.steps + 1))) (fun _ => .inl rfl)).drewN m).setC A.m 55 (.int .i64 (V.pc + 1 + 0 : Nat)) (fun _ => .inl rfl)
  have HE : Hid (_ ∧ _) := ⟨hX, And.intro hR (And.intro hf2 (And.intro hi hr))⟩
  have HV : Hid _ := hV2
  generalize hpcE : V.pc = pc at *
  obtain ⟨no, hno⟩ : ∃ no, no = f.ops.length := ⟨_, rfl⟩
  rw [← hno] at q2 hi ho48
  generalize V.steps = sx at *
  clear H H1 e hR hL hnr hf hq hd hX hf2 hno hV2 hpcE
  have hp' : (pc : Int) + 1 + 0 ≤ C.length := by omega
  have z : decide ((pc : Int) ≥ C.length) = false := decide_eq_false (by omega)
  have y2 : decide ((0 : Int) > (C.length : Int) - pc - 1) = false := decide_eq_false (by omega)
  have y3 : decide ((C.length : Int) - pc - 1 < (0 : Int)) = false := decide_eq_false (by omega)
  have y4 : decide ((no : Int) < 0) = false := decide_eq_false (by omega)
  have y5 : decide (nr < 1) = false := decide_eq_false (by omega)
  go_enter Tryz.func72, Tryz.ntmps72
  go_wp2_with fail
  refine (q1 _).mono ?_
  rintro v wa ⟨rfl, rfl⟩
  go_wp2_with fail
  refine q2.mono ?_
  rintro v wa ⟨rfl, m, rfl⟩
  go_wp2_with fail
  refine (q3 _).mono ?_
  rintro v wa ⟨rfl, rfl⟩
  go_wp2_with fail
  refine (q4 m).mono ?_
  rintro v wa ⟨rfl, m2, rfl⟩
  go_wp2_with fail
  refine (q5 _).mono ?_
  rintro v wa ⟨rfl, rfl⟩
  clear q1 q2 q3 q4 q5
  go_upto_region 81 with fail
  generalize hw2 : World.setCell _ ⟨A.m, 55, none⟩ _ = w2
  have H2 : RX w2 A C I V2 S st G nf cv iv ov := by rw [← hw2]; exact HK.out (m + m2)
  have F2 : Fr (VS A) w w2 := by rw [← hw2]; exact FF.out (m + m2)
  clear hw2 c1 c2 c3 c4 hlt hz p0 HK FF z y2 y3 y4 y5 hr48 hbm hb' hc
  have eX : X = (pushV V2 ((lenM M ((M.rt.length : Int) - 1)).1 + (lenM M ((M.rt.length : Int) - 1)).2.1), (popM M 1).2) := by rw [HE.out.1]; show (if (lenM M ((M.rt.length : Int) - 1)).2.2 = 0 then _ else _) = _; rw [if_pos hx]
  have hq1 := length_ok H2 HE.out.2.1 HE.out.2.2.1 hx
  have HX2 : Hid _ := And.intro F2 (And.intro HE.out.2.1 eX)
  have hlt := H2.lt
  clear H2 F2 eX HE
  go_wp2_with fail
  refine hq1.mono ?_
  rintro v w3 ⟨rfl, h3⟩
  go_wp2_with fail
  go_end0
  rw [HX2.out.2.2]
  exact RZ.s ⟨rfl, h3⟩ HX2.out.1
set_option maxRecDepth 100000 in
set_option maxHeartbeats 1000000 in
theorem step36n (H : RX w A C I V S st G nf cv iv ov) (hR : Rel S M) (hf : V.fs = f :: r) (hd : M.rt.length ≤ 24) (hq : f.rb + f.lr ≤ 24) (hop : byteAt C V.pc = 36) (hp : V.pc + 1 + 0 ≤ C.length) (hi : 0 ≤ f.ops.length) (hr : (0 : Int) ≤ (M.rt.length : Int) - f.rb - f.lr) (hx : I.length ≤ V.ip) : Calls Tryz.prog 72 #[.pointer (some ⟨A.m, 0, none⟩)] w (RS w A C I (execV C I 36 V.pc { V with steps := wr64 (V.steps + 1), pc := V.pc + 1 + 0 } M).1 (execV C I 36 V.pc { V with steps := wr64 (V.steps + 1), pc := V.pc + 1 + 0 } M).2 cv iv ov) := by
  obtain ⟨V2, hV2⟩ : ∃ V2 : Vs, V2 = { V with steps := wr64 (V.steps + 1), pc := V.pc + 1 + 0 } := ⟨_, rfl⟩
  rw [← hV2]
  obtain ⟨X, hX⟩ : ∃ X, X = execV C I 36 V.pc V2 M := ⟨_, rfl⟩
  rw [← hX]
  have hf2 : V2.fs = f :: r := by rw [hV2]; exact hf
  have c1 := H.r_steps
  have c2 := H.r_pc
  have c3 := H.r_cv
  have c4 := H.r_en
  have hlt := H.lt
  have hz := H.blk.frozen
  have hcl := H.cl
  obtain ⟨b, c, e, hb', hc⟩ := H.code.all (by omega)
  have hbm : b ≠ A.m := (H.cd b ⟨_, _, e⟩).1
  have He : Hid _ := e
  rw [e] at c3
  have p0 := hc V.pc (by omega)
  rw [hop] at p0
  have q1 : ∀ w, Calls Tryz.prog 42 #[.int .i64 36] w fun e w' => e = .returned (.int .i64 0) ∧ w' = w := fun w => opArgsF 36 (by omega) w
  have hL := hR.len
  have H1 := H.s_steps (wr64 (V.steps + 1))
  have q2 := iopsF H1 (f := f) (r := r) hf
  have q3 : ∀ w, Calls Tryz.prog 106 #[.int .i64 36] w fun e w' => e = .returned (.int .i64 0) ∧ w' = w := fun w => wantIF 36 (by omega) w
  have q4 := fun m => ropsF (H1.drewN m) (f := f) (r := r) hf (by omega) (by omega)
  rw [← hL] at q4
  have q5 : ∀ w, Calls Tryz.prog 107 #[.int .i64 36] w fun e w' => e = .returned (.int .i64 0) ∧ w' = w := fun w => wantRF 36 (by omega) w
  have ho48 : f.ops.length ≤ 48 := by have := (H.lays hf).2.2.2.1; have := H.s48; omega
  obtain ⟨nr, hnr⟩ : ∃ nr, nr = (M.rt.length : Int) - f.rb - f.lr := ⟨_, rfl⟩
  have hr48 : -48 ≤ nr ∧ nr ≤ 24 := by omega
  rw [← hnr] at q4 hr
  have HK : Hid (∀ m, RX _ A C I V2 S st G nf cv iv ov) := fun m => by rw [hV2]; exact (H1.drewN m).s_pc (V.pc + 1 + 0)
  have FF : Hid (∀ m, _) := fun m => (((Fr.refl (VS A) w).setC A.m 63 (.int .i64 (wr64 (V.steps + 1))) (fun _ => .inl rfl)).drewN m).setC A.m 55 (.int .i64 (V.pc + 1 + 0 : Nat)) (fun _ => .inl rfl)
  have HE : Hid (_ ∧ _) := ⟨hX, And.intro hR (And.intro hf2 (And.intro hi hr))⟩
  have HV : Hid _ := hV2
  generalize hpcE : V.pc = pc at *
  obtain ⟨no, hno⟩ : ∃ no, no = f.ops.length := ⟨_, rfl⟩
  rw [← hno] at q2 hi ho48
  generalize V.steps = sx at *
  clear H H1 e hR hL hnr hf hq hd hX hf2 hno hV2 hpcE
  have hp' : (pc : Int) + 1 + 0 ≤ C.length := by omega
  have z : decide ((pc : Int) ≥ C.length) = false := decide_eq_false (by omega)
  have y2 : decide ((0 : Int) > (C.length : Int) - pc - 1) = false := decide_eq_false (by omega)
  have y3 : decide ((C.length : Int) - pc - 1 < (0 : Int)) = false := decide_eq_false (by omega)
  have y4 : decide ((no : Int) < 0) = false := decide_eq_false (by omega)
  have y5 : decide (nr < 0) = false := decide_eq_false (by omega)
  go_enter Tryz.func72, Tryz.ntmps72
  go_wp2_with fail
  refine (q1 _).mono ?_
  rintro v wa ⟨rfl, rfl⟩
  go_wp2_with fail
  refine q2.mono ?_
  rintro v wa ⟨rfl, m, rfl⟩
  go_wp2_with fail
  refine (q3 _).mono ?_
  rintro v wa ⟨rfl, rfl⟩
  go_wp2_with fail
  refine (q4 m).mono ?_
  rintro v wa ⟨rfl, m2, rfl⟩
  go_wp2_with fail
  refine (q5 _).mono ?_
  rintro v wa ⟨rfl, rfl⟩
  clear q1 q2 q3 q4 q5
  go_upto_region 88 with fail
  generalize hw2 : World.setCell _ ⟨A.m, 55, none⟩ _ = w2
  have H2 : RX w2 A C I V2 S st G nf cv iv ov := by rw [← hw2]; exact HK.out (m + m2)
  have F2 : Fr (VS A) w w2 := by rw [← hw2]; exact FF.out (m + m2)
  clear hw2 c1 c2 c3 c4 hlt hz p0 HK FF z y2 y3 y4 y5 hr48 hbm hb' hc
  have eX : X = (V2.die 30, M) := by rw [HE.out.1]; show (if I.length ≤ V2.ip then _ else _, M) = _; rw [if_pos (by rw [HV.out]; exact hx)]
  have hq1 := read_no H2 (by rw [HV.out]; exact hx)
  have HX2 : Hid _ := And.intro F2 (And.intro HE.out.2.1 eX)
  have hlt := H2.lt
  clear H2 F2 eX HE
  go_wp2_with fail
  refine hq1.mono ?_
  rintro v w3 ⟨rfl, h3⟩
  go_wp2_with fail
  go_end0
  rw [HX2.out.2.2]
  exact RS.of ⟨rfl, h3⟩ HX2.out.2.1 HX2.out.1
set_option maxRecDepth 100000 in
set_option maxHeartbeats 1000000 in
theorem step36 (H : RX w A C I V S st G nf cv iv ov) (hR : Rel S M) (hf : V.fs = f :: r) (hd : M.rt.length ≤ 24) (hq : f.rb + f.lr ≤ 24) (hop : byteAt C V.pc = 36) (hp : V.pc + 1 + 0 ≤ C.length) (hi : 0 ≤ f.ops.length) (hr : (0 : Int) ≤ (M.rt.length : Int) - f.rb - f.lr) (hx : V.ip < I.length) : Calls Tryz.prog 72 #[.pointer (some ⟨A.m, 0, none⟩)] w (RS w A C I (execV C I 36 V.pc { V with steps := wr64 (V.steps + 1), pc := V.pc + 1 + 0 } M).1 (execV C I 36 V.pc { V with steps := wr64 (V.steps + 1), pc := V.pc + 1 + 0 } M).2 cv iv ov) := by
  obtain ⟨V2, hV2⟩ : ∃ V2 : Vs, V2 = { V with steps := wr64 (V.steps + 1), pc := V.pc + 1 + 0 } := ⟨_, rfl⟩
  rw [← hV2]
  obtain ⟨X, hX⟩ : ∃ X, X = execV C I 36 V.pc V2 M := ⟨_, rfl⟩
  rw [← hX]
  have hf2 : V2.fs = f :: r := by rw [hV2]; exact hf
  have c1 := H.r_steps
  have c2 := H.r_pc
  have c3 := H.r_cv
  have c4 := H.r_en
  have hlt := H.lt
  have hz := H.blk.frozen
  have hcl := H.cl
  obtain ⟨b, c, e, hb', hc⟩ := H.code.all (by omega)
  have hbm : b ≠ A.m := (H.cd b ⟨_, _, e⟩).1
  have He : Hid _ := e
  rw [e] at c3
  have p0 := hc V.pc (by omega)
  rw [hop] at p0
  have q1 : ∀ w, Calls Tryz.prog 42 #[.int .i64 36] w fun e w' => e = .returned (.int .i64 0) ∧ w' = w := fun w => opArgsF 36 (by omega) w
  have hL := hR.len
  have H1 := H.s_steps (wr64 (V.steps + 1))
  have q2 := iopsF H1 (f := f) (r := r) hf
  have q3 : ∀ w, Calls Tryz.prog 106 #[.int .i64 36] w fun e w' => e = .returned (.int .i64 0) ∧ w' = w := fun w => wantIF 36 (by omega) w
  have q4 := fun m => ropsF (H1.drewN m) (f := f) (r := r) hf (by omega) (by omega)
  rw [← hL] at q4
  have q5 : ∀ w, Calls Tryz.prog 107 #[.int .i64 36] w fun e w' => e = .returned (.int .i64 0) ∧ w' = w := fun w => wantRF 36 (by omega) w
  have ho48 : f.ops.length ≤ 48 := by have := (H.lays hf).2.2.2.1; have := H.s48; omega
  obtain ⟨nr, hnr⟩ : ∃ nr, nr = (M.rt.length : Int) - f.rb - f.lr := ⟨_, rfl⟩
  have hr48 : -48 ≤ nr ∧ nr ≤ 24 := by omega
  rw [← hnr] at q4 hr
  have HK : Hid (∀ m, RX _ A C I V2 S st G nf cv iv ov) := fun m => by rw [hV2]; exact (H1.drewN m).s_pc (V.pc + 1 + 0)
  have FF : Hid (∀ m, _) := fun m => (((Fr.refl (VS A) w).setC A.m 63 (.int .i64 (wr64 (V.steps + 1))) (fun _ => .inl rfl)).drewN m).setC A.m 55 (.int .i64 (V.pc + 1 + 0 : Nat)) (fun _ => .inl rfl)
  have HE : Hid (_ ∧ _) := ⟨hX, And.intro hR (And.intro hf2 (And.intro hi hr))⟩
  have HV : Hid _ := hV2
  generalize hpcE : V.pc = pc at *
  obtain ⟨no, hno⟩ : ∃ no, no = f.ops.length := ⟨_, rfl⟩
  rw [← hno] at q2 hi ho48
  generalize V.steps = sx at *
  clear H H1 e hR hL hnr hf hq hd hX hf2 hno hV2 hpcE
  have hp' : (pc : Int) + 1 + 0 ≤ C.length := by omega
  have z : decide ((pc : Int) ≥ C.length) = false := decide_eq_false (by omega)
  have y2 : decide ((0 : Int) > (C.length : Int) - pc - 1) = false := decide_eq_false (by omega)
  have y3 : decide ((C.length : Int) - pc - 1 < (0 : Int)) = false := decide_eq_false (by omega)
  have y4 : decide ((no : Int) < 0) = false := decide_eq_false (by omega)
  have y5 : decide (nr < 0) = false := decide_eq_false (by omega)
  go_enter Tryz.func72, Tryz.ntmps72
  go_wp2_with fail
  refine (q1 _).mono ?_
  rintro v wa ⟨rfl, rfl⟩
  go_wp2_with fail
  refine q2.mono ?_
  rintro v wa ⟨rfl, m, rfl⟩
  go_wp2_with fail
  refine (q3 _).mono ?_
  rintro v wa ⟨rfl, rfl⟩
  go_wp2_with fail
  refine (q4 m).mono ?_
  rintro v wa ⟨rfl, m2, rfl⟩
  go_wp2_with fail
  refine (q5 _).mono ?_
  rintro v wa ⟨rfl, rfl⟩
  clear q1 q2 q3 q4 q5
  go_upto_region 88 with fail
  generalize hw2 : World.setCell _ ⟨A.m, 55, none⟩ _ = w2
  have H2 : RX w2 A C I V2 S st G nf cv iv ov := by rw [← hw2]; exact HK.out (m + m2)
  have F2 : Fr (VS A) w w2 := by rw [← hw2]; exact FF.out (m + m2)
  clear hw2 c1 c2 c3 c4 hlt hz p0 HK FF z y2 y3 y4 y5 hr48 hbm hb' hc
  have eX : X = ({ pushV V2 (I.getD V2.ip 0) with ip := V2.ip + 1 }, M) := by rw [HE.out.1]; show (if I.length ≤ V2.ip then _ else _, M) = _; rw [if_neg (by rw [HV.out]; show ¬ I.length ≤ V.ip; omega)]
  have hq1 := read_ok H2 HE.out.2.2.1 (by rw [HV.out]; exact hx)
  have HX2 : Hid _ := And.intro F2 (And.intro HE.out.2.1 eX)
  have hlt := H2.lt
  clear H2 F2 eX HE
  go_wp2_with fail
  refine hq1.mono ?_
  rintro v w3 ⟨rfl, h3⟩
  go_wp2_with fail
  go_end0
  rw [HX2.out.2.2]
  exact RS.of ⟨rfl, h3⟩ HX2.out.2.1 HX2.out.1
set_option maxRecDepth 100000 in
set_option maxHeartbeats 1000000 in
theorem step25 (H : RX w A C I V S st G nf cv iv ov) (hR : Rel S M) (hf : V.fs = f :: r) (hd : M.rt.length ≤ 24) (hq : f.rb + f.lr ≤ 24) (hop : byteAt C V.pc = 25) (hp : V.pc + 1 + 4 ≤ C.length) (hi : 0 ≤ f.ops.length) (hr : (0 : Int) ≤ (M.rt.length : Int) - f.rb - f.lr) : Calls Tryz.prog 72 #[.pointer (some ⟨A.m, 0, none⟩)] w (RS w A C I (execV C I 25 V.pc { V with steps := wr64 (V.steps + 1), pc := V.pc + 1 + 4 } M).1 (execV C I 25 V.pc { V with steps := wr64 (V.steps + 1), pc := V.pc + 1 + 4 } M).2 cv iv ov) := by
  obtain ⟨V2, hV2⟩ : ∃ V2 : Vs, V2 = { V with steps := wr64 (V.steps + 1), pc := V.pc + 1 + 4 } := ⟨_, rfl⟩
  rw [← hV2]
  obtain ⟨X, hX⟩ : ∃ X, X = execV C I 25 V.pc V2 M := ⟨_, rfl⟩
  rw [← hX]
  have hf2 : V2.fs = f :: r := by rw [hV2]; exact hf
  have c1 := H.r_steps
  have c2 := H.r_pc
  have c3 := H.r_cv
  have c4 := H.r_en
  have hlt := H.lt
  have hz := H.blk.frozen
  have hcl := H.cl
  obtain ⟨b, c, e, hb', hc⟩ := H.code.all (by omega)
  have hbm : b ≠ A.m := (H.cd b ⟨_, _, e⟩).1
  have He : Hid _ := e
  rw [e] at c3
  have p0 := hc V.pc (by omega)
  rw [hop] at p0
  have q1 : ∀ w, Calls Tryz.prog 42 #[.int .i64 25] w fun e w' => e = .returned (.int .i64 4) ∧ w' = w := fun w => opArgsF 25 (by omega) w
  have hL := hR.len
  have H1 := H.s_steps (wr64 (V.steps + 1))
  have q2 := iopsF H1 (f := f) (r := r) hf
  have q3 : ∀ w, Calls Tryz.prog 106 #[.int .i64 25] w fun e w' => e = .returned (.int .i64 0) ∧ w' = w := fun w => wantIF 25 (by omega) w
  have q4 := fun m => ropsF (H1.drewN m) (f := f) (r := r) hf (by omega) (by omega)
  rw [← hL] at q4
  have q5 : ∀ w, Calls Tryz.prog 107 #[.int .i64 25] w fun e w' => e = .returned (.int .i64 0) ∧ w' = w := fun w => wantRF 25 (by omega) w
  have ho48 : f.ops.length ≤ 48 := by have := (H.lays hf).2.2.2.1; have := H.s48; omega
  obtain ⟨nr, hnr⟩ : ∃ nr, nr = (M.rt.length : Int) - f.rb - f.lr := ⟨_, rfl⟩
  have hr48 : -48 ≤ nr ∧ nr ≤ 24 := by omega
  rw [← hnr] at q4 hr
  have HK : Hid (∀ m, RX _ A C I V2 S st G nf cv iv ov) := fun m => by rw [hV2]; exact (H1.drewN m).s_pc (V.pc + 1 + 4)
  have FF : Hid (∀ m, _) := fun m => (((Fr.refl (VS A) w).setC A.m 63 (.int .i64 (wr64 (V.steps + 1))) (fun _ => .inl rfl)).drewN m).setC A.m 55 (.int .i64 (V.pc + 1 + 4 : Nat)) (fun _ => .inl rfl)
  have HE : Hid (_ ∧ _) := ⟨hX, And.intro hR (And.intro hf2 (And.intro hi hr))⟩
  have HV : Hid _ := hV2
  generalize hpcE : V.pc = pc at *
  obtain ⟨no, hno⟩ : ∃ no, no = f.ops.length := ⟨_, rfl⟩
  rw [← hno] at q2 hi ho48
  generalize V.steps = sx at *
  clear H H1 e hR hL hnr hf hq hd hX hf2 hno hV2 hpcE
  have hp' : (pc : Int) + 1 + 4 ≤ C.length := by omega
  have z : decide ((pc : Int) ≥ C.length) = false := decide_eq_false (by omega)
  have y2 : decide ((4 : Int) > (C.length : Int) - pc - 1) = false := decide_eq_false (by omega)
  have y3 : decide ((C.length : Int) - pc - 1 < (4 : Int)) = false := decide_eq_false (by omega)
  have y4 : decide ((no : Int) < 0) = false := decide_eq_false (by omega)
  have y5 : decide (nr < 0) = false := decide_eq_false (by omega)
  go_enter Tryz.func72, Tryz.ntmps72
  go_wp2_with fail
  refine (q1 _).mono ?_
  rintro v wa ⟨rfl, rfl⟩
  go_wp2_with fail
  refine q2.mono ?_
  rintro v wa ⟨rfl, m, rfl⟩
  go_wp2_with fail
  refine (q3 _).mono ?_
  rintro v wa ⟨rfl, rfl⟩
  go_wp2_with fail
  refine (q4 m).mono ?_
  rintro v wa ⟨rfl, m2, rfl⟩
  go_wp2_with fail
  refine (q5 _).mono ?_
  rintro v wa ⟨rfl, rfl⟩
  clear q1 q2 q3 q4 q5
  go_upto_region 66 with fail
  generalize hw2 : World.setCell _ ⟨A.m, 55, none⟩ _ = w2
  have H2 : RX w2 A C I V2 S st G nf cv iv ov := by rw [← hw2]; exact HK.out (m + m2)
  have F2 : Fr (VS A) w w2 := by rw [← hw2]; exact FF.out (m + m2)
  clear hw2 c1 c2 c3 c4 hlt hz p0 HK FF z y2 y3 y4 y5 hr48 hbm hb' hc
  have eX : X = (V2.die 24, M) := by rw [HE.out.1]; exact rfl
  have HX2 : Hid _ := And.intro F2 (And.intro HE.out.2.1 eX)
  have hlt := H2.lt
  clear F2 eX
  have c4 := H2.r_en
  have hz := H2.blk.frozen
  have key : Hid _ := (H2.s_en 24).y
  clear H2 HE
  go_wp2_with fail
  go_end0
  rw [HX2.out.2.2]
  exact RS.of ⟨rfl, key.out, (Fr.refl (VS A) w2).setC A.m 61 _ (fun _ => .inl rfl)⟩ HX2.out.2.1 HX2.out.1
set_option maxRecDepth 100000 in
set_option maxHeartbeats 1000000 in
theorem step0 (H : RX w A C I V S st G nf cv iv ov) (hR : Rel S M) (hf : V.fs = f :: r) (hd : M.rt.length ≤ 24) (hq : f.rb + f.lr ≤ 24) (hop : byteAt C V.pc = 0) (hp : V.pc + 1 + 8 ≤ C.length) (hi : 0 ≤ f.ops.length) (hr : (0 : Int) ≤ (M.rt.length : Int) - f.rb - f.lr) : Calls Tryz.prog 72 #[.pointer (some ⟨A.m, 0, none⟩)] w (RS w A C I (execV C I 0 V.pc { V with steps := wr64 (V.steps + 1), pc := V.pc + 1 + 8 } M).1 (execV C I 0 V.pc { V with steps := wr64 (V.steps + 1), pc := V.pc + 1 + 8 } M).2 cv iv ov) := by
  obtain ⟨V2, hV2⟩ : ∃ V2 : Vs, V2 = { V with steps := wr64 (V.steps + 1), pc := V.pc + 1 + 8 } := ⟨_, rfl⟩
  rw [← hV2]
  obtain ⟨X, hX⟩ : ∃ X, X = execV C I 0 V.pc V2 M := ⟨_, rfl⟩
  rw [← hX]
  have hf2 : V2.fs = f :: r := by rw [hV2]; exact hf
  have c1 := H.r_steps
  have c2 := H.r_pc
  have c3 := H.r_cv
  have c4 := H.r_en
  have hlt := H.lt
  have hz := H.blk.frozen
  have hcl := H.cl
  obtain ⟨b, c, e, hb', hc⟩ := H.code.all (by omega)
  have hbm : b ≠ A.m := (H.cd b ⟨_, _, e⟩).1
  have He : Hid _ := e
  rw [e] at c3
  have p0 := hc V.pc (by omega)
  rw [hop] at p0
  have q1 : ∀ w, Calls Tryz.prog 42 #[.int .i64 0] w fun e w' => e = .returned (.int .i64 8) ∧ w' = w := fun w => opArgsF 0 (by omega) w
  have hL := hR.len
  have H1 := H.s_steps (wr64 (V.steps + 1))
  have q2 := iopsF H1 (f := f) (r := r) hf
  have q3 : ∀ w, Calls Tryz.prog 106 #[.int .i64 0] w fun e w' => e = .returned (.int .i64 0) ∧ w' = w := fun w => wantIF 0 (by omega) w
  have q4 := fun m => ropsF (H1.drewN m) (f := f) (r := r) hf (by omega) (by omega)
  rw [← hL] at q4
  have q5 : ∀ w, Calls Tryz.prog 107 #[.int .i64 0] w fun e w' => e = .returned (.int .i64 0) ∧ w' = w := fun w => wantRF 0 (by omega) w
  have ho48 : f.ops.length ≤ 48 := by have := (H.lays hf).2.2.2.1; have := H.s48; omega
  obtain ⟨nr, hnr⟩ : ∃ nr, nr = (M.rt.length : Int) - f.rb - f.lr := ⟨_, rfl⟩
  have hr48 : -48 ≤ nr ∧ nr ≤ 24 := by omega
  rw [← hnr] at q4 hr
  have HK : Hid (∀ m, RX _ A C I V2 S st G nf cv iv ov) := fun m => by rw [hV2]; exact (H1.drewN m).s_pc (V.pc + 1 + 8)
  have FF : Hid (∀ m, _) := fun m => (((Fr.refl (VS A) w).setC A.m 63 (.int .i64 (wr64 (V.steps + 1))) (fun _ => .inl rfl)).drewN m).setC A.m 55 (.int .i64 (V.pc + 1 + 8 : Nat)) (fun _ => .inl rfl)
  have HE : Hid (_ ∧ _) := ⟨hX, And.intro hR (And.intro hf2 (And.intro hi hr))⟩
  have HV : Hid _ := hV2
  generalize hpcE : V.pc = pc at *
  obtain ⟨no, hno⟩ : ∃ no, no = f.ops.length := ⟨_, rfl⟩
  rw [← hno] at q2 hi ho48
  generalize V.steps = sx at *
  clear H H1 e hR hL hnr hf hq hd hX hf2 hno hV2 hpcE
  have hp' : (pc : Int) + 1 + 8 ≤ C.length := by omega
  have z : decide ((pc : Int) ≥ C.length) = false := decide_eq_false (by omega)
  have y2 : decide ((8 : Int) > (C.length : Int) - pc - 1) = false := decide_eq_false (by omega)
  have y3 : decide ((C.length : Int) - pc - 1 < (8 : Int)) = false := decide_eq_false (by omega)
  have y4 : decide ((no : Int) < 0) = false := decide_eq_false (by omega)
  have y5 : decide (nr < 0) = false := decide_eq_false (by omega)
  go_enter Tryz.func72, Tryz.ntmps72
  go_wp2_with fail
  refine (q1 _).mono ?_
  rintro v wa ⟨rfl, rfl⟩
  go_wp2_with fail
  refine q2.mono ?_
  rintro v wa ⟨rfl, m, rfl⟩
  go_wp2_with fail
  refine (q3 _).mono ?_
  rintro v wa ⟨rfl, rfl⟩
  go_wp2_with fail
  refine (q4 m).mono ?_
  rintro v wa ⟨rfl, m2, rfl⟩
  go_wp2_with fail
  refine (q5 _).mono ?_
  rintro v wa ⟨rfl, rfl⟩
  clear q1 q2 q3 q4 q5
  go_upto_region 17 with fail
  generalize hw2 : World.setCell _ ⟨A.m, 55, none⟩ _ = w2
  have H2 : RX w2 A C I V2 S st G nf cv iv ov := by rw [← hw2]; exact HK.out (m + m2)
  have F2 : Fr (VS A) w w2 := by rw [← hw2]; exact FF.out (m + m2)
  clear hw2 c1 c2 c3 c4 hlt hz p0 HK FF z y2 y3 y4 y5 hr48 hbm hb' hc
  have eX : X = (pushV V2 (i64V C (pc + 1)), M) := by rw [HE.out.1]; exact rfl
  have HX2 : Hid _ := And.intro F2 (And.intro HE.out.2.1 eX)
  have hlt := H2.lt
  clear F2 eX
  have c3 := H2.r_cv
  rw [He.out] at c3
  have q := i64F H2.code H2.cb hcl (pc + 1) (by omega)
  rw [He.out, show ((pc + 1 : Nat) : Int) = (pc : Int) + 1 from rfl] at q
  generalize i64V C (pc + 1) = x at *
  have hq1 := vpushF H2 HE.out.2.2.1 x
  clear H2 HE He
  go_wp2_with fail
  refine q.mono ?_
  rintro v wz ⟨rfl, rfl⟩
  go_wp2_with fail
  refine hq1.mono ?_
  rintro v w3 ⟨rfl, h3⟩
  go_wp2_with fail
  go_end0
  rw [HX2.out.2.2]
  exact RS.of ⟨rfl, h3⟩ HX2.out.2.1 HX2.out.1
set_option maxRecDepth 100000 in
set_option maxHeartbeats 1000000 in
theorem step1 (H : RX w A C I V S st G nf cv iv ov) (hR : Rel S M) (hf : V.fs = f :: r) (hd : M.rt.length ≤ 24) (hq : f.rb + f.lr ≤ 24) (hop : byteAt C V.pc = 1) (hp : V.pc + 1 + 0 ≤ C.length) (hi : 1 ≤ f.ops.length) (hr : (0 : Int) ≤ (M.rt.length : Int) - f.rb - f.lr) : Calls Tryz.prog 72 #[.pointer (some ⟨A.m, 0, none⟩)] w (RS w A C I (execV C I 1 V.pc { V with steps := wr64 (V.steps + 1), pc := V.pc + 1 + 0 } M).1 (execV C I 1 V.pc { V with steps := wr64 (V.steps + 1), pc := V.pc + 1 + 0 } M).2 cv iv ov) := by
  obtain ⟨V2, hV2⟩ : ∃ V2 : Vs, V2 = { V with steps := wr64 (V.steps + 1), pc := V.pc + 1 + 0 } := ⟨_, rfl⟩
  rw [← hV2]
  obtain ⟨X, hX⟩ : ∃ X, X = execV C I 1 V.pc V2 M := ⟨_, rfl⟩
  rw [← hX]
  have hf2 : V2.fs = f :: r := by rw [hV2]; exact hf
  have c1 := H.r_steps
  have c2 := H.r_pc
  have c3 := H.r_cv
  have c4 := H.r_en
  have hlt := H.lt
  have hz := H.blk.frozen
  have hcl := H.cl
  obtain ⟨b, c, e, hb', hc⟩ := H.code.all (by omega)
  have hbm : b ≠ A.m := (H.cd b ⟨_, _, e⟩).1
  have He : Hid _ := e
  rw [e] at c3
  have p0 := hc V.pc (by omega)
  rw [hop] at p0
  have q1 : ∀ w, Calls Tryz.prog 42 #[.int .i64 1] w fun e w' => e = .returned (.int .i64 0) ∧ w' = w := fun w => opArgsF 1 (by omega) w
  have hL := hR.len
  have H1 := H.s_steps (wr64 (V.steps + 1))
  have q2 := iopsF H1 (f := f) (r := r) hf
  have q3 : ∀ w, Calls Tryz.prog 106 #[.int .i64 1] w fun e w' => e = .returned (.int .i64 1) ∧ w' = w := fun w => wantIF 1 (by omega) w
  have q4 := fun m => ropsF (H1.drewN m) (f := f) (r := r) hf (by omega) (by omega)
  rw [← hL] at q4
  have q5 : ∀ w, Calls Tryz.prog 107 #[.int .i64 1] w fun e w' => e = .returned (.int .i64 0) ∧ w' = w := fun w => wantRF 1 (by omega) w
  have ho48 : f.ops.length ≤ 48 := by have := (H.lays hf).2.2.2.1; have := H.s48; omega
  obtain ⟨nr, hnr⟩ : ∃ nr, nr = (M.rt.length : Int) - f.rb - f.lr := ⟨_, rfl⟩
  have hr48 : -48 ≤ nr ∧ nr ≤ 24 := by omega
  rw [← hnr] at q4 hr
  have HK : Hid (∀ m, RX _ A C I V2 S st G nf cv iv ov) := fun m => by rw [hV2]; exact (H1.drewN m).s_pc (V.pc + 1 + 0)
  have FF : Hid (∀ m, _) := fun m => (((Fr.refl (VS A) w).setC A.m 63 (.int .i64 (wr64 (V.steps + 1))) (fun _ => .inl rfl)).drewN m).setC A.m 55 (.int .i64 (V.pc + 1 + 0 : Nat)) (fun _ => .inl rfl)
  have HE : Hid (_ ∧ _) := ⟨hX, And.intro hR (And.intro hf2 (And.intro hi hr))⟩
  have HV : Hid _ := hV2
  generalize hpcE : V.pc = pc at *
  obtain ⟨no, hno⟩ : ∃ no, no = f.ops.length := ⟨_, rfl⟩
  rw [← hno] at q2 hi ho48
  generalize V.steps = sx at *
  clear H H1 e hR hL hnr hf hq hd hX hf2 hno hV2 hpcE
  have hp' : (pc : Int) + 1 + 0 ≤ C.length := by omega
  have z : decide ((pc : Int) ≥ C.length) = false := decide_eq_false (by omega)
  have y2 : decide ((0 : Int) > (C.length : Int) - pc - 1) = false := decide_eq_false (by omega)
  have y3 : decide ((C.length : Int) - pc - 1 < (0 : Int)) = false := decide_eq_false (by omega)
  have y4 : decide ((no : Int) < 1) = false := decide_eq_false (by omega)
  have y5 : decide (nr < 0) = false := decide_eq_false (by omega)
  go_enter Tryz.func72, Tryz.ntmps72
  go_wp2_with fail
  refine (q1 _).mono ?_
  rintro v wa ⟨rfl, rfl⟩
  go_wp2_with fail
  refine q2.mono ?_
  rintro v wa ⟨rfl, m, rfl⟩
  go_wp2_with fail
  refine (q3 _).mono ?_
  rintro v wa ⟨rfl, rfl⟩
  go_wp2_with fail
  refine (q4 m).mono ?_
  rintro v wa ⟨rfl, m2, rfl⟩
  go_wp2_with fail
  refine (q5 _).mono ?_
  rintro v wa ⟨rfl, rfl⟩
  clear q1 q2 q3 q4 q5
  go_upto_region 20 with fail
  generalize hw2 : World.setCell _ ⟨A.m, 55, none⟩ _ = w2
  have H2 : RX w2 A C I V2 S st G nf cv iv ov := by rw [← hw2]; exact HK.out (m + m2)
  have F2 : Fr (VS A) w w2 := by rw [← hw2]; exact FF.out (m + m2)
  clear hw2 c1 c2 c3 c4 hlt hz p0 HK FF z y2 y3 y4 y5 hr48 hbm hb' hc
  have eX : X = (dropO V2 1, M) := by rw [HE.out.1]; exact rfl
  have HX2 : Hid _ := And.intro F2 (And.intro HE.out.2.1 eX)
  have hlt := H2.lt
  clear F2 eX
  obtain ⟨k, k1, k2, -, -⟩ := H2.one HE.out.2.2.1 HE.out.2.2.2.1
  have d1 := H2.r_sp
  rw [k1] at d1
  have hz := H2.blk.frozen
  have e1 : ((k + 1 : Nat) : Int) - 1 = (k : Int) := by omega
  have key : Hid _ := (H2.drop HE.out.2.2.1 1 HE.out.2.2.2.1 k1).y
  clear H2 HE He k1
  go_wp2_with fail
  go_end0
  rw [HX2.out.2.2]
  exact RS.of ⟨rfl, key.out, (Fr.refl (VS A) w2).setC A.m 49 _ (fun _ => .inl rfl)⟩ HX2.out.2.1 HX2.out.1
set_option maxRecDepth 100000 in
set_option maxHeartbeats 1000000 in
theorem step6 (H : RX w A C I V S st G nf cv iv ov) (hR : Rel S M) (hf : V.fs = f :: r) (hd : M.rt.length ≤ 24) (hq : f.rb + f.lr ≤ 24) (hop : byteAt C V.pc = 6) (hp : V.pc + 1 + 0 ≤ C.length) (hi : 0 ≤ f.ops.length) (hr : (1 : Int) ≤ (M.rt.length : Int) - f.rb - f.lr) : Calls Tryz.prog 72 #[.pointer (some ⟨A.m, 0, none⟩)] w (RS w A C I (execV C I 6 V.pc { V with steps := wr64 (V.steps + 1), pc := V.pc + 1 + 0 } M).1 (execV C I 6 V.pc { V with steps := wr64 (V.steps + 1), pc := V.pc + 1 + 0 } M).2 cv iv ov) := by
  obtain ⟨V2, hV2⟩ : ∃ V2 : Vs, V2 = { V with steps := wr64 (V.steps + 1), pc := V.pc + 1 + 0 } := ⟨_, rfl⟩
  rw [← hV2]
  obtain ⟨X, hX⟩ : ∃ X, X = execV C I 6 V.pc V2 M := ⟨_, rfl⟩
  rw [← hX]
  have hf2 : V2.fs = f :: r := by rw [hV2]; exact hf
  have c1 := H.r_steps
  have c2 := H.r_pc
  have c3 := H.r_cv
  have c4 := H.r_en
  have hlt := H.lt
  have hz := H.blk.frozen
  have hcl := H.cl
  obtain ⟨b, c, e, hb', hc⟩ := H.code.all (by omega)
  have hbm : b ≠ A.m := (H.cd b ⟨_, _, e⟩).1
  have He : Hid _ := e
  rw [e] at c3
  have p0 := hc V.pc (by omega)
  rw [hop] at p0
  have q1 : ∀ w, Calls Tryz.prog 42 #[.int .i64 6] w fun e w' => e = .returned (.int .i64 0) ∧ w' = w := fun w => opArgsF 6 (by omega) w
  have hL := hR.len
  have H1 := H.s_steps (wr64 (V.steps + 1))
  have q2 := iopsF H1 (f := f) (r := r) hf
  have q3 : ∀ w, Calls Tryz.prog 106 #[.int .i64 6] w fun e w' => e = .returned (.int .i64 0) ∧ w' = w := fun w => wantIF 6 (by omega) w
  have q4 := fun m => ropsF (H1.drewN m) (f := f) (r := r) hf (by omega) (by omega)
  rw [← hL] at q4
  have q5 : ∀ w, Calls Tryz.prog 107 #[.int .i64 6] w fun e w' => e = .returned (.int .i64 1) ∧ w' = w := fun w => wantRF 6 (by omega) w
  have ho48 : f.ops.length ≤ 48 := by have := (H.lays hf).2.2.2.1; have := H.s48; omega
  obtain ⟨nr, hnr⟩ : ∃ nr, nr = (M.rt.length : Int) - f.rb - f.lr := ⟨_, rfl⟩
  have hr48 : -48 ≤ nr ∧ nr ≤ 24 := by omega
  rw [← hnr] at q4 hr
  have HK : Hid (∀ m, RX _ A C I V2 S st G nf cv iv ov) := fun m => by rw [hV2]; exact (H1.drewN m).s_pc (V.pc + 1 + 0)
  have FF : Hid (∀ m, _) := fun m => (((Fr.refl (VS A) w).setC A.m 63 (.int .i64 (wr64 (V.steps + 1))) (fun _ => .inl rfl)).drewN m).setC A.m 55 (.int .i64 (V.pc + 1 + 0 : Nat)) (fun _ => .inl rfl)
  have HE : Hid (_ ∧ _) := ⟨hX, And.intro hR (And.intro hf2 (And.intro hi hr))⟩
  have HV : Hid _ := hV2
  generalize hpcE : V.pc = pc at *
  obtain ⟨no, hno⟩ : ∃ no, no = f.ops.length := ⟨_, rfl⟩
  rw [← hno] at q2 hi ho48
  generalize V.steps = sx at *
  clear H H1 e hR hL hnr hf hq hd hX hf2 hno hV2 hpcE
  have hp' : (pc : Int) + 1 + 0 ≤ C.length := by omega
  have z : decide ((pc : Int) ≥ C.length) = false := decide_eq_false (by omega)
  have y2 : decide ((0 : Int) > (C.length : Int) - pc - 1) = false := decide_eq_false (by omega)
  have y3 : decide ((C.length : Int) - pc - 1 < (0 : Int)) = false := decide_eq_false (by omega)
  have y4 : decide ((no : Int) < 0) = false := decide_eq_false (by omega)
  have y5 : decide (nr < 1) = false := decide_eq_false (by omega)
  go_enter Tryz.func72, Tryz.ntmps72
  go_wp2_with fail
  refine (q1 _).mono ?_
  rintro v wa ⟨rfl, rfl⟩
  go_wp2_with fail
  refine q2.mono ?_
  rintro v wa ⟨rfl, m, rfl⟩
  go_wp2_with fail
  refine (q3 _).mono ?_
  rintro v wa ⟨rfl, rfl⟩
  go_wp2_with fail
  refine (q4 m).mono ?_
  rintro v wa ⟨rfl, m2, rfl⟩
  go_wp2_with fail
  refine (q5 _).mono ?_
  rintro v wa ⟨rfl, rfl⟩
  clear q1 q2 q3 q4 q5
  go_upto_region 28 with fail
  generalize hw2 : World.setCell _ ⟨A.m, 55, none⟩ _ = w2
  have H2 : RX w2 A C I V2 S st G nf cv iv ov := by rw [← hw2]; exact HK.out (m + m2)
  have F2 : Fr (VS A) w w2 := by rw [← hw2]; exact FF.out (m + m2)
  clear hw2 c1 c2 c3 c4 hlt hz p0 HK FF z y2 y3 y4 y5 hr48 hbm hb' hc
  have eX : X = (V2, (popM M 1).2) := by rw [HE.out.1]; exact rfl
  have HX2 : Hid _ := And.intro F2 (And.intro HE.out.2.1 eX)
  have hlt := H2.lt
  clear F2 eX
  have d1 := H2.r_h
  have hq1 := popF H2.hm HE.out.2.1.top 1
  have HH : Hid _ := H2
  clear H2 He
  go_wp2_with fail
  refine hq1.mono ?_
  rintro v w3 ⟨rfl, h3, h4⟩
  go_wp2_with fail
  go_end0
  rw [HX2.out.2.2]
  exact RZ.s ⟨rfl, _, (HH.out.heap h4 h3).y, (HE.out.2.1.pop 1).2, h4.mono (fun _ _ h => .inr h)⟩ HX2.out.1
set_option maxRecDepth 100000 in
set_option maxHeartbeats 1000000 in
theorem step7 (H : RX w A C I V S st G nf cv iv ov) (hR : Rel S M) (hf : V.fs = f :: r) (hd : M.rt.length ≤ 24) (hq : f.rb + f.lr ≤ 24) (hop : byteAt C V.pc = 7) (hp : V.pc + 1 + 0 ≤ C.length) (hi : 0 ≤ f.ops.length) (hr : (0 : Int) ≤ (M.rt.length : Int) - f.rb - f.lr) : Calls Tryz.prog 72 #[.pointer (some ⟨A.m, 0, none⟩)] w (RS w A C I (execV C I 7 V.pc { V with steps := wr64 (V.steps + 1), pc := V.pc + 1 + 0 } M).1 (execV C I 7 V.pc { V with steps := wr64 (V.steps + 1), pc := V.pc + 1 + 0 } M).2 cv iv ov) := by
  obtain ⟨V2, hV2⟩ : ∃ V2 : Vs, V2 = { V with steps := wr64 (V.steps + 1), pc := V.pc + 1 + 0 } := ⟨_, rfl⟩
  rw [← hV2]
  obtain ⟨X, hX⟩ : ∃ X, X = execV C I 7 V.pc V2 M := ⟨_, rfl⟩
  rw [← hX]
  have hf2 : V2.fs = f :: r := by rw [hV2]; exact hf
  have c1 := H.r_steps
  have c2 := H.r_pc
  have c3 := H.r_cv
  have c4 := H.r_en
  have hlt := H.lt
  have hz := H.blk.frozen
  have hcl := H.cl
  obtain ⟨b, c, e, hb', hc⟩ := H.code.all (by omega)
  have hbm : b ≠ A.m := (H.cd b ⟨_, _, e⟩).1
  have He : Hid _ := e
  rw [e] at c3
  have p0 := hc V.pc (by omega)
  rw [hop] at p0
  have q1 : ∀ w, Calls Tryz.prog 42 #[.int .i64 7] w fun e w' => e = .returned (.int .i64 0) ∧ w' = w := fun w => opArgsF 7 (by omega) w
  have hL := hR.len
  have H1 := H.s_steps (wr64 (V.steps + 1))
  have q2 := iopsF H1 (f := f) (r := r) hf
  have q3 : ∀ w, Calls Tryz.prog 106 #[.int .i64 7] w fun e w' => e = .returned (.int .i64 0) ∧ w' = w := fun w => wantIF 7 (by omega) w
  have q4 := fun m => ropsF (H1.drewN m) (f := f) (r := r) hf (by omega) (by omega)
  rw [← hL] at q4
  have q5 : ∀ w, Calls Tryz.prog 107 #[.int .i64 7] w fun e w' => e = .returned (.int .i64 0) ∧ w' = w := fun w => wantRF 7 (by omega) w
  have ho48 : f.ops.length ≤ 48 := by have := (H.lays hf).2.2.2.1; have := H.s48; omega
  obtain ⟨nr, hnr⟩ : ∃ nr, nr = (M.rt.length : Int) - f.rb - f.lr := ⟨_, rfl⟩
  have hr48 : -48 ≤ nr ∧ nr ≤ 24 := by omega
  rw [← hnr] at q4 hr
  have HK : Hid (∀ m, RX _ A C I V2 S st G nf cv iv ov) := fun m => by rw [hV2]; exact (H1.drewN m).s_pc (V.pc + 1 + 0)
  have FF : Hid (∀ m, _) := fun m => (((Fr.refl (VS A) w).setC A.m 63 (.int .i64 (wr64 (V.steps + 1))) (fun _ => .inl rfl)).drewN m).setC A.m 55 (.int .i64 (V.pc + 1 + 0 : Nat)) (fun _ => .inl rfl)
  have HE : Hid (_ ∧ _) := ⟨hX, And.intro hR (And.intro hf2 (And.intro hi hr))⟩
  have HV : Hid _ := hV2
  generalize hpcE : V.pc = pc at *
  obtain ⟨no, hno⟩ : ∃ no, no = f.ops.length := ⟨_, rfl⟩
  rw [← hno] at q2 hi ho48
  generalize V.steps = sx at *
  clear H H1 e hR hL hnr hf hq hd hX hf2 hno hV2 hpcE
  have hp' : (pc : Int) + 1 + 0 ≤ C.length := by omega
  have z : decide ((pc : Int) ≥ C.length) = false := decide_eq_false (by omega)
  have y2 : decide ((0 : Int) > (C.length : Int) - pc - 1) = false := decide_eq_false (by omega)
  have y3 : decide ((C.length : Int) - pc - 1 < (0 : Int)) = false := decide_eq_false (by omega)
  have y4 : decide ((no : Int) < 0) = false := decide_eq_false (by omega)
  have y5 : decide (nr < 0) = false := decide_eq_false (by omega)
  go_enter Tryz.func72, Tryz.ntmps72
  go_wp2_with fail
  refine (q1 _).mono ?_
  rintro v wa ⟨rfl, rfl⟩
  go_wp2_with fail
  refine q2.mono ?_
  rintro v wa ⟨rfl, m, rfl⟩
  go_wp2_with fail
  refine (q3 _).mono ?_
  rintro v wa ⟨rfl, rfl⟩
  go_wp2_with fail
  refine (q4 m).mono ?_
  rintro v wa ⟨rfl, m2, rfl⟩
  go_wp2_with fail
  refine (q5 _).mono ?_
  rintro v wa ⟨rfl, rfl⟩
  clear q1 q2 q3 q4 q5
  go_upto_region 30 with fail
  generalize hw2 : World.setCell _ ⟨A.m, 55, none⟩ _ = w2
  have H2 : RX w2 A C I V2 S st G nf cv iv ov := by rw [← hw2]; exact HK.out (m + m2)
  have F2 : Fr (VS A) w w2 := by rw [← hw2]; exact FF.out (m + m2)
  clear hw2 c1 c2 c3 c4 hlt hz p0 HK FF z y2 y3 y4 y5 hr48 hbm hb' hc
  have eX : X = (did V2 (pushM M).1, (pushM M).2) := by rw [HE.out.1]; exact rfl
  have HX2 : Hid _ := And.intro F2 (And.intro HE.out.2.1 eX)
  have hlt := H2.lt
  clear F2 eX
  have d1 := H2.r_h
  have hq1 := pushF H2.hm HE.out.2.1.top
  have HH : Hid _ := H2
  have hRp := HE.out.2.1.push
  rw [hRp.1] at hq1
  generalize (pushM M).1 = er at *
  clear H2 He
  go_wp2_with fail
  refine hq1.mono ?_
  rintro v w3 ⟨rfl, h3, h4⟩
  have H3 := HH.out.heap h4 h3
  have hq2 := heapDidF H3 er
  have hlt3 := H3.lt
  clear H3
  go_wp2_with fail
  refine hq2.mono ?_
  rintro v w4 ⟨rfl, h5, h6⟩
  go_wp2_with fail
  go_end0
  rw [HX2.out.2.2]
  exact RZ.s ⟨rfl, _, h5.y, hRp.2, (h4.mono (fun _ _ h => .inr h)).trans h6 (fun _ _ h => h)⟩ HX2.out.1
end
end Go.Proofs.Qxb6500277aGreat
