/- The real machine: steps (written by genVR26.py). -/
import Derived.Test.Qxb6500277aGreatVR26
namespace Go.Proofs.Qxb6500277aGreat
open Go Go.RowKit

section
variable {w w' w0 : World} {A : Va} {C : List Nat} {I : List Int} {V V' : Vs} {S S' : HS} {M M' : MS} {st st' : Nat → Int} {G : Gx} {nf : Nat} {cv iv ov : Value} {f : Fm} {r : List Fm} {e : Ending}
set_option maxRecDepth 100000 in
set_option maxHeartbeats 1000000 in
theorem step18 (H : RX w A C I V S st G nf cv iv ov) (hR : Rel S M) (hf : V.fs = f :: r) (hd : M.rt.length ≤ 24) (hq : f.rb + f.lr ≤ 24) (hop : byteAt C V.pc = 18) (hp : V.pc + 1 + 0 ≤ C.length) (hi : 2 ≤ f.ops.length) (hr : (0 : Int) ≤ (M.rt.length : Int) - f.rb - f.lr) : Calls Tryz.prog 72 #[.pointer (some ⟨A.m, 0, none⟩)] w (RS w A C I (execV C I 18 V.pc { V with steps := wr64 (V.steps + 1), pc := V.pc + 1 + 0 } M).1 (execV C I 18 V.pc { V with steps := wr64 (V.steps + 1), pc := V.pc + 1 + 0 } M).2 cv iv ov) := by
  obtain ⟨V2, hV2⟩ : ∃ V2 : Vs, V2 = { V with steps := wr64 (V.steps + 1), pc := V.pc + 1 + 0 } := ⟨_, rfl⟩
  rw [← hV2]
  obtain ⟨X, hX⟩ : ∃ X, X = execV C I 18 V.pc V2 M := ⟨_, rfl⟩
  rw [← hX]
  have hf2 : V2.fs = f :: r := by rw [hV2]; exact hf
  have c1 := H.r_steps
  have c2 := H.r_pc
  have c3 := H.r_cv
  have c4 := H.r_en
  have hlt := H.lt
  have hz := H.blk.frozen
  have hcl := H.cl
  obtain ⟨b, c, e, hb', hc⟩ := H.code.all (by omega)
  have hbm : b ≠ A.m := (H.cd b ⟨_, _, e⟩).1
  have He : Hid _ := e
  rw [e] at c3
  have p0 := hc V.pc (by omega)
  rw [hop] at p0
  have q1 : ∀ w, Calls Tryz.prog 42 #[.int .i64 18] w fun e w' => e = .returned (.int .i64 0) ∧ w' = w := fun w => opArgsF 18 (by omega) w
  have hL := hR.len
  have H1 := H.s_steps (wr64 (V.steps + 1))
  have q2 := iopsF H1 (f := f) (r := r) hf
  have q3 : ∀ w, Calls Tryz.prog 106 #[.int .i64 18] w fun e w' => e = .returned (.int .i64 2) ∧ w' = w := fun w => wantIF 18 (by omega) w
  have q4 := fun m => ropsF (H1.drewN m) (f := f) (r := r) hf (by omega) (by omega)
  rw [← hL] at q4
  have q5 : ∀ w, Calls Tryz.prog 107 #[.int .i64 18] w fun e w' => e = .returned (.int .i64 0) ∧ w' = w := fun w => wantRF 18 (by omega) w
  have ho48 : f.ops.length ≤ 48 := by have := (H.lays hf).2.2.2.1; have := H.s48; omega
  obtain ⟨nr, hnr⟩ : ∃ nr, nr = (M.rt.length : Int) - f.rb - f.lr := ⟨_, rfl⟩
  have hr48 : -48 ≤ nr ∧ nr ≤ 24 := by omega
  rw [← hnr] at q4 hr
  have HK : Hid (∀ m, RX _ A C I V2 S st G nf cv iv ov) := fun m => by rw [hV2]; exact (H1.drewN m).s_pc (V.pc + 1 + 0)
  have FF : Hid (∀ m, _) := fun m => (((Fr.refl (VS A) w).setC A.m 63 (.int .i64 (wr64 (V.steps + 1))) (fun _ => .inl rfl)).drewN m).setC A.m 55 (.int .i64 (V.pc + 1 + 0 : Nat)) (fun _ => .inl rfl)
  have HE : Hid (_ ∧ _) := ⟨hX, And.intro hR (And.intro hf2 (And.intro hi hr))⟩
  have HV : Hid _ := hV2
  generalize hpcE : V.pc = pc at *
  obtain ⟨no, hno⟩ : ∃ no, no = f.ops.length := ⟨_, rfl⟩
  rw [← hno] at q2 hi ho48
  generalize V.steps = sx at *
  clear H H1 e hR hL hnr hf hq hd hX hf2 hno hV2 hpcE
  have hp' : (pc : Int) + 1 + 0 ≤ C.length := by omega
  have z : decide ((pc : Int) ≥ C.length) = false := decide_eq_false (by omega)
  have y2 : decide ((0 : Int) > (C.length : Int) - pc - 1) = false := decide_eq_false (by omega)
  have y3 : decide ((C.length : Int) - pc - 1 < (0 : Int)) = false := decide_eq_false (by omega)
  have y4 : decide ((no : Int) < 2) = false := decide_eq_false (by omega)
  have y5 : decide (nr < 0) = false := decide_eq_false (by omega)
  go_enter Tryz.func72, Tryz.ntmps72
  go_wp2_with fail
  refine (q1 _).mono ?_
  rintro v wa ⟨rfl, rfl⟩
  go_wp2_with fail
  refine q2.mono ?_
  rintro v wa ⟨rfl, m, rfl⟩
  go_wp2_with fail
  refine (q3 _).mono ?_
  rintro v wa ⟨rfl, rfl⟩
  go_wp2_with fail
  refine (q4 m).mono ?_
  rintro v wa ⟨rfl, m2, rfl⟩
  go_wp2_with fail
  refine (q5 _).mono ?_
  rintro v wa ⟨rfl, rfl⟩
  clear q1 q2 q3 q4 q5
  go_upto_region 44 with fail
  generalize hw2 : World.setCell _ ⟨A.m, 55, none⟩ _ = w2
  have H2 : RX w2 A C I V2 S st G nf cv iv ov := by rw [← hw2]; exact HK.out (m + m2)
  have F2 : Fr (VS A) w w2 := by rw [← hw2]; exact FF.out (m + m2)
  clear hw2 c1 c2 c3 c4 hlt hz p0 HK FF z y2 y3 y4 y5 hr48 hbm hb' hc
  have hq1 := comp18 H2 HE.out.2.2.1 HE.out.2.2.2.1
  have HX2 : Hid _ := And.intro H2 F2
  have hlt := H2.lt
  clear H2 F2
  go_wp2_with fail
  refine hq1.mono ?_
  rintro v w3 ⟨rfl, h3⟩
  go_wp2_with fail
  go_end0
  rw [show X = (putO V2 2 (compI 18 (opn V2 1) (opn V2 0)), M) from HE.out.1]
  exact RS.of ⟨rfl, h3⟩ HE.out.2.1 HX2.out.2
set_option maxRecDepth 100000 in
set_option maxHeartbeats 1000000 in
theorem step19 (H : RX w A C I V S st G nf cv iv ov) (hR : Rel S M) (hf : V.fs = f :: r) (hd : M.rt.length ≤ 24) (hq : f.rb + f.lr ≤ 24) (hop : byteAt C V.pc = 19) (hp : V.pc + 1 + 0 ≤ C.length) (hi : 2 ≤ f.ops.length) (hr : (0 : Int) ≤ (M.rt.length : Int) - f.rb - f.lr) : Calls Tryz.prog 72 #[.pointer (some ⟨A.m, 0, none⟩)] w (RS w A C I (execV C I 19 V.pc { V with steps := wr64 (V.steps + 1), pc := V.pc + 1 + 0 } M).1 (execV C I 19 V.pc { V with steps := wr64 (V.steps + 1), pc := V.pc + 1 + 0 } M).2 cv iv ov) := by
  obtain ⟨V2, hV2⟩ : ∃ V2 : Vs, V2 = { V with steps := wr64 (V.steps + 1), pc := V.pc + 1 + 0 } := ⟨_, rfl⟩
  rw [← hV2]
  obtain ⟨X, hX⟩ : ∃ X, X = execV C I 19 V.pc V2 M := ⟨_, rfl⟩
  rw [← hX]
  have hf2 : V2.fs = f :: r := by rw [hV2]; exact hf
  have c1 := H.r_steps
  have c2 := H.r_pc
  have c3 := H.r_cv
  have c4 := H.r_en
  have hlt := H.lt
  have hz := H.blk.frozen
  have hcl := H.cl
  obtain ⟨b, c, e, hb', hc⟩ := H.code.all (by omega)
  have hbm : b ≠ A.m := (H.cd b ⟨_, _, e⟩).1
  have He : Hid _ := e
  rw [e] at c3
  have p0 := hc V.pc (by omega)
  rw [hop] at p0
  have q1 : ∀ w, Calls Tryz.prog 42 #[.int .i64 19] w fun e w' => e = .returned (.int .i64 0) ∧ w' = w := fun w => opArgsF 19 (by omega) w
  have hL := hR.len
  have H1 := H.s_steps (wr64 (V.steps + 1))
  have q2 := iopsF H1 (f := f) (r := r) hf
  have q3 : ∀ w, Calls Tryz.prog 106 #[.int .i64 19] w fun e w' => e = .returned (.int .i64 2) ∧ w' = w := fun w => wantIF 19 (by omega) w
  have q4 := fun m => ropsF (H1.drewN m) (f := f) (r := r) hf (by omega) (by omega)
  rw [← hL] at q4
  have q5 : ∀ w, Calls Tryz.prog 107 #[.int .i64 19] w fun e w' => e = .returned (.int .i64 0) ∧ w' = w := fun w => wantRF 19 (by omega) w
  have ho48 : f.ops.length ≤ 48 := by have := (H.lays hf).2.2.2.1; have := H.s48; omega
  obtain ⟨nr, hnr⟩ : ∃ nr, nr = (M.rt.length : Int) - f.rb - f.lr := ⟨_, rfl⟩
  have hr48 : -48 ≤ nr ∧ nr ≤ 24 := by omega
  rw [← hnr] at q4 hr
  have HK : Hid (∀ m, RX _ A C I V2 S st G nf cv iv ov) := fun m => by rw [hV2]; exact (H1.drewN m).s_pc (V.pc + 1 + 0)
  have FF : Hid (∀ m, _) := fun m => (((Fr.refl (VS A) w).setC A.m 63 (.int .i64 (wr64 (V.steps + 1))) (fun _ => .inl rfl)).drewN m).setC A.m 55 (.int .i64 (V.pc + 1 + 0 : Nat)) (fun _ => .inl rfl)
  have HE : Hid (_ ∧ _) := ⟨hX, And.intro hR (And.intro hf2 (And.intro hi hr))⟩
  have HV : Hid _ := hV2
  generalize hpcE : V.pc = pc at *
  obtain ⟨no, hno⟩ : ∃ no, no = f.ops.length := ⟨_, rfl⟩
  rw [← hno] at q2 hi ho48
  generalize V.steps = sx at *
  clear H H1 e hR hL hnr hf hq hd hX hf2 hno hV2 hpcE
  have hp' : (pc : Int) + 1 + 0 ≤ C.length := by omega
  have z : decide ((pc : Int) ≥ C.length) = false := decide_eq_false (by omega)
  have y2 : decide ((0 : Int) > (C.length : Int) - pc - 1) = false := decide_eq_false (by omega)
  have y3 : decide ((C.length : Int) - pc - 1 < (0 : Int)) = false := decide_eq_false (by omega)
  have y4 : decide ((no : Int) < 2) = false := decide_eq_false (by omega)
  have y5 : decide (nr < 0) = false := decide_eq_false (by omega)
  go_enter Tryz.func72, Tryz.ntmps72
  go_wp2_with fail
  refine (q1 _).mono ?_
  rintro v wa ⟨rfl, rfl⟩
  go_wp2_with fail
  refine q2.mono ?_
  rintro v wa ⟨rfl, m, rfl⟩
  go_wp2_with fail
  refine (q3 _).mono ?_
  rintro v wa ⟨rfl, rfl⟩
  go_wp2_with fail
  refine (q4 m).mono ?_
  rintro v wa ⟨rfl, m2, rfl⟩
  go_wp2_with fail
  refine (q5 _).mono ?_
  rintro v wa ⟨rfl, rfl⟩
  clear q1 q2 q3 q4 q5
  go_upto_region 44 with fail
  generalize hw2 : World.setCell _ ⟨A.m, 55, none⟩ _ = w2
  have H2 : RX w2 A C I V2 S st G nf cv iv ov := by rw [← hw2]; exact HK.out (m + m2)
  have F2 : Fr (VS A) w w2 := by rw [← hw2]; exact FF.out (m + m2)
  clear hw2 c1 c2 c3 c4 hlt hz p0 HK FF z y2 y3 y4 y5 hr48 hbm hb' hc
  have hq1 := comp19 H2 HE.out.2.2.1 HE.out.2.2.2.1
  have HX2 : Hid _ := And.intro H2 F2
  have hlt := H2.lt
  clear H2 F2
  go_wp2_with fail
  refine hq1.mono ?_
  rintro v w3 ⟨rfl, h3⟩
  go_wp2_with fail
  go_end0
  rw [show X = (putO V2 2 (compI 19 (opn V2 1) (opn V2 0)), M) from HE.out.1]
  exact RS.of ⟨rfl, h3⟩ HE.out.2.1 HX2.out.2
set_option maxRecDepth 100000 in
set_option maxHeartbeats 1000000 in
theorem step20 (H : RX w A C I V S st G nf cv iv ov) (hR : Rel S M) (hf : V.fs = f :: r) (hd : M.rt.length ≤ 24) (hq : f.rb + f.lr ≤ 24) (hop : byteAt C V.pc = 20) (hp : V.pc + 1 + 0 ≤ C.length) (hi : 2 ≤ f.ops.length) (hr : (0 : Int) ≤ (M.rt.length : Int) - f.rb - f.lr) : Calls Tryz.prog 72 #[.pointer (some ⟨A.m, 0, none⟩)] w (RS w A C I (execV C I 20 V.pc { V with steps := wr64 (V.steps + 1), pc := V.pc + 1 + 0 } M).1 (execV C I 20 V.pc { V with steps := wr64 (V.steps + 1), pc := V.pc + 1 + 0 } M).2 cv iv ov) := by
  obtain ⟨V2, hV2⟩ : ∃ V2 : Vs, V2 = { V with steps := wr64 (V.steps + 1), pc := V.pc + 1 + 0 } := ⟨_, rfl⟩
  rw [← hV2]
  obtain ⟨X, hX⟩ : ∃ X, X = execV C I 20 V.pc V2 M := ⟨_, rfl⟩
  rw [← hX]
  have hf2 : V2.fs = f :: r := by rw [hV2]; exact hf
  have c1 := H.r_steps
  have c2 := H.r_pc
  have c3 := H.r_cv
  have c4 := H.r_en
  have hlt := H.lt
  have hz := H.blk.frozen
  have hcl := H.cl
  obtain ⟨b, c, e, hb', hc⟩ := H.code.all (by omega)
  have hbm : b ≠ A.m := (H.cd b ⟨_, _, e⟩).1
  have He : Hid _ := e
  rw [e] at c3
  have p0 := hc V.pc (by omega)
  rw [hop] at p0
  have q1 : ∀ w, Calls Tryz.prog 42 #[.int .i64 20] w fun e w' => e = .returned (.int .i64 0) ∧ w' = w := fun w => opArgsF 20 (by omega) w
  have hL := hR.len
  have H1 := H.s_steps (wr64 (V.steps + 1))
  have q2 := iopsF H1 (f := f) (r := r) hf
  have q3 : ∀ w, Calls Tryz.prog 106 #[.int .i64 20] w fun e w' => e = .returned (.int .i64 2) ∧ w' = w := fun w => wantIF 20 (by omega) w
  have q4 := fun m => ropsF (H1.drewN m) (f := f) (r := r) hf (by omega) (by omega)
  rw [← hL] at q4
  have q5 : ∀ w, Calls Tryz.prog 107 #[.int .i64 20] w fun e w' => e = .returned (.int .i64 0) ∧ w' = w := fun w => wantRF 20 (by omega) w
  have ho48 : f.ops.length ≤ 48 := by have := (H.lays hf).2.2.2.1; have := H.s48; omega
  obtain ⟨nr, hnr⟩ : ∃ nr, nr = (M.rt.length : Int) - f.rb - f.lr := ⟨_, rfl⟩
  have hr48 : -48 ≤ nr ∧ nr ≤ 24 := by omega
  rw [← hnr] at q4 hr
  have HK : Hid (∀ m, RX _ A C I V2 S st G nf cv iv ov) := fun m => by rw [hV2]; exact (H1.drewN m).s_pc (V.pc + 1 + 0)
  have FF : Hid (∀ m, _) := fun m => (((Fr.refl (VS A) w).setC A.m 63 (.int .i64 (wr64 (V.steps + 1))) (fun _ => .inl rfl)).drewN m).setC A.m 55 (.int .i64 (V.pc + 1 + 0 : Nat)) (fun _ => .inl rfl)
  have HE : Hid (_ ∧ _) := ⟨hX, And.intro hR (And.intro hf2 (And.intro hi hr))⟩
  have HV : Hid _ := hV2
  generalize hpcE : V.pc = pc at *
  obtain ⟨no, hno⟩ : ∃ no, no = f.ops.length := ⟨_, rfl⟩
  rw [← hno] at q2 hi ho48
  generalize V.steps = sx at *
  clear H H1 e hR hL hnr hf hq hd hX hf2 hno hV2 hpcE
  have hp' : (pc : Int) + 1 + 0 ≤ C.length := by omega
  have z : decide ((pc : Int) ≥ C.length) = false := decide_eq_false (by omega)
  have y2 : decide ((0 : Int) > (C.length : Int) - pc - 1) = false := decide_eq_false (by omega)
  have y3 : decide ((C.length : Int) - pc - 1 < (0 : Int)) = false := decide_eq_false (by omega)
  have y4 : decide ((no : Int) < 2) = false := decide_eq_false (by omega)
  have y5 : decide (nr < 0) = false := decide_eq_false (by omega)
  go_enter Tryz.func72, Tryz.ntmps72
  go_wp2_with fail
  refine (q1 _).mono ?_
  rintro v wa ⟨rfl, rfl⟩
  go_wp2_with fail
  refine q2.mono ?_
  rintro v wa ⟨rfl, m, rfl⟩
  go_wp2_with fail
  refine (q3 _).mono ?_
  rintro v wa ⟨rfl, rfl⟩
  go_wp2_with fail
  refine (q4 m).mono ?_
  rintro v wa ⟨rfl, m2, rfl⟩
  go_wp2_with fail
  refine (q5 _).mono ?_
  rintro v wa ⟨rfl, rfl⟩
  clear q1 q2 q3 q4 q5
  go_upto_region 44 with fail
  generalize hw2 : World.setCell _ ⟨A.m, 55, none⟩ _ = w2
  have H2 : RX w2 A C I V2 S st G nf cv iv ov := by rw [← hw2]; exact HK.out (m + m2)
  have F2 : Fr (VS A) w w2 := by rw [← hw2]; exact FF.out (m + m2)
  clear hw2 c1 c2 c3 c4 hlt hz p0 HK FF z y2 y3 y4 y5 hr48 hbm hb' hc
  have hq1 := comp20 H2 HE.out.2.2.1 HE.out.2.2.2.1
  have HX2 : Hid _ := And.intro H2 F2
  have hlt := H2.lt
  clear H2 F2
  go_wp2_with fail
  refine hq1.mono ?_
  rintro v w3 ⟨rfl, h3⟩
  go_wp2_with fail
  go_end0
  rw [show X = (putO V2 2 (compI 20 (opn V2 1) (opn V2 0)), M) from HE.out.1]
  exact RS.of ⟨rfl, h3⟩ HE.out.2.1 HX2.out.2
set_option maxRecDepth 100000 in
set_option maxHeartbeats 1000000 in
theorem step26e (H : RX w A C I V S st G nf cv iv ov) (hR : Rel S M) (hf : V.fs = f :: r) (hd : M.rt.length ≤ 24) (hq : f.rb + f.lr ≤ 24) (hop : byteAt C V.pc = 26) (hp : V.pc + 1 + 0 ≤ C.length) (hi : 1 ≤ f.ops.length) (hr : (0 : Int) ≤ (M.rt.length : Int) - f.rb - f.lr) (hrb : f.rb ≤ 24) (hx : r = []) : Calls Tryz.prog 72 #[.pointer (some ⟨A.m, 0, none⟩)] w (RS w A C I (execV C I 26 V.pc { V with steps := wr64 (V.steps + 1), pc := V.pc + 1 + 0 } M).1 (execV C I 26 V.pc { V with steps := wr64 (V.steps + 1), pc := V.pc + 1 + 0 } M).2 cv iv ov) := by
  obtain ⟨V2, hV2⟩ : ∃ V2 : Vs, V2 = { V with steps := wr64 (V.steps + 1), pc := V.pc + 1 + 0 } := ⟨_, rfl⟩
  rw [← hV2]
  obtain ⟨X, hX⟩ : ∃ X, X = execV C I 26 V.pc V2 M := ⟨_, rfl⟩
  rw [← hX]
  have hf2 : V2.fs = f :: r := by rw [hV2]; exact hf
  have c1 := H.r_steps
  have c2 := H.r_pc
  have c3 := H.r_cv
  have c4 := H.r_en
  have hlt := H.lt
  have hz := H.blk.frozen
  have hcl := H.cl
  obtain ⟨b, c, e, hb', hc⟩ := H.code.all (by omega)
  have hbm : b ≠ A.m := (H.cd b ⟨_, _, e⟩).1
  have He : Hid _ := e
  rw [e] at c3
  have p0 := hc V.pc (by omega)
  rw [hop] at p0
  have q1 : ∀ w, Calls Tryz.prog 42 #[.int .i64 26] w fun e w' => e = .returned (.int .i64 0) ∧ w' = w := fun w => opArgsF 26 (by omega) w
  have hL := hR.len
  have H1 := H.s_steps (wr64 (V.steps + 1))
  have q2 := iopsF H1 (f := f) (r := r) hf
  have q3 : ∀ w, Calls Tryz.prog 106 #[.int .i64 26] w fun e w' => e = .returned (.int .i64 1) ∧ w' = w := fun w => wantIF 26 (by omega) w
  have q4 := fun m => ropsF (H1.drewN m) (f := f) (r := r) hf (by omega) (by omega)
  rw [← hL] at q4
  have q5 : ∀ w, Calls Tryz.prog 107 #[.int .i64 26] w fun e w' => e = .returned (.int .i64 0) ∧ w' = w := fun w => wantRF 26 (by omega) w
  have ho48 : f.ops.length ≤ 48 := by have := (H.lays hf).2.2.2.1; have := H.s48; omega
  obtain ⟨nr, hnr⟩ : ∃ nr, nr = (M.rt.length : Int) - f.rb - f.lr := ⟨_, rfl⟩
  have hr48 : -48 ≤ nr ∧ nr ≤ 24 := by omega
  rw [← hnr] at q4 hr
  have HK : Hid (∀ m, RX _ A C I V2 S st G nf cv iv ov) := fun m => by rw [hV2]; exact (H1.drewN m).s_pc (V.pc + 1 + 0)
  have FF : Hid (∀ m, _) := fun m => (((Fr.refl (VS A) w).setC A.m 63 (.int .i64 (wr64 (V.steps + 1))) (fun _ => .inl rfl)).drewN m).setC A.m 55 (.int .i64 (V.pc + 1 + 0 : Nat)) (fun _ => .inl rfl)
  have HE : Hid (_ ∧ _) := ⟨hX, And.intro hR (And.intro hf2 (And.intro hi hr))⟩
  have HV : Hid _ := hV2
  generalize hpcE : V.pc = pc at *
  obtain ⟨no, hno⟩ : ∃ no, no = f.ops.length := ⟨_, rfl⟩
  rw [← hno] at q2 hi ho48
  generalize V.steps = sx at *
  clear H H1 e hR hL hnr hf hq hd hX hf2 hno hV2 hpcE
  have hp' : (pc : Int) + 1 + 0 ≤ C.length := by omega
  have z : decide ((pc : Int) ≥ C.length) = false := decide_eq_false (by omega)
  have y2 : decide ((0 : Int) > (C.length : Int) - pc - 1) = false := decide_eq_false (by omega)
  have y3 : decide ((C.length : Int) - pc - 1 < (0 : Int)) = false := decide_eq_false (by omega)
  have y4 : decide ((no : Int) < 1) = false := decide_eq_false (by omega)
  have y5 : decide (nr < 0) = false := decide_eq_false (by omega)
  go_enter Tryz.func72, Tryz.ntmps72
  go_wp2_with fail
  refine (q1 _).mono ?_
  rintro v wa ⟨rfl, rfl⟩
  go_wp2_with fail
  refine q2.mono ?_
  rintro v wa ⟨rfl, m, rfl⟩
  go_wp2_with fail
  refine (q3 _).mono ?_
  rintro v wa ⟨rfl, rfl⟩
  go_wp2_with fail
  refine (q4 m).mono ?_
  rintro v wa ⟨rfl, m2, rfl⟩
  go_wp2_with fail
  refine (q5 _).mono ?_
  rintro v wa ⟨rfl, rfl⟩
  clear q1 q2 q3 q4 q5
  go_upto_region 68 with fail
  generalize hw2 : World.setCell _ ⟨A.m, 55, none⟩ _ = w2
  have H2 : RX w2 A C I V2 S st G nf cv iv ov := by rw [← hw2]; exact HK.out (m + m2)
  have F2 : Fr (VS A) w w2 := by rw [← hw2]; exact FF.out (m + m2)
  clear hw2 c1 c2 c3 c4 hlt hz p0 HK FF z y2 y3 y4 y5 hr48 hbm hb' hc
  have eX : X = ({ leaveV V2 with en := 21, rt := opn V2 0 }, (popM M ((M.rt.length : Int) - f.rb)).2) := by rw [HE.out.1]; show (if (leaveV V2).fs = [] then _ else _, _) = _; rw [if_pos (by rw [leaveV_fs HE.out.2.2.1]; exact hx), topF_c HE.out.2.2.1]
  have hq1 := retI_end H2 HE.out.2.1 HE.out.2.2.1 hx HE.out.2.2.2.1 hrb
  have HX2 : Hid _ := And.intro F2 (And.intro HE.out.2.1 eX)
  have hlt := H2.lt
  clear H2 F2 eX HE
  go_wp2_with fail
  refine hq1.mono ?_
  rintro v w3 ⟨rfl, h3⟩
  go_wp2_with fail
  go_end0
  rw [HX2.out.2.2]
  exact RZ.s ⟨rfl, h3⟩ HX2.out.1
set_option maxRecDepth 100000 in
set_option maxHeartbeats 1000000 in
theorem step26 (H : RX w A C I V S st G nf cv iv ov) (hR : Rel S M) (hf : V.fs = f :: r) (hd : M.rt.length ≤ 24) (hq : f.rb + f.lr ≤ 24) (hop : byteAt C V.pc = 26) (hp : V.pc + 1 + 0 ≤ C.length) (hi : 1 ≤ f.ops.length) (hr : (0 : Int) ≤ (M.rt.length : Int) - f.rb - f.lr) (hrb : f.rb ≤ 24) (hx : r ≠ []) : Calls Tryz.prog 72 #[.pointer (some ⟨A.m, 0, none⟩)] w (RS w A C I (execV C I 26 V.pc { V with steps := wr64 (V.steps + 1), pc := V.pc + 1 + 0 } M).1 (execV C I 26 V.pc { V with steps := wr64 (V.steps + 1), pc := V.pc + 1 + 0 } M).2 cv iv ov) := by
  obtain ⟨V2, hV2⟩ : ∃ V2 : Vs, V2 = { V with steps := wr64 (V.steps + 1), pc := V.pc + 1 + 0 } := ⟨_, rfl⟩
  rw [← hV2]
  obtain ⟨X, hX⟩ : ∃ X, X = execV C I 26 V.pc V2 M := ⟨_, rfl⟩
  rw [← hX]
  have hf2 : V2.fs = f :: r := by rw [hV2]; exact hf
  have c1 := H.r_steps
  have c2 := H.r_pc
  have c3 := H.r_cv
  have c4 := H.r_en
  have hlt := H.lt
  have hz := H.blk.frozen
  have hcl := H.cl
  obtain ⟨b, c, e, hb', hc⟩ := H.code.all (by omega)
  have hbm : b ≠ A.m := (H.cd b ⟨_, _, e⟩).1
  have He : Hid _ := e
  rw [e] at c3
  have p0 := hc V.pc (by omega)
  rw [hop] at p0
  have q1 : ∀ w, Calls Tryz.prog 42 #[.int .i64 26] w fun e w' => e = .returned (.int .i64 0) ∧ w' = w := fun w => opArgsF 26 (by omega) w
  have hL := hR.len
  have H1 := H.s_steps (wr64 (V.steps + 1))
  have q2 := iopsF H1 (f := f) (r := r) hf
  have q3 : ∀ w, Calls Tryz.prog 106 #[.int .i64 26] w fun e w' => e = .returned (.int .i64 1) ∧ w' = w := fun w => wantIF 26 (by omega) w
  have q4 := fun m => ropsF (H1.drewN m) (f := f) (r := r) hf (by omega) (by omega)
  rw [← hL] at q4
  have q5 : ∀ w, Calls Tryz.prog 107 #[.int .i64 26] w fun e w' => e = .returned (.int .i64 0) ∧ w' = w := fun w => wantRF 26 (by omega) w
  have ho48 : f.ops.length ≤ 48 := by have := (H.lays hf).2.2.2.1; have := H.s48; omega
  obtain ⟨nr, hnr⟩ : ∃ nr, nr = (M.rt.length : Int) - f.rb - f.lr := ⟨_, rfl⟩
  have hr48 : -48 ≤ nr ∧ nr ≤ 24 := by omega
  rw [← hnr] at q4 hr
  have HK : Hid (∀ m, RX _ A C I V2 S st G nf cv iv ov) := fun m => by rw [hV2]; exact (H1.drewN m).s_pc (V.pc + 1 + 0)
  have FF : Hid (∀ m, _) := fun m => (((Fr.refl (VS A) w).setC A.m 63 (.int .i64 (wr64 (V.steps + 1))) (fun _ => .inl rfl)).drewN m).setC A.m 55 (.int .i64 (V.pc + 1 + 0 : Nat)) (fun _ => .inl rfl)
  have HE : Hid (_ ∧ _) := ⟨hX, And.intro hR (And.intro hf2 (And.intro hi hr))⟩
  have HV : Hid _ := hV2
  generalize hpcE : V.pc = pc at *
  obtain ⟨no, hno⟩ : ∃ no, no = f.ops.length := ⟨_, rfl⟩
  rw [← hno] at q2 hi ho48
  generalize V.steps = sx at *
  clear H H1 e hR hL hnr hf hq hd hX hf2 hno hV2 hpcE
  have hp' : (pc : Int) + 1 + 0 ≤ C.length := by omega
  have z : decide ((pc : Int) ≥ C.length) = false := decide_eq_false (by omega)
  have y2 : decide ((0 : Int) > (C.length : Int) - pc - 1) = false := decide_eq_false (by omega)
  have y3 : decide ((C.length : Int) - pc - 1 < (0 : Int)) = false := decide_eq_false (by omega)
  have y4 : decide ((no : Int) < 1) = false := decide_eq_false (by omega)
  have y5 : decide (nr < 0) = false := decide_eq_false (by omega)
  go_enter Tryz.func72, Tryz.ntmps72
  go_wp2_with fail
  refine (q1 _).mono ?_
  rintro v wa ⟨rfl, rfl⟩
  go_wp2_with fail
  refine q2.mono ?_
  rintro v wa ⟨rfl, m, rfl⟩
  go_wp2_with fail
  refine (q3 _).mono ?_
  rintro v wa ⟨rfl, rfl⟩
  go_wp2_with fail
  refine (q4 m).mono ?_
  rintro v wa ⟨rfl, m2, rfl⟩
  go_wp2_with fail
  refine (q5 _).mono ?_
  rintro v wa ⟨rfl, rfl⟩
  clear q1 q2 q3 q4 q5
  go_upto_region 68 with fail
  generalize hw2 : World.setCell _ ⟨A.m, 55, none⟩ _ = w2
  have H2 : RX w2 A C I V2 S st G nf cv iv ov := by rw [← hw2]; exact HK.out (m + m2)
  have F2 : Fr (VS A) w w2 := by rw [← hw2]; exact FF.out (m + m2)
  clear hw2 c1 c2 c3 c4 hlt hz p0 HK FF z y2 y3 y4 y5 hr48 hbm hb' hc
  have eX : X = (pushV (leaveV V2) (opn V2 0), (popM M ((M.rt.length : Int) - f.rb)).2) := by rw [HE.out.1]; show (if (leaveV V2).fs = [] then _ else _, _) = _; rw [if_neg (by rw [leaveV_fs HE.out.2.2.1]; exact hx), topF_c HE.out.2.2.1]
  have hq1 := retI_on H2 HE.out.2.1 HE.out.2.2.1 hx HE.out.2.2.2.1 hrb
  have HX2 : Hid _ := And.intro F2 (And.intro HE.out.2.1 eX)
  have hlt := H2.lt
  clear H2 F2 eX HE
  go_wp2_with fail
  refine hq1.mono ?_
  rintro v w3 ⟨rfl, h3⟩
  go_wp2_with fail
  go_end0
  rw [HX2.out.2.2]
  exact RZ.s ⟨rfl, h3⟩ HX2.out.1
set_option maxRecDepth 100000 in
set_option maxHeartbeats 1000000 in
theorem step27n (H : RX w A C I V S st G nf cv iv ov) (hR : Rel S M) (hf : V.fs = f :: r) (hd : M.rt.length ≤ 24) (hq : f.rb + f.lr ≤ 24) (hop : byteAt C V.pc = 27) (hp : V.pc + 1 + 0 ≤ C.length) (hi : 0 ≤ f.ops.length) (hr : (1 : Int) ≤ (M.rt.length : Int) - f.rb - f.lr) (hx : r = []) : Calls Tryz.prog 72 #[.pointer (some ⟨A.m, 0, none⟩)] w (RS w A C I (execV C I 27 V.pc { V with steps := wr64 (V.steps + 1), pc := V.pc + 1 + 0 } M).1 (execV C I 27 V.pc { V with steps := wr64 (V.steps + 1), pc := V.pc + 1 + 0 } M).2 cv iv ov) := by
  obtain ⟨V2, hV2⟩ : ∃ V2 : Vs, V2 = { V with steps := wr64 (V.steps + 1), pc := V.pc + 1 + 0 } := ⟨_, rfl⟩
  rw [← hV2]
  obtain ⟨X, hX⟩ : ∃ X, X = execV C I 27 V.pc V2 M := ⟨_, rfl⟩
  rw [← hX]
  have hf2 : V2.fs = f :: r := by rw [hV2]; exact hf
  have c1 := H.r_steps
  have c2 := H.r_pc
  have c3 := H.r_cv
  have c4 := H.r_en
  have hlt := H.lt
  have hz := H.blk.frozen
  have hcl := H.cl
  obtain ⟨b, c, e, hb', hc⟩ := H.code.all (by omega)
  have hbm : b ≠ A.m := (H.cd b ⟨_, _, e⟩).1
  have He : Hid _ := e
  rw [e] at c3
  have p0 := hc V.pc (by omega)
  rw [hop] at p0
  have q1 : ∀ w, Calls Tryz.prog 42 #[.int .i64 27] w fun e w' => e = .returned (.int .i64 0) ∧ w' = w := fun w => opArgsF 27 (by omega) w
  have hL := hR.len
  have H1 := H.s_steps (wr64 (V.steps + 1))
  have q2 := iopsF H1 (f := f) (r := r) hf
  have q3 : ∀ w, Calls Tryz.prog 106 #[.int .i64 27] w fun e w' => e = .returned (.int .i64 0) ∧ w' = w := fun w => wantIF 27 (by omega) w
  have q4 := fun m => ropsF (H1.drewN m) (f := f) (r := r) hf (by omega) (by omega)
  rw [← hL] at q4
  have q5 : ∀ w, Calls Tryz.prog 107 #[.int .i64 27] w fun e w' => e = .returned (.int .i64 1) ∧ w' = w := fun w => wantRF 27 (by omega) w
  have ho48 : f.ops.length ≤ 48 := by have := (H.lays hf).2.2.2.1; have := H.s48; omega
  obtain ⟨nr, hnr⟩ : ∃ nr, nr = (M.rt.length : Int) - f.rb - f.lr := ⟨_, rfl⟩
  have hr48 : -48 ≤ nr ∧ nr ≤ 24 := by omega
  rw [← hnr] at q4 hr
  have HK : Hid (∀ m, RX _ A C I V2 S st G nf cv iv ov) := fun m => by rw [hV2]; exact (H1.drewN m).s_pc (V.pc + 1 + 0)
  have FF : Hid (∀ m, _) := fun m => (((Fr.refl (VS A) w).setC A.m 63 (.int .i64 (wr64 (V.steps + 1))) (fun _ => .inl rfl)).drewN m).setC A.m 55 (.int .i64 (V.pc + 1 + 0 : Nat)) (fun _ => .inl rfl)
  have HE : Hid (_ ∧ _) := ⟨hX, And.intro hR (And.intro hf2 (And.intro hi hr))⟩
  have HV : Hid _ := hV2
  generalize hpcE : V.pc = pc at *
  obtain ⟨no, hno⟩ : ∃ no, no = f.ops.length := ⟨_, rfl⟩
  rw [← hno] at q2 hi ho48
  generalize V.steps = sx at *
  clear H H1 e hR hL hnr hf hq hd hX hf2 hno hV2 hpcE
  have hp' : (pc : Int) + 1 + 0 ≤ C.length := by omega
  have z : decide ((pc : Int) ≥ C.length) = false := decide_eq_false (by omega)
  have y2 : decide ((0 : Int) > (C.length : Int) - pc - 1) = false := decide_eq_false (by omega)
  have y3 : decide ((C.length : Int) - pc - 1 < (0 : Int)) = false := decide_eq_false (by omega)
  have y4 : decide ((no : Int) < 0) = false := decide_eq_false (by omega)
  have y5 : decide (nr < 1) = false := decide_eq_false (by omega)
  go_enter Tryz.func72, Tryz.ntmps72
  go_wp2_with fail
  refine (q1 _).mono ?_
  rintro v wa ⟨rfl, rfl⟩
  go_wp2_with fail
  refine q2.mono ?_
  rintro v wa ⟨rfl, m, rfl⟩
  go_wp2_with fail
  refine (q3 _).mono ?_
  rintro v wa ⟨rfl, rfl⟩
  go_wp2_with fail
  refine (q4 m).mono ?_
  rintro v wa ⟨rfl, m2, rfl⟩
  go_wp2_with fail
  refine (q5 _).mono ?_
  rintro v wa ⟨rfl, rfl⟩
  clear q1 q2 q3 q4 q5
  go_upto_region 70 with fail
  generalize hw2 : World.setCell _ ⟨A.m, 55, none⟩ _ = w2
  have H2 : RX w2 A C I V2 S st G nf cv iv ov := by rw [← hw2]; exact HK.out (m + m2)
  have F2 : Fr (VS A) w w2 := by rw [← hw2]; exact FF.out (m + m2)
  clear hw2 c1 c2 c3 c4 hlt hz p0 HK FF z y2 y3 y4 y5 hr48 hbm hb' hc
  have eX : X = (V2.die 24, M) := by rw [HE.out.1]; show (if V2.fs.length = 1 then _ else _) = _; rw [if_pos (by rw [HE.out.2.2.1, hx]; rfl)]
  have hq1 := retR_no H2 HE.out.2.1 (by rw [HE.out.2.2.1, hx]; rfl)
  have HX2 : Hid _ := And.intro F2 (And.intro HE.out.2.1 eX)
  have hlt := H2.lt
  clear H2 F2 eX HE
  go_wp2_with fail
  refine hq1.mono ?_
  rintro v w3 ⟨rfl, h3⟩
  go_wp2_with fail
  go_end0
  rw [HX2.out.2.2]
  exact RZ.s ⟨rfl, h3⟩ HX2.out.1
set_option maxRecDepth 100000 in
set_option maxHeartbeats 1000000 in
theorem step27 (H : RX w A C I V S st G nf cv iv ov) (hR : Rel S M) (hf : V.fs = f :: r) (hd : M.rt.length ≤ 24) (hq : f.rb + f.lr ≤ 24) (hop : byteAt C V.pc = 27) (hp : V.pc + 1 + 0 ≤ C.length) (hi : 0 ≤ f.ops.length) (hr : (1 : Int) ≤ (M.rt.length : Int) - f.rb - f.lr) (hrb : f.rb ≤ 24) (hx : r ≠ []) : Calls Tryz.prog 72 #[.pointer (some ⟨A.m, 0, none⟩)] w (RS w A C I (execV C I 27 V.pc { V with steps := wr64 (V.steps + 1), pc := V.pc + 1 + 0 } M).1 (execV C I 27 V.pc { V with steps := wr64 (V.steps + 1), pc := V.pc + 1 + 0 } M).2 cv iv ov) := by
  obtain ⟨V2, hV2⟩ : ∃ V2 : Vs, V2 = { V with steps := wr64 (V.steps + 1), pc := V.pc + 1 + 0 } := ⟨_, rfl⟩
  rw [← hV2]
  obtain ⟨X, hX⟩ : ∃ X, X = execV C I 27 V.pc V2 M := ⟨_, rfl⟩
  rw [← hX]
  have hf2 : V2.fs = f :: r := by rw [hV2]; exact hf
  have c1 := H.r_steps
  have c2 := H.r_pc
  have c3 := H.r_cv
  have c4 := H.r_en
  have hlt := H.lt
  have hz := H.blk.frozen
  have hcl := H.cl
  obtain ⟨b, c, e, hb', hc⟩ := H.code.all (by omega)
  have hbm : b ≠ A.m := (H.cd b ⟨_, _, e⟩).1
  have He : Hid _ := e
  rw [e] at c3
  have p0 := hc V.pc (by omega)
  rw [hop] at p0
  have q1 : ∀ w, Calls Tryz.prog 42 #[.int .i64 27] w fun e w' => e = .returned (.int .i64 0) ∧ w' = w := fun w => opArgsF 27 (by omega) w
  have hL := hR.len
  have H1 := H.s_steps (wr64 (V.steps + 1))
  have q2 := iopsF H1 (f := f) (r := r) hf
  have q3 : ∀ w, Calls Tryz.prog 106 #[.int .i64 27] w fun e w' => e = .returned (.int .i64 0) ∧ w' = w := fun w => wantIF 27 (by omega) w
  have q4 := fun m => ropsF (H1.drewN m) (f := f) (r := r) hf (by omega) (by omega)
  rw [← hL] at q4
  have q5 : ∀ w, Calls Tryz.prog 107 #[.int .i64 27] w fun e w' => e = .returned (.int .i64 1) ∧ w' = w := fun w => wantRF 27 (by omega) w
  have ho48 : f.ops.length ≤ 48 := by have := (H.lays hf).2.2.2.1; have := H.s48; omega
  obtain ⟨nr, hnr⟩ : ∃ nr, nr = (M.rt.length : Int) - f.rb - f.lr := ⟨_, rfl⟩
  have hr48 : -48 ≤ nr ∧ nr ≤ 24 := by omega
  rw [← hnr] at q4 hr
  have HK : Hid (∀ m, RX _ A C I V2 S st G nf cv iv ov) := fun m => by rw [hV2]; exact (H1.drewN m).s_pc (V.pc + 1 + 0)
  have FF : Hid (∀ m, _) := fun m => (((Fr.refl (VS A) w).setC A.m 63 (.int .i64 (wr64 (V.steps + 1))) (fun _ => .inl rfl)).drewN m).setC A.m 55 (.int .i64 (V.pc + 1 + 0 : Nat)) (fun _ => .inl rfl)
  have HE : Hid (_ ∧ _) := ⟨hX, And.intro hR (And.intro hf2 (And.intro hi hr))⟩
  have HV : Hid _ := hV2
  generalize hpcE : V.pc = pc at *
  obtain ⟨no, hno⟩ : ∃ no, no = f.ops.length := ⟨_, rfl⟩
  rw [← hno] at q2 hi ho48
  generalize V.steps = sx at *
  clear H H1 e hR hL hnr hf hq hd hX hf2 hno hV2 hpcE
  have hp' : (pc : Int) + 1 + 0 ≤ C.length := by omega
  have z : decide ((pc : Int) ≥ C.length) = false := decide_eq_false (by omega)
  have y2 : decide ((0 : Int) > (C.length : Int) - pc - 1) = false := decide_eq_false (by omega)
  have y3 : decide ((C.length : Int) - pc - 1 < (0 : Int)) = false := decide_eq_false (by omega)
  have y4 : decide ((no : Int) < 0) = false := decide_eq_false (by omega)
  have y5 : decide (nr < 1) = false := decide_eq_false (by omega)
  go_enter Tryz.func72, Tryz.ntmps72
  go_wp2_with fail
  refine (q1 _).mono ?_
  rintro v wa ⟨rfl, rfl⟩
  go_wp2_with fail
  refine q2.mono ?_
  rintro v wa ⟨rfl, m, rfl⟩
  go_wp2_with fail
  refine (q3 _).mono ?_
  rintro v wa ⟨rfl, rfl⟩
  go_wp2_with fail
  refine (q4 m).mono ?_
  rintro v wa ⟨rfl, m2, rfl⟩
  go_wp2_with fail
  refine (q5 _).mono ?_
  rintro v wa ⟨rfl, rfl⟩
  clear q1 q2 q3 q4 q5
  go_upto_region 70 with fail
  generalize hw2 : World.setCell _ ⟨A.m, 55, none⟩ _ = w2
  have H2 : RX w2 A C I V2 S st G nf cv iv ov := by rw [← hw2]; exact HK.out (m + m2)
  have F2 : Fr (VS A) w w2 := by rw [← hw2]; exact FF.out (m + m2)
  clear hw2 c1 c2 c3 c4 hlt hz p0 HK FF z y2 y3 y4 y5 hr48 hbm hb' hc
  have eX : X = (leaveV V2, (slideM M ((M.rt.length : Int) - f.rb - 1)).2) := by rw [HE.out.1]; show (if V2.fs.length = 1 then _ else _) = _; rw [if_neg (by rw [HE.out.2.2.1]; intro h; exact hx (List.eq_nil_of_length_eq_zero (by simpa using h))), topF_c HE.out.2.2.1]
  have hq1 := retR_ok H2 HE.out.2.1 HE.out.2.2.1 hx hrb
  have HX2 : Hid _ := And.intro F2 (And.intro HE.out.2.1 eX)
  have hlt := H2.lt
  clear H2 F2 eX HE
  go_wp2_with fail
  refine hq1.mono ?_
  rintro v w3 ⟨rfl, h3⟩
  go_wp2_with fail
  go_end0
  rw [HX2.out.2.2]
  exact RZ.s ⟨rfl, h3⟩ HX2.out.1
set_option maxRecDepth 100000 in
set_option maxHeartbeats 1000000 in
theorem step28 (H : RX w A C I V S st G nf cv iv ov) (hR : Rel S M) (hf : V.fs = f :: r) (hd : M.rt.length ≤ 24) (hq : f.rb + f.lr ≤ 24) (hop : byteAt C V.pc = 28) (hp : V.pc + 1 + 0 ≤ C.length) (hi : 1 ≤ f.ops.length) (hr : (0 : Int) ≤ (M.rt.length : Int) - f.rb - f.lr) : Calls Tryz.prog 72 #[.pointer (some ⟨A.m, 0, none⟩)] w (RS w A C I (execV C I 28 V.pc { V with steps := wr64 (V.steps + 1), pc := V.pc + 1 + 0 } M).1 (execV C I 28 V.pc { V with steps := wr64 (V.steps + 1), pc := V.pc + 1 + 0 } M).2 cv iv ov) := by
  obtain ⟨V2, hV2⟩ : ∃ V2 : Vs, V2 = { V with steps := wr64 (V.steps + 1), pc := V.pc + 1 + 0 } := ⟨_, rfl⟩
  rw [← hV2]
  obtain ⟨X, hX⟩ : ∃ X, X = execV C I 28 V.pc V2 M := ⟨_, rfl⟩
  rw [← hX]
  have hf2 : V2.fs = f :: r := by rw [hV2]; exact hf
  have c1 := H.r_steps
  have c2 := H.r_pc
  have c3 := H.r_cv
  have c4 := H.r_en
  have hlt := H.lt
  have hz := H.blk.frozen
  have hcl := H.cl
  obtain ⟨b, c, e, hb', hc⟩ := H.code.all (by omega)
  have hbm : b ≠ A.m := (H.cd b ⟨_, _, e⟩).1
  have He : Hid _ := e
  rw [e] at c3
  have p0 := hc V.pc (by omega)
  rw [hop] at p0
  have q1 : ∀ w, Calls Tryz.prog 42 #[.int .i64 28] w fun e w' => e = .returned (.int .i64 0) ∧ w' = w := fun w => opArgsF 28 (by omega) w
  have hL := hR.len
  have H1 := H.s_steps (wr64 (V.steps + 1))
  have q2 := iopsF H1 (f := f) (r := r) hf
  have q3 : ∀ w, Calls Tryz.prog 106 #[.int .i64 28] w fun e w' => e = .returned (.int .i64 1) ∧ w' = w := fun w => wantIF 28 (by omega) w
  have q4 := fun m => ropsF (H1.drewN m) (f := f) (r := r) hf (by omega) (by omega)
  rw [← hL] at q4
  have q5 : ∀ w, Calls Tryz.prog 107 #[.int .i64 28] w fun e w' => e = .returned (.int .i64 0) ∧ w' = w := fun w => wantRF 28 (by omega) w
  have ho48 : f.ops.length ≤ 48 := by have := (H.lays hf).2.2.2.1; have := H.s48; omega
  obtain ⟨nr, hnr⟩ : ∃ nr, nr = (M.rt.length : Int) - f.rb - f.lr := ⟨_, rfl⟩
  have hr48 : -48 ≤ nr ∧ nr ≤ 24 := by omega
  rw [← hnr] at q4 hr
  have HK : Hid (∀ m, RX _ A C I V2 S st G nf cv iv ov) := fun m => by rw [hV2]; exact (H1.drewN m).s_pc (V.pc + 1 + 0)
  have FF : Hid (∀ m, _) := fun m => (((Fr.refl (VS A) w).setC A.m 63 (.int .i64 (wr64 (V.steps + 1))) (fun _ => .inl rfl)).drewN m).setC A.m 55 (.int .i64 (V.pc + 1 + 0 : Nat)) (fun _ => .inl rfl)
  have HE : Hid (_ ∧ _) := ⟨hX, And.intro hR (And.intro hf2 (And.intro hi hr))⟩
  have HV : Hid _ := hV2
  generalize hpcE : V.pc = pc at *
  obtain ⟨no, hno⟩ : ∃ no, no = f.ops.length := ⟨_, rfl⟩
  rw [← hno] at q2 hi ho48
  generalize V.steps = sx at *
  clear H H1 e hR hL hnr hf hq hd hX hf2 hno hV2 hpcE
  have hp' : (pc : Int) + 1 + 0 ≤ C.length := by omega
  have z : decide ((pc : Int) ≥ C.length) = false := decide_eq_false (by omega)
  have y2 : decide ((0 : Int) > (C.length : Int) - pc - 1) = false := decide_eq_false (by omega)
  have y3 : decide ((C.length : Int) - pc - 1 < (0 : Int)) = false := decide_eq_false (by omega)
  have y4 : decide ((no : Int) < 1) = false := decide_eq_false (by omega)
  have y5 : decide (nr < 0) = false := decide_eq_false (by omega)
  go_enter Tryz.func72, Tryz.ntmps72
  go_wp2_with fail
  refine (q1 _).mono ?_
  rintro v wa ⟨rfl, rfl⟩
  go_wp2_with fail
  refine q2.mono ?_
  rintro v wa ⟨rfl, m, rfl⟩
  go_wp2_with fail
  refine (q3 _).mono ?_
  rintro v wa ⟨rfl, rfl⟩
  go_wp2_with fail
  refine (q4 m).mono ?_
  rintro v wa ⟨rfl, m2, rfl⟩
  go_wp2_with fail
  refine (q5 _).mono ?_
  rintro v wa ⟨rfl, rfl⟩
  clear q1 q2 q3 q4 q5
  go_upto_region 73 with fail
  generalize hw2 : World.setCell _ ⟨A.m, 55, none⟩ _ = w2
  have H2 : RX w2 A C I V2 S st G nf cv iv ov := by rw [← hw2]; exact HK.out (m + m2)
  have F2 : Fr (VS A) w w2 := by rw [← hw2]; exact FF.out (m + m2)
  clear hw2 c1 c2 c3 c4 hlt hz p0 HK FF z y2 y3 y4 y5 hr48 hbm hb' hc
  have eX : X = (did (dropO V2 1) (allocM M 0 (opn V2 0)).1, (allocM M 0 (opn V2 0)).2) := by rw [HE.out.1]; exact rfl
  have hq1 := born28 H2 HE.out.2.1 HE.out.2.2.1 HE.out.2.2.2.1
  have HX2 : Hid _ := And.intro F2 (And.intro HE.out.2.1 eX)
  have hlt := H2.lt
  clear H2 F2 eX HE
  go_wp2_with fail
  refine hq1.mono ?_
  rintro v w3 ⟨rfl, h3⟩
  go_wp2_with fail
  go_end0
  rw [HX2.out.2.2]
  exact RZ.s ⟨rfl, h3⟩ HX2.out.1
set_option maxRecDepth 100000 in
set_option maxHeartbeats 1000000 in
theorem step29 (H : RX w A C I V S st G nf cv iv ov) (hR : Rel S M) (hf : V.fs = f :: r) (hd : M.rt.length ≤ 24) (hq : f.rb + f.lr ≤ 24) (hop : byteAt C V.pc = 29) (hp : V.pc + 1 + 0 ≤ C.length) (hi : 1 ≤ f.ops.length) (hr : (0 : Int) ≤ (M.rt.length : Int) - f.rb - f.lr) : Calls Tryz.prog 72 #[.pointer (some ⟨A.m, 0, none⟩)] w (RS w A C I (execV C I 29 V.pc { V with steps := wr64 (V.steps + 1), pc := V.pc + 1 + 0 } M).1 (execV C I 29 V.pc { V with steps := wr64 (V.steps + 1), pc := V.pc + 1 + 0 } M).2 cv iv ov) := by
  obtain ⟨V2, hV2⟩ : ∃ V2 : Vs, V2 = { V with steps := wr64 (V.steps + 1), pc := V.pc + 1 + 0 } := ⟨_, rfl⟩
  rw [← hV2]
  obtain ⟨X, hX⟩ : ∃ X, X = execV C I 29 V.pc V2 M := ⟨_, rfl⟩
  rw [← hX]
  have hf2 : V2.fs = f :: r := by rw [hV2]; exact hf
  have c1 := H.r_steps
  have c2 := H.r_pc
  have c3 := H.r_cv
  have c4 := H.r_en
  have hlt := H.lt
  have hz := H.blk.frozen
  have hcl := H.cl
  obtain ⟨b, c, e, hb', hc⟩ := H.code.all (by omega)
  have hbm : b ≠ A.m := (H.cd b ⟨_, _, e⟩).1
  have He : Hid _ := e
  rw [e] at c3
  have p0 := hc V.pc (by omega)
  rw [hop] at p0
  have q1 : ∀ w, Calls Tryz.prog 42 #[.int .i64 29] w fun e w' => e = .returned (.int .i64 0) ∧ w' = w := fun w => opArgsF 29 (by omega) w
  have hL := hR.len
  have H1 := H.s_steps (wr64 (V.steps + 1))
  have q2 := iopsF H1 (f := f) (r := r) hf
  have q3 : ∀ w, Calls Tryz.prog 106 #[.int .i64 29] w fun e w' => e = .returned (.int .i64 1) ∧ w' = w := fun w => wantIF 29 (by omega) w
  have q4 := fun m => ropsF (H1.drewN m) (f := f) (r := r) hf (by omega) (by omega)
  rw [← hL] at q4
  have q5 : ∀ w, Calls Tryz.prog 107 #[.int .i64 29] w fun e w' => e = .returned (.int .i64 0) ∧ w' = w := fun w => wantRF 29 (by omega) w
  have ho48 : f.ops.length ≤ 48 := by have := (H.lays hf).2.2.2.1; have := H.s48; omega
  obtain ⟨nr, hnr⟩ : ∃ nr, nr = (M.rt.length : Int) - f.rb - f.lr := ⟨_, rfl⟩
  have hr48 : -48 ≤ nr ∧ nr ≤ 24 := by omega
  rw [← hnr] at q4 hr
  have HK : Hid (∀ m, RX _ A C I V2 S st G nf cv iv ov) := fun m => by rw [hV2]; exact (H1.drewN m).s_pc (V.pc + 1 + 0)
  have FF : Hid (∀ m, _) := fun m => (((Fr.refl (VS A) w).setC A.m 63 (.int .i64 (wr64 (V.steps + 1))) (fun _ => .inl rfl)).drewN m).setC A.m 55 (.int .i64 (V.pc + 1 + 0 : Nat)) (fun _ => .inl rfl)
  have HE : Hid (_ ∧ _) := ⟨hX, And.intro hR (And.intro hf2 (And.intro hi hr))⟩
  have HV : Hid _ := hV2
  generalize hpcE : V.pc = pc at *
  obtain ⟨no, hno⟩ : ∃ no, no = f.ops.length := ⟨_, rfl⟩
  rw [← hno] at q2 hi ho48
  generalize V.steps = sx at *
  clear H H1 e hR hL hnr hf hq hd hX hf2 hno hV2 hpcE
  have hp' : (pc : Int) + 1 + 0 ≤ C.length := by omega
  have z : decide ((pc : Int) ≥ C.length) = false := decide_eq_false (by omega)
  have y2 : decide ((0 : Int) > (C.length : Int) - pc - 1) = false := decide_eq_false (by omega)
  have y3 : decide ((C.length : Int) - pc - 1 < (0 : Int)) = false := decide_eq_false (by omega)
  have y4 : decide ((no : Int) < 1) = false := decide_eq_false (by omega)
  have y5 : decide (nr < 0) = false := decide_eq_false (by omega)
  go_enter Tryz.func72, Tryz.ntmps72
  go_wp2_with fail
  refine (q1 _).mono ?_
  rintro v wa ⟨rfl, rfl⟩
  go_wp2_with fail
  refine q2.mono ?_
  rintro v wa ⟨rfl, m, rfl⟩
  go_wp2_with fail
  refine (q3 _).mono ?_
  rintro v wa ⟨rfl, rfl⟩
  go_wp2_with fail
  refine (q4 m).mono ?_
  rintro v wa ⟨rfl, m2, rfl⟩
  go_wp2_with fail
  refine (q5 _).mono ?_
  rintro v wa ⟨rfl, rfl⟩
  clear q1 q2 q3 q4 q5
  go_upto_region 73 with fail
  generalize hw2 : World.setCell _ ⟨A.m, 55, none⟩ _ = w2
  have H2 : RX w2 A C I V2 S st G nf cv iv ov := by rw [← hw2]; exact HK.out (m + m2)
  have F2 : Fr (VS A) w w2 := by rw [← hw2]; exact FF.out (m + m2)
  clear hw2 c1 c2 c3 c4 hlt hz p0 HK FF z y2 y3 y4 y5 hr48 hbm hb' hc
  have eX : X = (did (dropO V2 1) (allocM M (opn V2 0) 0).1, (allocM M (opn V2 0) 0).2) := by rw [HE.out.1]; exact rfl
  have hq1 := born29 H2 HE.out.2.1 HE.out.2.2.1 HE.out.2.2.2.1
  have HX2 : Hid _ := And.intro F2 (And.intro HE.out.2.1 eX)
  have hlt := H2.lt
  clear H2 F2 eX HE
  go_wp2_with fail
  refine hq1.mono ?_
  rintro v w3 ⟨rfl, h3⟩
  go_wp2_with fail
  go_end0
  rw [HX2.out.2.2]
  exact RZ.s ⟨rfl, h3⟩ HX2.out.1
set_option maxRecDepth 100000 in
set_option maxHeartbeats 1000000 in
theorem step30n (H : RX w A C I V S st G nf cv iv ov) (hR : Rel S M) (hf : V.fs = f :: r) (hd : M.rt.length ≤ 24) (hq : f.rb + f.lr ≤ 24) (hop : byteAt C V.pc = 30) (hp : V.pc + 1 + 0 ≤ C.length) (hi : 1 ≤ f.ops.length) (hr : (1 : Int) ≤ (M.rt.length : Int) - f.rb - f.lr) (hx : (ldIntM M ((M.rt.length : Int) - 1) (opn V 0)).2 ≠ 0) : Calls Tryz.prog 72 #[.pointer (some ⟨A.m, 0, none⟩)] w (RS w A C I (execV C I 30 V.pc { V with steps := wr64 (V.steps + 1), pc := V.pc + 1 + 0 } M).1 (execV C I 30 V.pc { V with steps := wr64 (V.steps + 1), pc := V.pc + 1 + 0 } M).2 cv iv ov) := by
  obtain ⟨V2, hV2⟩ : ∃ V2 : Vs, V2 = { V with steps := wr64 (V.steps + 1), pc := V.pc + 1 + 0 } := ⟨_, rfl⟩
  rw [← hV2]
  obtain ⟨X, hX⟩ : ∃ X, X = execV C I 30 V.pc V2 M := ⟨_, rfl⟩
  rw [← hX]
  have hf2 : V2.fs = f :: r := by rw [hV2]; exact hf
  have c1 := H.r_steps
  have c2 := H.r_pc
  have c3 := H.r_cv
  have c4 := H.r_en
  have hlt := H.lt
  have hz := H.blk.frozen
  have hcl := H.cl
  obtain ⟨b, c, e, hb', hc⟩ := H.code.all (by omega)
  have hbm : b ≠ A.m := (H.cd b ⟨_, _, e⟩).1
  have He : Hid _ := e
  rw [e] at c3
  have p0 := hc V.pc (by omega)
  rw [hop] at p0
  have q1 : ∀ w, Calls Tryz.prog 42 #[.int .i64 30] w fun e w' => e = .returned (.int .i64 0) ∧ w' = w := fun w => opArgsF 30 (by omega) w
  have hL := hR.len
  have H1 := H.s_steps (wr64 (V.steps + 1))
  have q2 := iopsF H1 (f := f) (r := r) hf
  have q3 : ∀ w, Calls Tryz.prog 106 #[.int .i64 30] w fun e w' => e = .returned (.int .i64 1) ∧ w' = w := fun w => wantIF 30 (by omega) w
  have q4 := fun m => ropsF (H1.drewN m) (f := f) (r := r) hf (by omega) (by omega)
  rw [← hL] at q4
  have q5 : ∀ w, Calls Tryz.prog 107 #[.int .i64 30] w fun e w' => e = .returned (.int .i64 1) ∧ w' = w := fun w => wantRF 30 (by omega) w
  have ho48 : f.ops.length ≤ 48 := by have := (H.lays hf).2.2.2.1; have := H.s48; omega
  obtain ⟨nr, hnr⟩ : ∃ nr, nr = (M.rt.length : Int) - f.rb - f.lr := ⟨_, rfl⟩
  have hr48 : -48 ≤ nr ∧ nr ≤ 24 := by omega
  rw [← hnr] at q4 hr
  have HK : Hid (∀ m, RX _ A C I V2 S st G nf cv iv ov) := fun m => by rw [hV2]; exact (H1.drewN m).s_pc (V.pc + 1 + 0)
  have FF : Hid (∀ m, _) := fun m => (((Fr.refl (VS A) w).setC A.m 63 (.int .i64 (wr64 (V.steps + 1))) (fun _ => .inl rfl)).drewN m).setC A.m 55 (.int .i64 (V.pc + 1 + 0 : Nat)) (fun _ => .inl rfl)
  have HE : Hid (_ ∧ _) := ⟨hX, And.intro hR (And.intro hf2 (And.intro hi hr))⟩
  have HV : Hid _ := hV2
  generalize hpcE : V.pc = pc at *
  obtain ⟨no, hno⟩ : ∃ no, no = f.ops.length := ⟨_, rfl⟩
  rw [← hno] at q2 hi ho48
  generalize V.steps = sx at *
  clear H H1 e hR hL hnr hf hq hd hX hf2 hno hV2 hpcE
  have hp' : (pc : Int) + 1 + 0 ≤ C.length := by omega
  have z : decide ((pc : Int) ≥ C.length) = false := decide_eq_false (by omega)
  have y2 : decide ((0 : Int) > (C.length : Int) - pc - 1) = false := decide_eq_false (by omega)
  have y3 : decide ((C.length : Int) - pc - 1 < (0 : Int)) = false := decide_eq_false (by omega)
  have y4 : decide ((no : Int) < 1) = false := decide_eq_false (by omega)
  have y5 : decide (nr < 1) = false := decide_eq_false (by omega)
  go_enter Tryz.func72, Tryz.ntmps72
  go_wp2_with fail
  refine (q1 _).mono ?_
  rintro v wa ⟨rfl, rfl⟩
  go_wp2_with fail
  refine q2.mono ?_
  rintro v wa ⟨rfl, m, rfl⟩
  go_wp2_with fail
  refine (q3 _).mono ?_
  rintro v wa ⟨rfl, rfl⟩
  go_wp2_with fail
  refine (q4 m).mono ?_
  rintro v wa ⟨rfl, m2, rfl⟩
  go_wp2_with fail
  refine (q5 _).mono ?_
  rintro v wa ⟨rfl, rfl⟩
  clear q1 q2 q3 q4 q5
  go_upto_region 76 with fail
  generalize hw2 : World.setCell _ ⟨A.m, 55, none⟩ _ = w2
  have H2 : RX w2 A C I V2 S st G nf cv iv ov := by rw [← hw2]; exact HK.out (m + m2)
  have F2 : Fr (VS A) w w2 := by rw [← hw2]; exact FF.out (m + m2)
  clear hw2 c1 c2 c3 c4 hlt hz p0 HK FF z y2 y3 y4 y5 hr48 hbm hb' hc
  have eX : X = (V2.die (endOf (ldIntM M ((M.rt.length : Int) - 1) (opn V2 0)).2), M) := by rw [HE.out.1]; show (if (ldIntM M ((M.rt.length : Int) - 1) (opn V2 0)).2 = 0 then _ else _) = _; rw [if_neg (by rw [HV.out]; exact hx)]
  have hq1 := get30_no H2 HE.out.2.1 HE.out.2.2.1 HE.out.2.2.2.1 (by rw [HV.out]; exact hx)
  have HX2 : Hid _ := And.intro F2 (And.intro HE.out.2.1 eX)
  have hlt := H2.lt
  clear H2 F2 eX HE
  go_wp2_with fail
  refine hq1.mono ?_
  rintro v w3 ⟨rfl, h3⟩
  go_wp2_with fail
  go_end0
  rw [HX2.out.2.2]
  exact RZ.s ⟨rfl, h3⟩ HX2.out.1
set_option maxRecDepth 100000 in
set_option maxHeartbeats 1000000 in
theorem step30 (H : RX w A C I V S st G nf cv iv ov) (hR : Rel S M) (hf : V.fs = f :: r) (hd : M.rt.length ≤ 24) (hq : f.rb + f.lr ≤ 24) (hop : byteAt C V.pc = 30) (hp : V.pc + 1 + 0 ≤ C.length) (hi : 1 ≤ f.ops.length) (hr : (1 : Int) ≤ (M.rt.length : Int) - f.rb - f.lr) (hx : (ldIntM M ((M.rt.length : Int) - 1) (opn V 0)).2 = 0) : Calls Tryz.prog 72 #[.pointer (some ⟨A.m, 0, none⟩)] w (RS w A C I (execV C I 30 V.pc { V with steps := wr64 (V.steps + 1), pc := V.pc + 1 + 0 } M).1 (execV C I 30 V.pc { V with steps := wr64 (V.steps + 1), pc := V.pc + 1 + 0 } M).2 cv iv ov) := by
  obtain ⟨V2, hV2⟩ : ∃ V2 : Vs, V2 = { V with steps := wr64 (V.steps + 1), pc := V.pc + 1 + 0 } := ⟨_, rfl⟩
  rw [← hV2]
  obtain ⟨X, hX⟩ : ∃ X, X = execV C I 30 V.pc V2 M := ⟨_, rfl⟩
  rw [← hX]
  have hf2 : V2.fs = f :: r := by rw [hV2]; exact hf
  have c1 := H.r_steps
  have c2 := H.r_pc
  have c3 := H.r_cv
  have c4 := H.r_en
  have hlt := H.lt
  have hz := H.blk.frozen
  have hcl := H.cl
  obtain ⟨b, c, e, hb', hc⟩ := H.code.all (by omega)
  have hbm : b ≠ A.m := (H.cd b ⟨_, _, e⟩).1
  have He : Hid _ := e
  rw [e] at c3
  have p0 := hc V.pc (by omega)
  rw [hop] at p0
  have q1 : ∀ w, Calls Tryz.prog 42 #[.int .i64 30] w fun e w' => e = .returned (.int .i64 0) ∧ w' = w := fun w => opArgsF 30 (by omega) w
  have hL := hR.len
  have H1 := H.s_steps (wr64 (V.steps + 1))
  have q2 := iopsF H1 (f := f) (r := r) hf
  have q3 : ∀ w, Calls Tryz.prog 106 #[.int .i64 30] w fun e w' => e = .returned (.int .i64 1) ∧ w' = w := fun w => wantIF 30 (by omega) w
  have q4 := fun m => ropsF (H1.drewN m) (f := f) (r := r) hf (by omega) (by omega)
  rw [← hL] at q4
  have q5 : ∀ w, Calls Tryz.prog 107 #[.int .i64 30] w fun e w' => e = .returned (.int .i64 1) ∧ w' = w := fun w => wantRF 30 (by omega) w
  have ho48 : f.ops.length ≤ 48 := by have := (H.lays hf).2.2.2.1; have := H.s48; omega
  obtain ⟨nr, hnr⟩ : ∃ nr, nr = (M.rt.length : Int) - f.rb - f.lr := ⟨_, rfl⟩
  have hr48 : -48 ≤ nr ∧ nr ≤ 24 := by omega
  rw [← hnr] at q4 hr
  have HK : Hid (∀ m, RX _ A C I V2 S st G nf cv iv ov) := fun m => by rw [hV2]; exact (H1.drewN m).s_pc (V.pc + 1 + 0)
  have FF : Hid (∀ m, _) := fun m => (((Fr.refl (VS A) w).setC A.m 63 (.int .i64 (wr64 (V.steps + 1))) (fun _ => .inl rfl)).drewN m).setC A.m 55 (.int .i64 (V.pc + 1 + 0 : Nat)) (fun _ => .inl rfl)
  have HE : Hid (_ ∧ _) := ⟨hX, And.intro hR (And.intro hf2 (And.intro hi hr))⟩
  have HV : Hid _ := hV2
  generalize hpcE : V.pc = pc at *
  obtain ⟨no, hno⟩ : ∃ no, no = f.ops.length := ⟨_, rfl⟩
  rw [← hno] at q2 hi ho48
  generalize V.steps = sx at *
  clear H H1 e hR hL hnr hf hq hd hX hf2 hno hV2 hpcE
  have hp' : (pc : Int) + 1 + 0 ≤ C.length := by omega
  have z : decide ((pc : Int) ≥ C.length) = false := decide_eq_false (by omega)
  have y2 : decide ((0 : Int) > (C.length : Int) - pc - 1) = false := decide_eq_false (by omega)
  have y3 : decide ((C.length : Int) - pc - 1 < (0 : Int)) = false := decide_eq_false (by omega)
  have y4 : decide ((no : Int) < 1) = false := decide_eq_false (by omega)
  have y5 : decide (nr < 1) = false := decide_eq_false (by omega)
  go_enter Tryz.func72, Tryz.ntmps72
  go_wp2_with fail
  refine (q1 _).mono ?_
  rintro v wa ⟨rfl, rfl⟩
  go_wp2_with fail
  refine q2.mono ?_
  rintro v wa ⟨rfl, m, rfl⟩
  go_wp2_with fail
  refine (q3 _).mono ?_
  rintro v wa ⟨rfl, rfl⟩
  go_wp2_with fail
  refine (q4 m).mono ?_
  rintro v wa ⟨rfl, m2, rfl⟩
  go_wp2_with fail
  refine (q5 _).mono ?_
  rintro v wa ⟨rfl, rfl⟩
  clear q1 q2 q3 q4 q5
  go_upto_region 76 with fail
  generalize hw2 : World.setCell _ ⟨A.m, 55, none⟩ _ = w2
  have H2 : RX w2 A C I V2 S st G nf cv iv ov := by rw [← hw2]; exact HK.out (m + m2)
  have F2 : Fr (VS A) w w2 := by rw [← hw2]; exact FF.out (m + m2)
  clear hw2 c1 c2 c3 c4 hlt hz p0 HK FF z y2 y3 y4 y5 hr48 hbm hb' hc
  have eX : X = (putO V2 1 (ldIntM M ((M.rt.length : Int) - 1) (opn V2 0)).1, (popM M 1).2) := by rw [HE.out.1]; show (if (ldIntM M ((M.rt.length : Int) - 1) (opn V2 0)).2 = 0 then _ else _) = _; rw [if_pos (by rw [HV.out]; exact hx)]
  have hq1 := get30_ok H2 HE.out.2.1 HE.out.2.2.1 HE.out.2.2.2.1 (by rw [HV.out]; exact hx)
  have HX2 : Hid _ := And.intro F2 (And.intro HE.out.2.1 eX)
  have hlt := H2.lt
  clear H2 F2 eX HE
  go_wp2_with fail
  refine hq1.mono ?_
  rintro v w3 ⟨rfl, h3⟩
  go_wp2_with fail
  go_end0
  rw [HX2.out.2.2]
  exact RZ.s ⟨rfl, h3⟩ HX2.out.1
set_option maxRecDepth 100000 in
set_option maxHeartbeats 1000000 in
theorem step31 (H : RX w A C I V S st G nf cv iv ov) (hR : Rel S M) (hf : V.fs = f :: r) (hd : M.rt.length ≤ 24) (hq : f.rb + f.lr ≤ 24) (hop : byteAt C V.pc = 31) (hp : V.pc + 1 + 0 ≤ C.length) (hi : 1 ≤ f.ops.length) (hr : (1 : Int) ≤ (M.rt.length : Int) - f.rb - f.lr) : Calls Tryz.prog 72 #[.pointer (some ⟨A.m, 0, none⟩)] w (RS w A C I (execV C I 31 V.pc { V with steps := wr64 (V.steps + 1), pc := V.pc + 1 + 0 } M).1 (execV C I 31 V.pc { V with steps := wr64 (V.steps + 1), pc := V.pc + 1 + 0 } M).2 cv iv ov) := by
  obtain ⟨V2, hV2⟩ : ∃ V2 : Vs, V2 = { V with steps := wr64 (V.steps + 1), pc := V.pc + 1 + 0 } := ⟨_, rfl⟩
  rw [← hV2]
  obtain ⟨X, hX⟩ : ∃ X, X = execV C I 31 V.pc V2 M := ⟨_, rfl⟩
  rw [← hX]
  have hf2 : V2.fs = f :: r := by rw [hV2]; exact hf
  have c1 := H.r_steps
  have c2 := H.r_pc
  have c3 := H.r_cv
  have c4 := H.r_en
  have hlt := H.lt
  have hz := H.blk.frozen
  have hcl := H.cl
  obtain ⟨b, c, e, hb', hc⟩ := H.code.all (by omega)
  have hbm : b ≠ A.m := (H.cd b ⟨_, _, e⟩).1
  have He : Hid _ := e
  rw [e] at c3
  have p0 := hc V.pc (by omega)
  rw [hop] at p0
  have q1 : ∀ w, Calls Tryz.prog 42 #[.int .i64 31] w fun e w' => e = .returned (.int .i64 0) ∧ w' = w := fun w => opArgsF 31 (by omega) w
  have hL := hR.len
  have H1 := H.s_steps (wr64 (V.steps + 1))
  have q2 := iopsF H1 (f := f) (r := r) hf
  have q3 : ∀ w, Calls Tryz.prog 106 #[.int .i64 31] w fun e w' => e = .returned (.int .i64 1) ∧ w' = w := fun w => wantIF 31 (by omega) w
  have q4 := fun m => ropsF (H1.drewN m) (f := f) (r := r) hf (by omega) (by omega)
  rw [← hL] at q4
  have q5 : ∀ w, Calls Tryz.prog 107 #[.int .i64 31] w fun e w' => e = .returned (.int .i64 1) ∧ w' = w := fun w => wantRF 31 (by omega) w
  have ho48 : f.ops.length ≤ 48 := by have := (H.lays hf).2.2.2.1; have := H.s48; omega
  obtain ⟨nr, hnr⟩ : ∃ nr, nr = (M.rt.length : Int) - f.rb - f.lr := ⟨_, rfl⟩
  have hr48 : -48 ≤ nr ∧ nr ≤ 24 := by omega
  rw [← hnr] at q4 hr
  have HK : Hid (∀ m, RX _ A C I V2 S st G nf cv iv ov) := fun m => by rw [hV2]; exact (H1.drewN m).s_pc (V.pc + 1 + 0)
  have FF : Hid (∀ m, _) := fun m => (((Fr.refl (VS A) w).setC A.m 63 (.int .i64 (wr64 (V.steps + 1))) (fun _ => .inl rfl)).drewN m).setC A.m 55 (.int .i64 (V.pc + 1 + 0 : Nat)) (fun _ => .inl rfl)
  have HE : Hid (_ ∧ _) := ⟨hX, And.intro hR (And.intro hf2 (And.intro hi hr))⟩
  have HV : Hid _ := hV2
  generalize hpcE : V.pc = pc at *
  obtain ⟨no, hno⟩ : ∃ no, no = f.ops.length := ⟨_, rfl⟩
  rw [← hno] at q2 hi ho48
  generalize V.steps = sx at *
  clear H H1 e hR hL hnr hf hq hd hX hf2 hno hV2 hpcE
  have hp' : (pc : Int) + 1 + 0 ≤ C.length := by omega
  have z : decide ((pc : Int) ≥ C.length) = false := decide_eq_false (by omega)
  have y2 : decide ((0 : Int) > (C.length : Int) - pc - 1) = false := decide_eq_false (by omega)
  have y3 : decide ((C.length : Int) - pc - 1 < (0 : Int)) = false := decide_eq_false (by omega)
  have y4 : decide ((no : Int) < 1) = false := decide_eq_false (by omega)
  have y5 : decide (nr < 1) = false := decide_eq_false (by omega)
  go_enter Tryz.func72, Tryz.ntmps72
  go_wp2_with fail
  refine (q1 _).mono ?_
  rintro v wa ⟨rfl, rfl⟩
  go_wp2_with fail
  refine q2.mono ?_
  rintro v wa ⟨rfl, m, rfl⟩
  go_wp2_with fail
  refine (q3 _).mono ?_
  rintro v wa ⟨rfl, rfl⟩
  go_wp2_with fail
  refine (q4 m).mono ?_
  rintro v wa ⟨rfl, m2, rfl⟩
  go_wp2_with fail
  refine (q5 _).mono ?_
  rintro v wa ⟨rfl, rfl⟩
  clear q1 q2 q3 q4 q5
  go_upto_region 76 with fail
  generalize hw2 : World.setCell _ ⟨A.m, 55, none⟩ _ = w2
  have H2 : RX w2 A C I V2 S st G nf cv iv ov := by rw [← hw2]; exact HK.out (m + m2)
  have F2 : Fr (VS A) w w2 := by rw [← hw2]; exact FF.out (m + m2)
  clear hw2 c1 c2 c3 c4 hlt hz p0 HK FF z y2 y3 y4 y5 hr48 hbm hb' hc
  have eX : X = (did (dropO V2 1) (ldRefM M ((M.rt.length : Int) - 1) (opn V2 0) ((M.rt.length : Int) - 1)).1, (ldRefM M ((M.rt.length : Int) - 1) (opn V2 0) ((M.rt.length : Int) - 1)).2) := by rw [HE.out.1]; exact rfl
  have hq1 := get31 H2 HE.out.2.1 HE.out.2.2.1 HE.out.2.2.2.1
  have HX2 : Hid _ := And.intro F2 (And.intro HE.out.2.1 eX)
  have hlt := H2.lt
  clear H2 F2 eX HE
  go_wp2_with fail
  refine hq1.mono ?_
  rintro v w3 ⟨rfl, h3⟩
  go_wp2_with fail
  go_end0
  rw [HX2.out.2.2]
  exact RZ.s ⟨rfl, h3⟩ HX2.out.1
end
end Go.Proofs.Qxb6500277aGreat
