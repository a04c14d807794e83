/- The real machine: steps (written by genVR26.py). -/
import Derived.Test.Qxb6500277aGreatVR26
namespace Go.Proofs.Qxb6500277aGreat
open Go Go.RowKit

section
variable {w w' w0 : World} {A : Va} {C : List Nat} {I : List Int} {V V' : Vs} {S S' : HS} {M M' : MS} {st st' : Nat → Int} {G : Gx} {nf : Nat} {cv iv ov : Value} {f : Fm} {r : List Fm} {e : Ending}
theorem RX.outp (H : RX w A C I V S st G nf cv iv ov) {v' : Value} {o : List Int} (k : Fr (isB ov) w w') (hc : KiAt w' v' o) (hb : ∀ b, isB v' b → w.heap.size ≤ b ∨ isB ov b) : RX (w'.setCell ⟨A.m, 60, none⟩ v') A C I { V with out := o } S st G nf cv iv v' := by
  have hnm : ¬ isB ov A.m := fun h => (H.od _ h).1 rfl
  have hnh : ¬ isB ov A.h := fun h => (H.od _ h).2 rfl
  have kA := (Fr.refl (fun b => b = A.m) w').setC A.m 60 v' (fun _ => rfl)
  have hv : ∀ b, isB v' b → b ≠ A.m ∧ b ≠ A.h := fun b h => by
    rcases hb b h with g | g
    · exact ⟨by have := H.lt; omega, by have := HM.lt H.hm; omega⟩
    · exact H.od b g
  exact ⟨((H.blk.frame k hnm).set 60 v').congr (fun o ho => (vC_ov v' o ho).trans rfl), (H.hm.frame k hnh).frame kA (fun e => H.mh e.symm), H.lay, H.nfe, (H.code.frame k (fun b h g => (H.cd b h).2.2.2 g)).frame kA (fun b h e => (H.cd b h).1 e), (H.inp.frame k (fun b h g => (H.id b h).2.2 g)).frame kA (fun b h e => (H.id b h).1 e), hc.frame kA (fun b h e => (hv b h).1 e), H.mh,
    fun b h => ⟨(H.cd b h).1, (H.cd b h).2.1, (H.cd b h).2.2.1, fun g => by
      rcases hb b g with g | g
      · have := H.code.bk h; omega
      · exact (H.cd b h).2.2.2 g⟩,
    fun b h => ⟨(H.id b h).1, (H.id b h).2.1, fun g => by
      rcases hb b g with g | g
      · have := H.inp.bk h; omega
      · exact (H.id b h).2.2 g⟩, hv, H.cl, H.cb, H.il, H.s48⟩
theorem drop_out (V : Vs) (n : Nat) : (dropO V n).out = V.out := by
  obtain ⟨fs, pc, fuel, ip, out, en, rt, steps, most⟩ := V
  cases fs <;> rfl
set_option maxRecDepth 100000 in
set_option maxHeartbeats 1000000 in
theorem step35n (H : RX w A C I V S st G nf cv iv ov) (hR : Rel S M) (hf : V.fs = f :: r) (hd : M.rt.length ≤ 24) (hq : f.rb + f.lr ≤ 24) (hop : byteAt C V.pc = 35) (hp : V.pc + 1 + 0 ≤ C.length) (hi : 1 ≤ f.ops.length) (hr : (0 : Int) ≤ (M.rt.length : Int) - f.rb - f.lr) (hou : V.out.length ≤ 1024) (hx : 1024 ≤ V.out.length) : Calls Tryz.prog 72 #[.pointer (some ⟨A.m, 0, none⟩)] w (RS w A C I (execV C I 35 V.pc { V with steps := wr64 (V.steps + 1), pc := V.pc + 1 + 0 } M).1 (execV C I 35 V.pc { V with steps := wr64 (V.steps + 1), pc := V.pc + 1 + 0 } M).2 cv iv ov) := by
  obtain ⟨V2, hV2⟩ : ∃ V2 : Vs, V2 = { V with steps := wr64 (V.steps + 1), pc := V.pc + 1 + 0 } := ⟨_, rfl⟩
  rw [← hV2]
  obtain ⟨X, hX⟩ : ∃ X, X = execV C I 35 V.pc V2 M := ⟨_, rfl⟩
  rw [← hX]
  have hf2 : V2.fs = f :: r := by rw [hV2]; exact hf
  have c1 := H.r_steps
  have c2 := H.r_pc
  have c3 := H.r_cv
  have c4 := H.r_en
  have hlt := H.lt
  have hz := H.blk.frozen
  have hcl := H.cl
  obtain ⟨b, c, e, hb', hc⟩ := H.code.all (by omega)
  have hbm : b ≠ A.m := (H.cd b ⟨_, _, e⟩).1
  have He : Hid _ := e
  rw [e] at c3
  have p0 := hc V.pc (by omega)
  rw [hop] at p0
  have q1 : ∀ w, Calls Tryz.prog 42 #[.int .i64 35] w fun e w' => e = .returned (.int .i64 0) ∧ w' = w := fun w => opArgsF 35 (by omega) w
  have hL := hR.len
  have H1 := H.s_steps (wr64 (V.steps + 1))
  have q2 := iopsF H1 (f := f) (r := r) hf
  have q3 : ∀ w, Calls Tryz.prog 106 #[.int .i64 35] w fun e w' => e = .returned (.int .i64 1) ∧ w' = w := fun w => wantIF 35 (by omega) w
  have q4 := fun m => ropsF (H1.drewN m) (f := f) (r := r) hf (by omega) (by omega)
  rw [← hL] at q4
  have q5 : ∀ w, Calls Tryz.prog 107 #[.int .i64 35] w fun e w' => e = .returned (.int .i64 0) ∧ w' = w := fun w => wantRF 35 (by omega) w
  have ho48 : f.ops.length ≤ 48 := by have := (H.lays hf).2.2.2.1; have := H.s48; omega
  obtain ⟨nr, hnr⟩ : ∃ nr, nr = (M.rt.length : Int) - f.rb - f.lr := ⟨_, rfl⟩
  have hr48 : -48 ≤ nr ∧ nr ≤ 24 := by omega
  rw [← hnr] at q4 hr
  have HK : Hid (∀ m, RX _ A C I V2 S st G nf cv iv ov) := fun m => by rw [hV2]; exact (H1.drewN m).s_pc (V.pc + 1 + 0)
  have FF : Hid (∀ m, _) := fun m => (((Fr.refl (VS A) w).setC A.m 63 (.int .i64 (wr64 (V.steps + 1))) (fun _ => .inl rfl)).drewN m).setC A.m 55 (.int .i64 (V.pc + 1 + 0 : Nat)) (fun _ => .inl rfl)
  have HE : Hid (_ ∧ _) := ⟨hX, And.intro hR (And.intro hf2 (And.intro hi hr))⟩
  have HV : Hid _ := hV2
  generalize hpcE : V.pc = pc at *
  obtain ⟨no, hno⟩ : ∃ no, no = f.ops.length := ⟨_, rfl⟩
  rw [← hno] at q2 hi ho48
  generalize V.steps = sx at *
  clear H H1 e hR hL hnr hf hq hd hX hf2 hno hV2 hpcE
  have hp' : (pc : Int) + 1 + 0 ≤ C.length := by omega
  have z : decide ((pc : Int) ≥ C.length) = false := decide_eq_false (by omega)
  have y2 : decide ((0 : Int) > (C.length : Int) - pc - 1) = false := decide_eq_false (by omega)
  have y3 : decide ((C.length : Int) - pc - 1 < (0 : Int)) = false := decide_eq_false (by omega)
  have y4 : decide ((no : Int) < 1) = false := decide_eq_false (by omega)
  have y5 : decide (nr < 0) = false := decide_eq_false (by omega)
  go_enter Tryz.func72, Tryz.ntmps72
  go_wp2_with fail
  refine (q1 _).mono ?_
  rintro v wa ⟨rfl, rfl⟩
  go_wp2_with fail
  refine q2.mono ?_
  rintro v wa ⟨rfl, m, rfl⟩
  go_wp2_with fail
  refine (q3 _).mono ?_
  rintro v wa ⟨rfl, rfl⟩
  go_wp2_with fail
  refine (q4 m).mono ?_
  rintro v wa ⟨rfl, m2, rfl⟩
  go_wp2_with fail
  refine (q5 _).mono ?_
  rintro v wa ⟨rfl, rfl⟩
  clear q1 q2 q3 q4 q5
  go_upto_region 83 with fail
  generalize hw2 : World.setCell _ ⟨A.m, 55, none⟩ _ = w2
  have H2 : RX w2 A C I V2 S st G nf cv iv ov := by rw [← hw2]; exact HK.out (m + m2)
  have F2 : Fr (VS A) w w2 := by rw [← hw2]; exact FF.out (m + m2)
  clear hw2 c1 c2 c3 c4 hlt hz p0 HK FF z y2 y3 y4 y5 hr48 hbm hb' hc
  have eX : X = ((dropO V2 1).die 33, M) := by rw [HE.out.1]; show (if 1024 ≤ V2.out.length then _ else _, M) = _; rw [if_pos (by rw [HV.out]; show 1024 ≤ V.out.length; omega)]
  have HX2 : Hid _ := And.intro F2 (And.intro HE.out.2.1 eX)
  have hlt := H2.lt
  clear F2 eX
  obtain ⟨k, k1, k2, -, s0⟩ := H2.one HE.out.2.2.1 HE.out.2.2.2.1
  have d1 := H2.r_sp
  rw [k1] at d1
  have d2 := H2.r_st (k := k) (by omega)
  rw [s0] at d2
  have hz := H2.blk.frozen
  have hki : (k : Int) < 48 := by omega
  have e1 : ((k + 1 : Nat) : Int) - 1 = (k : Int) := by omega
  have D := H2.drop HE.out.2.2.1 1 HE.out.2.2.2.1 k1
  have HD : Hid _ := D
  have hol : V2.out.length = V.out.length := by rw [HV.out]
  rw [← hol] at hx
  have hou2 : V2.out.length ≤ 1024 := by rw [hol]; exact hou
  have hdo := drop_out V2 1
  have Hdo : Hid _ := hdo
  have Hs0 : Hid _ := s0
  clear H2 HE He k1 s0 D hol hou hdo HV
  go_upto_region 84 with fail
  generalize hw3 : World.setCell _ ⟨A.m, 49, none⟩ _ = w3
  have D3 : RX w3 A C I (dropO V2 1) S st { G with sp := k } nf cv iv ov := by rw [← hw3]; exact HD.out
  have F3 : Fr (VS A) w2 w3 := by rw [← hw3]; exact (Fr.refl (VS A) w2).setC A.m 49 _ (fun _ => .inl rfl)
  have HF3 : Hid _ := F3
  clear d1 d2 hz hw3 F3 e1 hlt HD
  have d1 := D3.r_sp
  have d2 := D3.r_st (k := k) (by omega)
  rw [Hs0.out] at d2
  have d3 := D3.r_ov
  have d4 := D3.r_en
  have hlt := D3.lt
  have hz := D3.blk.frozen
  simp only at d1
  obtain ⟨oa, oc, hoe, hoc⟩ := D3.out.sl
  rw [Hdo.out] at hoe hoc
  rw [hoe] at d3
  have y1 : decide ((V2.out.length : Int) ≥ 1024) = true := decide_eq_true (by omega)
  have y2 : decide ((1024 : Int) ≤ V2.out.length) = true := decide_eq_true (by omega)
  have HDD : Hid _ := (D3.s_en 33).y
  clear D3 hoe
  go_wp2_with fail
  go_end0
  rw [HX2.out.2.2]
  exact RS.of ⟨rfl, HDD.out, HF3.out.setC A.m 61 _ (fun _ => .inl rfl)⟩ HX2.out.2.1 HX2.out.1
set_option maxRecDepth 100000 in
set_option maxHeartbeats 1000000 in
theorem step35 (H : RX w A C I V S st G nf cv iv ov) (hR : Rel S M) (hf : V.fs = f :: r) (hd : M.rt.length ≤ 24) (hq : f.rb + f.lr ≤ 24) (hop : byteAt C V.pc = 35) (hp : V.pc + 1 + 0 ≤ C.length) (hi : 1 ≤ f.ops.length) (hr : (0 : Int) ≤ (M.rt.length : Int) - f.rb - f.lr) (hou : V.out.length ≤ 1024) (hx : V.out.length < 1024) : Calls Tryz.prog 72 #[.pointer (some ⟨A.m, 0, none⟩)] w (RS w A C I (execV C I 35 V.pc { V with steps := wr64 (V.steps + 1), pc := V.pc + 1 + 0 } M).1 (execV C I 35 V.pc { V with steps := wr64 (V.steps + 1), pc := V.pc + 1 + 0 } M).2 cv iv ov) := by
  obtain ⟨V2, hV2⟩ : ∃ V2 : Vs, V2 = { V with steps := wr64 (V.steps + 1), pc := V.pc + 1 + 0 } := ⟨_, rfl⟩
  rw [← hV2]
  obtain ⟨X, hX⟩ : ∃ X, X = execV C I 35 V.pc V2 M := ⟨_, rfl⟩
  rw [← hX]
  have hf2 : V2.fs = f :: r := by rw [hV2]; exact hf
  have c1 := H.r_steps
  have c2 := H.r_pc
  have c3 := H.r_cv
  have c4 := H.r_en
  have hlt := H.lt
  have hz := H.blk.frozen
  have hcl := H.cl
  obtain ⟨b, c, e, hb', hc⟩ := H.code.all (by omega)
  have hbm : b ≠ A.m := (H.cd b ⟨_, _, e⟩).1
  have He : Hid _ := e
  rw [e] at c3
  have p0 := hc V.pc (by omega)
  rw [hop] at p0
  have q1 : ∀ w, Calls Tryz.prog 42 #[.int .i64 35] w fun e w' => e = .returned (.int .i64 0) ∧ w' = w := fun w => opArgsF 35 (by omega) w
  have hL := hR.len
  have H1 := H.s_steps (wr64 (V.steps + 1))
  have q2 := iopsF H1 (f := f) (r := r) hf
  have q3 : ∀ w, Calls Tryz.prog 106 #[.int .i64 35] w fun e w' => e = .returned (.int .i64 1) ∧ w' = w := fun w => wantIF 35 (by omega) w
  have q4 := fun m => ropsF (H1.drewN m) (f := f) (r := r) hf (by omega) (by omega)
  rw [← hL] at q4
  have q5 : ∀ w, Calls Tryz.prog 107 #[.int .i64 35] w fun e w' => e = .returned (.int .i64 0) ∧ w' = w := fun w => wantRF 35 (by omega) w
  have ho48 : f.ops.length ≤ 48 := by have := (H.lays hf).2.2.2.1; have := H.s48; omega
  obtain ⟨nr, hnr⟩ : ∃ nr, nr = (M.rt.length : Int) - f.rb - f.lr := ⟨_, rfl⟩
  have hr48 : -48 ≤ nr ∧ nr ≤ 24 := by omega
  rw [← hnr] at q4 hr
  have HK : Hid (∀ m, RX _ A C I V2 S st G nf cv iv ov) := fun m => by rw [hV2]; exact (H1.drewN m).s_pc (V.pc + 1 + 0)
  have FF : Hid (∀ m, _) := fun m => (((Fr.refl (VS A) w).setC A.m 63 (.int .i64 (wr64 (V.steps + 1))) (fun _ => .inl rfl)).drewN m).setC A.m 55 (.int .i64 (V.pc + 1 + 0 : Nat)) (fun _ => .inl rfl)
  have HE : Hid (_ ∧ _) := ⟨hX, And.intro hR (And.intro hf2 (And.intro hi hr))⟩
  have HV : Hid _ := hV2
  generalize hpcE : V.pc = pc at *
  obtain ⟨no, hno⟩ : ∃ no, no = f.ops.length := ⟨_, rfl⟩
  rw [← hno] at q2 hi ho48
  generalize V.steps = sx at *
  clear H H1 e hR hL hnr hf hq hd hX hf2 hno hV2 hpcE
  have hp' : (pc : Int) + 1 + 0 ≤ C.length := by omega
  have z : decide ((pc : Int) ≥ C.length) = false := decide_eq_false (by omega)
  have y2 : decide ((0 : Int) > (C.length : Int) - pc - 1) = false := decide_eq_false (by omega)
  have y3 : decide ((C.length : Int) - pc - 1 < (0 : Int)) = false := decide_eq_false (by omega)
  have y4 : decide ((no : Int) < 1) = false := decide_eq_false (by omega)
  have y5 : decide (nr < 0) = false := decide_eq_false (by omega)
  go_enter Tryz.func72, Tryz.ntmps72
  go_wp2_with fail
  refine (q1 _).mono ?_
  rintro v wa ⟨rfl, rfl⟩
  go_wp2_with fail
  refine q2.mono ?_
  rintro v wa ⟨rfl, m, rfl⟩
  go_wp2_with fail
  refine (q3 _).mono ?_
  rintro v wa ⟨rfl, rfl⟩
  go_wp2_with fail
  refine (q4 m).mono ?_
  rintro v wa ⟨rfl, m2, rfl⟩
  go_wp2_with fail
  refine (q5 _).mono ?_
  rintro v wa ⟨rfl, rfl⟩
  clear q1 q2 q3 q4 q5
  go_upto_region 83 with fail
  generalize hw2 : World.setCell _ ⟨A.m, 55, none⟩ _ = w2
  have H2 : RX w2 A C I V2 S st G nf cv iv ov := by rw [← hw2]; exact HK.out (m + m2)
  have F2 : Fr (VS A) w w2 := by rw [← hw2]; exact FF.out (m + m2)
  clear hw2 c1 c2 c3 c4 hlt hz p0 HK FF z y2 y3 y4 y5 hr48 hbm hb' hc
  have eX : X = ({ dropO V2 1 with out := V2.out ++ [opn V2 0] }, M) := by rw [HE.out.1]; show (if 1024 ≤ V2.out.length then _ else _, M) = _; rw [if_neg (by rw [HV.out]; show ¬ 1024 ≤ V.out.length; omega)]
  have HX2 : Hid _ := And.intro F2 (And.intro HE.out.2.1 eX)
  have hlt := H2.lt
  clear F2 eX
  obtain ⟨k, k1, k2, -, s0⟩ := H2.one HE.out.2.2.1 HE.out.2.2.2.1
  have d1 := H2.r_sp
  rw [k1] at d1
  have d2 := H2.r_st (k := k) (by omega)
  rw [s0] at d2
  have hz := H2.blk.frozen
  have hki : (k : Int) < 48 := by omega
  have e1 : ((k + 1 : Nat) : Int) - 1 = (k : Int) := by omega
  have D := H2.drop HE.out.2.2.1 1 HE.out.2.2.2.1 k1
  have HD : Hid _ := D
  have hol : V2.out.length = V.out.length := by rw [HV.out]
  rw [← hol] at hx
  have hou2 : V2.out.length ≤ 1024 := by rw [hol]; exact hou
  have hdo := drop_out V2 1
  have Hdo : Hid _ := hdo
  have Hs0 : Hid _ := s0
  clear H2 HE He k1 s0 D hol hou hdo HV
  go_upto_region 84 with fail
  generalize hw3 : World.setCell _ ⟨A.m, 49, none⟩ _ = w3
  have D3 : RX w3 A C I (dropO V2 1) S st { G with sp := k } nf cv iv ov := by rw [← hw3]; exact HD.out
  have F3 : Fr (VS A) w2 w3 := by rw [← hw3]; exact (Fr.refl (VS A) w2).setC A.m 49 _ (fun _ => .inl rfl)
  have HF3 : Hid _ := F3
  clear d1 d2 hz hw3 F3 e1 hlt HD
  have d1 := D3.r_sp
  have d2 := D3.r_st (k := k) (by omega)
  rw [Hs0.out] at d2
  have d3 := D3.r_ov
  have d4 := D3.r_en
  have hlt := D3.lt
  have hz := D3.blk.frozen
  simp only at d1
  obtain ⟨oa, oc, hoe, hoc⟩ := D3.out.sl
  rw [Hdo.out] at hoe hoc
  have y1 : decide ((V2.out.length : Int) ≥ 1024) = false := decide_eq_false (by omega)
  have y2 : decide ((1024 : Int) ≤ V2.out.length) = false := decide_eq_false (by omega)
  generalize opn V2 0 = x at *
  have kA := ((Fr.refl (fun _ => False) w3).drew).alloc (.cells #[.int .i64 x] 3)
  have DA := D3.same kA
  have hxp : KiP (w3.drew.alloc (.cells #[.int .i64 x] 3)) w3.heap.size [x] := KiP.one ((Blk.new w3.drew #[.int .i64 x] 3 (fun _ => .int .i64 x) (fun o ho => by
    have ho : o < 1 := by simpa using ho
    obtain rfl : o = 0 := by omega
    rfl)).cell (by simp))
  have hO := DA.out
  rw [Hdo.out] at hO
  have HDA : Hid _ := DA
  have HkA : Hid _ := kA
  clear D3 DA kA
  subst hoe
  go_upto_region 86 with fail
  clear y1 y2
  refine wp_region_text (by kernel_rfl) (by kernel_rfl) ?_
  go_wp2_with (
    at_builtin
    refine wpList_appendI (by rfl) _ _ (by rfl) _ _ [x] _ 1 1 (by rfl) (by rfl) rfl hO hxp (.inr (by simp)) (by simp; omega) ?_
    intro v' w5 hc5 hb5 f5
    obtain ⟨va, vc, hvv, _⟩ := hc5.sl
    simp only [List.length_append, List.length_singleton] at hvv
    subst hvv
    have hcm := HDA.out.blk.frame f5 (fun h => (HDA.out.od _ h).1 rfl)
    have cm1 := hcm.cell (o := 60) (by omega)
    have cml := hcm.lt
    have cmz := hcm.frozen
    have Hc5 : Hid _ := And.intro hc5 (And.intro hb5 f5)
    clear hc5 hb5 f5 hcm)
  refine ⟨by kernel_rfl, ?_⟩
  go_wp2_with fail
  go_end0
  rw [HX2.out.2.2]
  obtain ⟨hc5, hb5, f5⟩ := Hc5.out
  have key := HDA.out.outp f5 hc5 hb5
  have hs3 := HkA.out.size
  have hs2 := HF3.out.size
  have hs0 := HX2.out.1.size
  refine ⟨rfl, S, _, key.y, HX2.out.2.1, ?_, fun b hb => ?_⟩
  · exact ((((HX2.out.1.trans HF3.out (fun _ _ h => h)).mono (S' := VO A (.slice oa V2.out.length oc)) (fun _ _ h => .inl h)).trans HkA.out (fun _ _ h => h.elim)).trans f5 (fun _ _ h => .inr h)).setC A.m 60 _ (fun _ => .inl (.inl rfl))
  · rcases hb5 b hb with g | g
    · exact .inl (Nat.le_trans hs0 (Nat.le_trans hs2 (Nat.le_trans hs3 g)))
    · exact .inr g
end
end Go.Proofs.Qxb6500277aGreat
