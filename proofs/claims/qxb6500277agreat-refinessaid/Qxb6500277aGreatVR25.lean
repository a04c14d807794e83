/- The real machine: what a step leaves; a call, whole; a step that is refused. -/
import Derived.Test.Qxb6500277aGreatVR24
namespace Go.Proofs.Qxb6500277aGreat
open Go Go.RowKit

/-- What a step may write. -/
def VO (A : Va) (ov : Value) (b : Nat) : Prop := VS A b ∨ isB ov b
def RS (w : World) (A : Va) (C : List Nat) (I : List Int) (V' : Vs) (M' : MS) (cv iv ov : Value) (e : Ending) (w' : World) : Prop :=
  e = .returned (.tuple #[]) ∧ ∃ S' ov', RY w' A C I V' S' cv iv ov' ∧ Rel S' M' ∧ Fr (VO A ov) w w' ∧ ∀ b, isB ov' b → w.heap.size ≤ b ∨ isB ov b
section
variable {w w' w0 : World} {A : Va} {C : List Nat} {I : List Int} {V V' : Vs} {S S' : HS} {M M' : MS} {st st' : Nat → Int} {G : Gx} {nf : Nat} {cv iv ov : Value} {f : Fm} {r : List Fm} {e : Ending}
theorem RZ.s (h : RZ w A C I V' M' cv iv ov e w') (k : Fr (VS A) w0 w) : RS w0 A C I V' M' cv iv ov e w' := by
  obtain ⟨h1, S', h2, h3, h4⟩ := h
  exact ⟨h1, S', ov, h2, h3, (k.trans h4 (fun _ _ h => h)).mono (fun _ _ h => .inl h), fun b hb => .inr hb⟩
theorem RS.of (h : e = .returned (.tuple #[]) ∧ RY w' A C I V' S cv iv ov ∧ Fr (VS A) w w') (hR : Rel S M') (k : Fr (VS A) w0 w) : RS w0 A C I V' M' cv iv ov e w' :=
  RZ.s ⟨h.1, S, h.2.1, hR, h.2.2⟩ k
theorem enterF (H : RX w A C I V S st G nf cv iv ov) (hR : Rel S M) (a ret : Nat) (hb : V.fuel ≤ 9223372036854775807) (hd : M.rt.length ≤ 24) (hch : ∀ f r, V.fs = f :: r → f.rb + f.lr ≤ 24) (hmo : V.most ≤ 48) : Calls Tryz.prog 71 #[.pointer (some ⟨A.m, 0, none⟩), .int .i64 (a : Nat), .int .i64 (ret : Nat)] w (RZ w A C I (callV C V M a ret).1 (callV C V M a ret).2 cv iv ov) := by
  by_cases h1 : C.length < a + 5
  · have e : callV C V M a ret = (V.die 24, M) := by unfold callV; rw [if_pos (.inl h1)]
    rw [e]
    exact (enter_e1 H a ret h1).mono (fun e w' h => ⟨h.1, S, h.2.1, hR, h.2.2⟩)
  · by_cases h2 : byteAt C a = 25
    · by_cases h3 : byteAt C (a + 3) < byteAt C (a + 1) ∨ byteAt C (a + 4) < byteAt C (a + 2)
      · have e : callV C V M a ret = (V.die 24, M) := by unfold callV; rw [if_neg (by omega), if_pos h3]
        rw [e]
        exact (enter_e3 H a ret (by omega) h2 h3).mono (fun e w' h => ⟨h.1, S, h.2.1, hR, h.2.2⟩)
      · exact enter_go H hR a ret (by omega) h2 (by omega) (by omega) hb hd hch hmo
    · have e : callV C V M a ret = (V.die 24, M) := by unfold callV; rw [if_pos (.inr h2)]
      rw [e]
      exact (enter_e2 H a ret (by omega) h2).mono (fun e w' h => ⟨h.1, S, h.2.1, hR, h.2.2⟩)
set_option maxRecDepth 100000 in
set_option maxHeartbeats 600000 in
theorem step_e1 (H : RX w A C I V S st G nf cv iv ov) (hR : Rel S M) (hp : C.length ≤ V.pc) : Calls Tryz.prog 72 #[.pointer (some ⟨A.m, 0, none⟩)] w (RS w A C I (({ V with steps := wr64 (V.steps + 1) } : Vs).die 24) M cv iv ov) := by
  have c1 := H.r_steps
  have c2 := H.r_pc
  have c3 := H.r_cv
  have c4 := H.r_en
  have hlt := H.lt
  have hz := H.blk.frozen
  have hcl := H.cl
  obtain ⟨p, c, e, hc⟩ := H.code.sl
  rw [e] at c3
  have HK : Hid (_ ∧ _) := ⟨((H.s_steps (wr64 (V.steps + 1))).s_en 24).y, hR⟩
  have FF : Hid _ := ((Fr.refl (VS A) w).setC A.m 63 (.int .i64 (wr64 (V.steps + 1))) (fun _ => .inl rfl)).setC A.m 61 (.int .i64 24) (fun _ => .inl rfl)
  generalize V.pc = pc at *
  clear H e hR
  go_enter Tryz.func72, Tryz.ntmps72
  go_wp2_with fail
  exact bodyPost_ret (v := .tuple #[]) (by simp [results, Tryz.results72, go_sem]) rfl (RZ.s ⟨rfl, S, HK.out.1, HK.out.2, FF.out⟩ (Fr.refl _ _))
set_option maxRecDepth 100000 in
set_option maxHeartbeats 600000 in
theorem step_e2 (H : RX w A C I V S st G nf cv iv ov) (hR : Rel S M) (hp : V.pc < C.length) (hb : opArgs (byteAt C V.pc) < 0 ∨ (C.length : Int) < V.pc + 1 + opArgs (byteAt C V.pc)) : Calls Tryz.prog 72 #[.pointer (some ⟨A.m, 0, none⟩)] w (RS w A C I (({ V with steps := wr64 (V.steps + 1) } : Vs).die 24) M cv iv ov) := by
  have c1 := H.r_steps
  have c2 := H.r_pc
  have c3 := H.r_cv
  have c4 := H.r_en
  have hlt := H.lt
  have hz := H.blk.frozen
  have hcl := H.cl
  have hby := H.cb V.pc
  obtain ⟨b, c, e, hb', hc⟩ := H.code.all (by omega)
  have hbm : b ≠ A.m := (H.cd b ⟨_, _, e⟩).1
  rw [e] at c3
  have p0 := hc V.pc hp
  have q1 := opArgsF (byteAt C V.pc) hby
  have hoa : -1 ≤ opArgs (byteAt C V.pc) ∧ opArgs (byteAt C V.pc) ≤ 8 := by unfold opArgs; repeat' split
                                                                            all_goals omega
  have HK : Hid (_ ∧ _) := ⟨((H.s_steps (wr64 (V.steps + 1))).s_en 24).y, hR⟩
  have FF : Hid _ := ((Fr.refl (VS A) w).setC A.m 63 (.int .i64 (wr64 (V.steps + 1))) (fun _ => .inl rfl)).setC A.m 61 (.int .i64 24) (fun _ => .inl rfl)
  obtain ⟨pc, hpc⟩ : ∃ pc, pc = V.pc := ⟨_, rfl⟩
  rw [← hpc] at c2 p0 hp hb q1 hby hoa
  generalize opArgs (byteAt C pc) = n at *
  generalize byteAt C pc = op at *
  clear H e hR hpc hc
  obtain ⟨hoa1, hoa2⟩ := hoa
  have hp' : (pc : Int) < C.length := by omega
  have z : decide ((pc : Int) ≥ C.length) = false := decide_eq_false (by omega)
  by_cases g : n < 0
  · have y1 : decide (n < 0) = true := decide_eq_true g
    clear hb
    go_enter Tryz.func72, Tryz.ntmps72
    go_wp2_with fail
    refine (q1 _).mono ?_
    rintro v wa ⟨rfl, rfl⟩
    go_wp2_with fail
    exact bodyPost_ret (v := .tuple #[]) (by simp [results, Tryz.results72, go_sem]) rfl (RZ.s ⟨rfl, S, HK.out.1, HK.out.2, FF.out⟩ (Fr.refl _ _))
  · have g2 : (C.length : Int) - pc - 1 < n := by omega
    have y1 : decide (n < 0) = false := decide_eq_false g
    have y2 : decide (n > (C.length : Int) - pc - 1) = true := decide_eq_true g2
    have y3 : decide ((C.length : Int) - pc - 1 < n) = true := decide_eq_true g2
    clear hb
    go_enter Tryz.func72, Tryz.ntmps72
    go_wp2_with fail
    refine (q1 _).mono ?_
    rintro v wa ⟨rfl, rfl⟩
    go_wp2_with fail
    exact bodyPost_ret (v := .tuple #[]) (by simp [results, Tryz.results72, go_sem]) rfl (RZ.s ⟨rfl, S, HK.out.1, HK.out.2, FF.out⟩ (Fr.refl _ _))
set_option maxRecDepth 100000 in
set_option maxHeartbeats 600000 in
theorem step_e3 (H : RX w A C I V S st G nf cv iv ov) (hR : Rel S M) (hf : V.fs = f :: r) (hd : M.rt.length ≤ 24) (hq : f.rb + f.lr ≤ 24) (hp : V.pc < C.length) (hb1 : 0 ≤ opArgs (byteAt C V.pc)) (hb2 : (V.pc : Int) + 1 + opArgs (byteAt C V.pc) ≤ C.length) (hw : f.ops.length < wantI (byteAt C V.pc) ∨ (M.rt.length : Int) - f.rb - f.lr < wantR (byteAt C V.pc)) : Calls Tryz.prog 72 #[.pointer (some ⟨A.m, 0, none⟩)] w (RS w A C I (({ V with steps := wr64 (V.steps + 1) } : Vs).die 24) M cv iv ov) := by
  have c1 := H.r_steps
  have c2 := H.r_pc
  have c3 := H.r_cv
  have c4 := H.r_en
  have hlt := H.lt
  have hz := H.blk.frozen
  have hcl := H.cl
  have hby := H.cb V.pc
  obtain ⟨b, c, e, hb', hc⟩ := H.code.all (by omega)
  have hbm : b ≠ A.m := (H.cd b ⟨_, _, e⟩).1
  rw [e] at c3
  have p0 := hc V.pc hp
  have q1 := opArgsF (byteAt C V.pc) hby
  have h37 : byteAt C V.pc < 37 := by
    unfold opArgs at hb1
    by_cases h : byteAt C V.pc < 37
    · exact h
    · rw [if_neg (by omega), if_neg (by omega), if_neg (by omega), if_neg (by omega), if_neg h] at hb1
      omega
  have hoa : opArgs (byteAt C V.pc) ≤ 8 := by unfold opArgs; repeat' split
                                              all_goals omega
  have hL := hR.len
  have H1 := H.s_steps (wr64 (V.steps + 1))
  have q2 := iopsF H1 (f := f) (r := r) hf
  have q3 := wantIF (byteAt C V.pc) h37
  have q4 := fun m => ropsF (H1.drewN m) (f := f) (r := r) hf (by omega) (by omega)
  rw [← hL] at q4
  have q5 := wantRF (byteAt C V.pc) h37
  have hwi : wantI (byteAt C V.pc) ≤ 2 := by unfold wantI; repeat' split
                                             all_goals omega
  have hwr : wantR (byteAt C V.pc) ≤ 2 := by unfold wantR; repeat' split
                                             all_goals omega
  have ho48 : f.ops.length ≤ 48 := by have := (H.lays hf).2.2.2.1; have := H.s48; omega
  obtain ⟨nr, hnr⟩ : ∃ nr, nr = (M.rt.length : Int) - f.rb - f.lr := ⟨_, rfl⟩
  have hr48 : -48 ≤ nr ∧ nr ≤ 24 := by omega
  rw [← hnr] at q4 hw
  have HK : Hid (_ ∧ _) := ⟨fun m => ((H1.drewN m).s_en 24).y, hR⟩
  have FF : Hid (∀ m, _) := fun m => (((Fr.refl (VS A) w).setC A.m 63 (.int .i64 (wr64 (V.steps + 1))) (fun _ => .inl rfl)).drewN m).setC A.m 61 (.int .i64 24) (fun _ => .inl rfl)
  obtain ⟨pc, hpc⟩ : ∃ pc, pc = V.pc := ⟨_, rfl⟩
  rw [← hpc] at c2 p0 hp hb1 hb2 q1 q3 q5 hby hoa hwi hwr hw
  generalize opArgs (byteAt C pc) = n at *
  generalize wantI (byteAt C pc) = wi at *
  generalize wantR (byteAt C pc) = wrr at *
  generalize byteAt C pc = op at *
  generalize f.ops.length = no at *
  clear H H1 e hR hpc hc hL hnr hf hq hd
  have hp' : (pc : Int) < C.length := by omega
  have z : decide ((pc : Int) ≥ C.length) = false := decide_eq_false (by omega)
  have y1 : decide (n < 0) = false := decide_eq_false (by omega)
  have y2 : decide (n > (C.length : Int) - pc - 1) = false := decide_eq_false (by omega)
  have y3 : decide ((C.length : Int) - pc - 1 < n) = false := decide_eq_false (by omega)
  have Hw : Hid _ := hw
  clear hw
  go_enter Tryz.func72, Tryz.ntmps72
  go_wp2_with fail
  refine (q1 _).mono ?_
  rintro v wa ⟨rfl, rfl⟩
  go_wp2_with fail
  refine q2.mono ?_
  rintro v wa ⟨rfl, m, rfl⟩
  go_wp2_with fail
  refine (q3 _).mono ?_
  rintro v wa ⟨rfl, rfl⟩
  go_wp2_with fail
  refine (q4 m).mono ?_
  rintro v wa ⟨rfl, m2, rfl⟩
  go_wp2_with fail
  refine (q5 _).mono ?_
  rintro v wa ⟨rfl, rfl⟩
  clear q1 q2 q3 q4 q5
  by_cases g : no < wi
  · have u1 : decide ((no : Int) < (wi : Int)) = true := decide_eq_true (by omega)
    have u2 : decide (no < wi) = true := decide_eq_true g
    go_wp2_with fail
    exact bodyPost_ret (v := .tuple #[]) (by simp [results, Tryz.results72, go_sem]) rfl (RZ.s ⟨rfl, S, HK.out.1 (m + m2), HK.out.2, FF.out (m + m2)⟩ (Fr.refl _ _))
  · have u1 : decide ((no : Int) < (wi : Int)) = false := decide_eq_false (by omega)
    have u2 : decide (no < wi) = false := decide_eq_false g
    have g2 : nr < wrr := by have := Hw.out; omega
    have u3 : decide (nr < (wrr : Int)) = true := decide_eq_true g2
    go_wp2_with fail
    exact bodyPost_ret (v := .tuple #[]) (by simp [results, Tryz.results72, go_sem]) rfl (RZ.s ⟨rfl, S, HK.out.1 (m + m2), HK.out.2, FF.out (m + m2)⟩ (Fr.refl _ _))
end
end Go.Proofs.Qxb6500277aGreat
