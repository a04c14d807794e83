/- The real machine: returns with a number. -/
import Derived.Test.Qxb6500277aGreatVR18
namespace Go.Proofs.Qxb6500277aGreat
open Go Go.RowKit

section
variable {w w' : World} {A : Va} {C : List Nat} {I : List Int} {V : Vs} {S S' : HS} {M : MS} {st st' : Nat → Int} {G : Gx} {nf : Nat} {cv iv ov : Value} {F : Nat → Prop} {f : Fm} {r : List Fm} {os : List Int}
theorem leaveV_fs (hf : V.fs = f :: r) : (leaveV V).fs = r := by unfold leaveV; rw [hf]
set_option maxRecDepth 100000 in
set_option maxHeartbeats 600000 in
theorem retI_end (H : RX w A C I V S st G nf cv iv ov) (hR : Rel S M) (hf : V.fs = f :: r) (hr : r = []) (ho : 1 ≤ f.ops.length) (hb : f.rb ≤ 24) : Calls Tryz.prog 117 #[.pointer (some ⟨A.m, 0, none⟩)] w (RZ w A C I { leaveV V with en := 21, rt := opn V 0 } (popM M ((M.rt.length : Int) - f.rb)).2 cv iv ov) := by
  obtain ⟨k, hk, hk48, -, s0⟩ := H.one hf ho
  have c0 := H.r_sp
  rw [hk] at c0
  have c1 := H.r_st (k := k) (by omega)
  rw [s0] at c1
  have c3 := H.r_h
  have hlt := H.lt
  have e1 : ((k + 1 : Nat) : Int) - 1 = (k : Int) := by omega
  have hki : (k : Int) < 48 := by omega
  obtain ⟨_, _, h3, _⟩ := H.lays hf
  have hL := hR.len
  have hL24 : M.rt.length ≤ 24 := by rw [hL]; exact hR.top
  have hnf := H.nfe
  rw [hf] at hnf
  have HN : Hid _ := hnf
  have HD : Hid (_ ∧ _ ∧ _ ∧ _ ∧ _ ∧ _) := ⟨H, hR, hf, hr, h3, hL⟩
  generalize opn V 0 = x at *
  generalize M.rt.length = n at *
  obtain ⟨V', hV'⟩ : ∃ V', V' = { leaveV V with en := 21, rt := x } := ⟨_, rfl⟩
  rw [← hV']
  have HV : Hid _ := hV'
  clear H hR hf hr h3 hL hnf ho hk hk48 s0 hV'
  go_enter Tryz.func117, Tryz.ntmps117
  go_wp2_with fail
  go_quiet (fail)
  generalize hw2 : World.drewN _ _ = w2
  obtain ⟨H, hR, hf, hr, h3, hL⟩ := HD.out
  have D2 : RX w2 A C I V S st G nf cv iv ov := by rw [← hw2]; exact H.drewN _
  have F2 : Fr (VS A) w w2 := by rw [← hw2]; exact (Fr.refl (VS A) w).drewN _
  have d1 := D2.r_rb
  rw [h3] at d1
  have d2 := D2.r_h
  have dlt := D2.lt
  have hT := depthF D2.hm
  rw [← hL] at hT
  have hP := popF (D2.same ((Fr.refl (fun _ => False) _).drew)).hm hR.top ((n : Int) - f.rb)
  obtain ⟨q1, q2⟩ := hR.pop ((n : Int) - f.rb)
  have HH : Hid (_ ∧ _ ∧ _ ∧ _ ∧ _) := ⟨D2.same ((Fr.refl (fun _ => False) w2).drew), q2, hf, hr, F2.drew⟩
  generalize (popN S ((n : Int) - f.rb)).1 = er at *
  generalize (popN S ((n : Int) - f.rb)).2 = S1 at *
  clear H h3 hf hr q1 q2 hR hL D2 F2 hw2 c0 c1 c3 hlt HD
  go_wp2_with fail
  refine hT.mono ?_
  rintro v w1 ⟨rfl, rfl⟩
  clear hT
  go_wp2_with fail
  refine wp_region_text (by kernel_rfl) (by kernel_rfl) ?_
  go_wp2_with fail
  refine hP.mono ?_
  rintro v w3 ⟨rfl, hm3, k3⟩
  clear hP
  have R3 := HH.out.1.heap k3 hm3
  have hLv := leaveF R3 HH.out.2.2.1
  have HR3 : Hid _ := HH.out.2.2.2.2.trans (k3.mono (fun b _ h => .inr h)) (fun _ _ h => h)
  clear R3 k3 hm3
  go_wp2_with fail
  refine ⟨by kernel_rfl, ?_⟩
  go_wp2_with fail
  refine hLv.mono ?_
  rintro v w4 ⟨rfl, ⟨G4, R4⟩, k4⟩
  clear hLv
  have a1 := R4.r_nf
  have alt := R4.lt
  rw [HN.out, HH.out.2.2.2.1] at a1
  simp only [List.length_cons, List.length_nil] at a1
  have a2 := R4.r_en
  have a3 := R4.r_rt
  have az := R4.blk.frozen
  have R5 := ((R4.s_en 21).s_rt x).y
  have HR5 : Hid (_ ∧ _) := ⟨R5, k4⟩
  clear R4 R5 k4
  go_wp2_with fail
  exact bodyPost_ret (v := .tuple #[]) (by simp [results, Tryz.results117, go_sem]) rfl ⟨rfl, _, HV.out ▸ HR5.out.1, HH.out.2.1, ((HR3.out.trans HR5.out.2 (fun _ _ h => h)).setC A.m 61 _ (fun _ => .inl rfl)).setC A.m 62 _ (fun _ => .inl rfl)⟩
set_option maxRecDepth 100000 in
set_option maxHeartbeats 600000 in
theorem retI_on (H : RX w A C I V S st G nf cv iv ov) (hR : Rel S M) (hf : V.fs = f :: r) (hr : r ≠ []) (ho : 1 ≤ f.ops.length) (hb : f.rb ≤ 24) : Calls Tryz.prog 117 #[.pointer (some ⟨A.m, 0, none⟩)] w (RZ w A C I (pushV (leaveV V) (opn V 0)) (popM M ((M.rt.length : Int) - f.rb)).2 cv iv ov) := by
  obtain ⟨k, hk, hk48, -, s0⟩ := H.one hf ho
  have c0 := H.r_sp
  rw [hk] at c0
  have c1 := H.r_st (k := k) (by omega)
  rw [s0] at c1
  have c3 := H.r_h
  have hlt := H.lt
  have e1 : ((k + 1 : Nat) : Int) - 1 = (k : Int) := by omega
  have hki : (k : Int) < 48 := by omega
  obtain ⟨_, _, h3, _⟩ := H.lays hf
  have hL := hR.len
  have hL24 : M.rt.length ≤ 24 := by rw [hL]; exact hR.top
  have hnf := H.nfe
  rw [hf] at hnf
  have HN : Hid _ := hnf
  have HD : Hid (_ ∧ _ ∧ _ ∧ _ ∧ _ ∧ _) := ⟨H, hR, hf, hr, h3, hL⟩
  generalize opn V 0 = x at *
  generalize M.rt.length = n at *
  obtain ⟨V', hV'⟩ : ∃ V', V' = (pushV (leaveV V) (x)) := ⟨_, rfl⟩
  rw [← hV']
  have HV : Hid _ := hV'
  clear H hR hf hr h3 hL hnf ho hk hk48 s0 hV'
  go_enter Tryz.func117, Tryz.ntmps117
  go_wp2_with fail
  go_quiet (fail)
  generalize hw2 : World.drewN _ _ = w2
  obtain ⟨H, hR, hf, hr, h3, hL⟩ := HD.out
  have D2 : RX w2 A C I V S st G nf cv iv ov := by rw [← hw2]; exact H.drewN _
  have F2 : Fr (VS A) w w2 := by rw [← hw2]; exact (Fr.refl (VS A) w).drewN _
  have d1 := D2.r_rb
  rw [h3] at d1
  have d2 := D2.r_h
  have dlt := D2.lt
  have hT := depthF D2.hm
  rw [← hL] at hT
  have hP := popF (D2.same ((Fr.refl (fun _ => False) _).drew)).hm hR.top ((n : Int) - f.rb)
  obtain ⟨q1, q2⟩ := hR.pop ((n : Int) - f.rb)
  have HH : Hid (_ ∧ _ ∧ _ ∧ _ ∧ _) := ⟨D2.same ((Fr.refl (fun _ => False) w2).drew), q2, hf, hr, F2.drew⟩
  generalize (popN S ((n : Int) - f.rb)).1 = er at *
  generalize (popN S ((n : Int) - f.rb)).2 = S1 at *
  clear H h3 hf hr q1 q2 hR hL D2 F2 hw2 c0 c1 c3 hlt HD
  go_wp2_with fail
  refine hT.mono ?_
  rintro v w1 ⟨rfl, rfl⟩
  clear hT
  go_wp2_with fail
  refine wp_region_text (by kernel_rfl) (by kernel_rfl) ?_
  go_wp2_with fail
  refine hP.mono ?_
  rintro v w3 ⟨rfl, hm3, k3⟩
  clear hP
  have R3 := HH.out.1.heap k3 hm3
  have hLv := leaveF R3 HH.out.2.2.1
  have HR3 : Hid _ := HH.out.2.2.2.2.trans (k3.mono (fun b _ h => .inr h)) (fun _ _ h => h)
  clear R3 k3 hm3
  go_wp2_with fail
  refine ⟨by kernel_rfl, ?_⟩
  go_wp2_with fail
  refine hLv.mono ?_
  rintro v w4 ⟨rfl, ⟨G4, R4⟩, k4⟩
  clear hLv
  have a1 := R4.r_nf
  have alt := R4.lt
  obtain ⟨m, hm, hm0⟩ : ∃ m : Nat, m = nf - 1 ∧ m ≠ 0 := by
    refine ⟨_, rfl, ?_⟩
    rw [HN.out]
    cases r with
    | nil => exact absurd rfl HH.out.2.2.2.1
    | cons a b => simp
  rw [← hm] at a1
  have z : decide ((m : Int) = 0) = false := decide_eq_false (by omega)
  have z2 : decide (m = 0) = false := decide_eq_false hm0
  obtain ⟨f2, r2, er2⟩ : ∃ f2 r2, r = f2 :: r2 := by
    cases r with
    | nil => exact absurd rfl HH.out.2.2.2.1
    | cons a b => exact ⟨a, b, rfl⟩
  have hPu := vpushF R4 ((leaveV_fs HH.out.2.2.1).trans er2) x
  rw [← HV.out] at hPu
  have HR4 : Hid _ := k4
  clear R4 k4 hm er2
  go_wp2_with fail
  refine hPu.mono ?_
  rintro v w5 ⟨rfl, Y5, k5⟩
  clear hPu
  go_wp2_with fail
  go_end0
  exact ⟨rfl, _, Y5, HH.out.2.1, (HR3.out.trans HR4.out (fun _ _ h => h)).trans k5 (fun _ _ h => h)⟩
end
end Go.Proofs.Qxb6500277aGreat
