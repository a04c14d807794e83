/- The real machine: fields written. -/
import Derived.Test.Qxb6500277aGreatVR14
namespace Go.Proofs.Qxb6500277aGreat
open Go Go.RowKit

section
variable {w w' : World} {A : Va} {C : List Nat} {I : List Int} {V : Vs} {S S' : HS} {M : MS} {st st' : Nat → Int} {G : Gx} {nf : Nat} {cv iv ov : Value} {F : Nat → Prop} {f : Fm} {r : List Fm} {os : List Int}
set_option maxRecDepth 100000 in
set_option maxHeartbeats 600000 in
theorem set33_no (H : RX w A C I V S st G nf cv iv ov) (hR : Rel S M) (hf : V.fs = f :: r) (ho : 1 ≤ f.ops.length) (he : (stRefM M ((M.rt.length : Int) - 2) (opn V 0) ((M.rt.length : Int) - 1)).1 ≠ 0) : Calls Tryz.prog 121 #[.pointer (some ⟨A.m, 0, none⟩), .int .i64 33] w (RZ w A C I ((dropO V 1).die (endOf (stRefM M ((M.rt.length : Int) - 2) (opn V 0) ((M.rt.length : Int) - 1)).1)) (stRefM M ((M.rt.length : Int) - 2) (opn V 0) ((M.rt.length : Int) - 1)).2 cv iv ov) := by
  obtain ⟨k, hk, hk48, -, s0⟩ := H.one hf ho
  have c0 := H.r_sp
  rw [hk] at c0
  have c1 := H.r_st (k := k) (by omega)
  rw [s0] at c1
  have e1 : ((k + 1 : Nat) : Int) - 1 = (k : Int) := by omega
  have D := H.drop hf 1 ho (k := k) hk
  have c2 := H.r_h
  have hlt := H.lt
  have hz := H.blk.frozen
  have hT := depthF H.hm
  have hL := hR.len
  rw [← hL] at hT
  have hL24 : M.rt.length ≤ 24 := by rw [hL]; exact hR.top
  have hki : (k : Int) < 48 := by omega
  have hne : 1 + k ≠ 49 := by omega
  have hf2 : ∃ f2 r2, (dropO V 1).fs = f2 :: r2 := by rw [dropO_c hf]; exact ⟨_, _, rfl⟩
  have HD : Hid (_ ∧ _ ∧ _) := ⟨D, hR, hf2⟩
  generalize opn V 0 = x at *
  generalize M.rt.length = n at *
  have hD := storeRefF (D.same ((Fr.refl (fun _ => False) _).drew)).hm (hR.all.choose_spec.choose_spec.1) ((n : Int) - 2) x ((n : Int) - 1)
  obtain ⟨q1, q2⟩ := hR.stRef ((n : Int) - 2) x ((n : Int) - 1)
  rw [q1] at hD
  have Hq : Hid _ := q2
  generalize hM1 : (stRefM M ((n : Int) - 2) x ((n : Int) - 1)).2 = M1 at *
  generalize (stRefM M ((n : Int) - 2) x ((n : Int) - 1)).1 = er at *
  generalize hS1 : (stRefN S ((n : Int) - 2) x ((n : Int) - 1)).2 = S1 at *
  have hz0 : decide (er = 0) = false := decide_eq_false he
  have HE : Hid (did (dropO V 1) er = (dropO V 1).die (endOf er)) := by unfold did; rw [if_neg he]; exact rfl
  have HZ : Hid _ := hz0
  rw [show (n : Int) - 2 = (n : Int) - 1 - 1 by omega] at hD
  clear H D hf hf2 ho hk hk48 s0 hR hL he hz0 q1 q2 hM1 hS1
  go_enter Tryz.func121, Tryz.ntmps121
  go_wp2_with fail
  refine hT.mono ?_
  rintro v w1 ⟨rfl, rfl⟩
  clear hT
  go_wp2_with fail
  refine wp_region_text (by kernel_rfl) (by kernel_rfl) ?_
  go_wp2_with fail
  refine hD.mono ?_
  rintro v w3 ⟨rfl, hm3, k3⟩
  clear hD
  have R3 := (HD.out.1.same ((Fr.refl (fun _ => False) _).drew)).heap k3 hm3
  have hDid := heapDidF R3 er
  rw [HZ.out, HE.out] at hDid
  have HR3 : Hid _ := k3
  clear R3 k3 hm3
  go_wp2_with fail
  refine ⟨by kernel_rfl, ?_⟩
  go_wp2_with fail
  refine hDid.mono ?_
  rintro v w4 ⟨rfl, R4, k4⟩
  clear hDid
  go_wp2_with fail
  first
    | exact bodyPost_ret (v := .tuple #[]) (by simp [results, Tryz.results121, go_sem]) rfl ⟨rfl, _, R4.y, Hq.out, ((((Fr.refl (VS A) w1).setC A.m 49 _ (fun _ => .inl rfl)).drew).trans (HR3.out.mono (fun b _ h => .inr h)) (fun _ _ h => h)).trans k4 (fun _ _ h => h)⟩
    | (go_end0; exact ⟨rfl, _, R4.y, Hq.out, ((((Fr.refl (VS A) w1).setC A.m 49 _ (fun _ => .inl rfl)).drew).trans (HR3.out.mono (fun b _ h => .inr h)) (fun _ _ h => h)).trans k4 (fun _ _ h => h)⟩)
set_option maxRecDepth 100000 in
set_option maxHeartbeats 600000 in
theorem set33_ok (H : RX w A C I V S st G nf cv iv ov) (hR : Rel S M) (hf : V.fs = f :: r) (ho : 1 ≤ f.ops.length) (he : (stRefM M ((M.rt.length : Int) - 2) (opn V 0) ((M.rt.length : Int) - 1)).1 = 0) : Calls Tryz.prog 121 #[.pointer (some ⟨A.m, 0, none⟩), .int .i64 33] w (RZ w A C I (dropO V 1) (popM (stRefM M ((M.rt.length : Int) - 2) (opn V 0) ((M.rt.length : Int) - 1)).2 2).2 cv iv ov) := by
  obtain ⟨k, hk, hk48, -, s0⟩ := H.one hf ho
  have c0 := H.r_sp
  rw [hk] at c0
  have c1 := H.r_st (k := k) (by omega)
  rw [s0] at c1
  have e1 : ((k + 1 : Nat) : Int) - 1 = (k : Int) := by omega
  have D := H.drop hf 1 ho (k := k) hk
  have c2 := H.r_h
  have hlt := H.lt
  have hz := H.blk.frozen
  have hT := depthF H.hm
  have hL := hR.len
  rw [← hL] at hT
  have hL24 : M.rt.length ≤ 24 := by rw [hL]; exact hR.top
  have hki : (k : Int) < 48 := by omega
  have hne : 1 + k ≠ 49 := by omega
  have hf2 : ∃ f2 r2, (dropO V 1).fs = f2 :: r2 := by rw [dropO_c hf]; exact ⟨_, _, rfl⟩
  have HD : Hid (_ ∧ _ ∧ _) := ⟨D, hR, hf2⟩
  generalize opn V 0 = x at *
  generalize M.rt.length = n at *
  have hD := storeRefF (D.same ((Fr.refl (fun _ => False) _).drew)).hm (hR.all.choose_spec.choose_spec.1) ((n : Int) - 2) x ((n : Int) - 1)
  obtain ⟨q1, q2⟩ := hR.stRef ((n : Int) - 2) x ((n : Int) - 1)
  rw [q1] at hD
  have Hq : Hid _ := q2
  generalize hM1 : (stRefM M ((n : Int) - 2) x ((n : Int) - 1)).2 = M1 at *
  generalize (stRefM M ((n : Int) - 2) x ((n : Int) - 1)).1 = er at *
  generalize hS1 : (stRefN S ((n : Int) - 2) x ((n : Int) - 1)).2 = S1 at *
  have hz0 : decide (er = 0) = true := decide_eq_true he
  have HE : Hid (did (dropO V 1) er = dropO V 1) := by unfold did; rw [if_pos he]; exact rfl
  have HZ : Hid _ := hz0
  rw [show (n : Int) - 2 = (n : Int) - 1 - 1 by omega] at hD
  clear H D hf hf2 ho hk hk48 s0 hR hL he hz0 q1 q2 hM1 hS1
  go_enter Tryz.func121, Tryz.ntmps121
  go_wp2_with fail
  refine hT.mono ?_
  rintro v w1 ⟨rfl, rfl⟩
  clear hT
  go_wp2_with fail
  refine wp_region_text (by kernel_rfl) (by kernel_rfl) ?_
  go_wp2_with fail
  refine hD.mono ?_
  rintro v w3 ⟨rfl, hm3, k3⟩
  clear hD
  have R3 := (HD.out.1.same ((Fr.refl (fun _ => False) _).drew)).heap k3 hm3
  have hDid := heapDidF R3 er
  rw [HZ.out, HE.out] at hDid
  have HR3 : Hid _ := k3
  clear R3 k3 hm3
  go_wp2_with fail
  refine ⟨by kernel_rfl, ?_⟩
  go_wp2_with fail
  refine hDid.mono ?_
  rintro v w4 ⟨rfl, R4, k4⟩
  clear hDid
  obtain ⟨q1, q2⟩ := Hq.out.pop 2
  have hP := popF R4.hm Hq.out.top 2
  have d3 := R4.r_h
  have dlt3 := R4.lt
  have HR4 : Hid (_ ∧ _ ∧ _) := ⟨R4, k4, q2⟩
  generalize (popN S1 2).1 = pe at *
  clear R4 k4 q1 q2
  go_wp2_with fail
  refine hP.mono ?_
  rintro v w5 ⟨rfl, hm5, k5⟩
  clear hP
  go_wp2_with fail
  first
    | exact bodyPost_ret (v := .tuple #[]) (by simp [results, Tryz.results121, go_sem]) rfl ⟨rfl, _, (HR4.out.1.heap k5 hm5).y, HR4.out.2.2, (((((Fr.refl (VS A) w1).setC A.m 49 _ (fun _ => .inl rfl)).drew).trans (HR3.out.mono (fun b _ h => .inr h)) (fun _ _ h => h)).trans HR4.out.2.1 (fun _ _ h => h)).trans (k5.mono (fun b _ h => .inr h)) (fun _ _ h => h)⟩
    | (go_end0; exact ⟨rfl, _, (HR4.out.1.heap k5 hm5).y, HR4.out.2.2, (((((Fr.refl (VS A) w1).setC A.m 49 _ (fun _ => .inl rfl)).drew).trans (HR3.out.mono (fun b _ h => .inr h)) (fun _ _ h => h)).trans HR4.out.2.1 (fun _ _ h => h)).trans (k5.mono (fun b _ h => .inr h)) (fun _ _ h => h)⟩)
set_option maxRecDepth 100000 in
set_option maxHeartbeats 600000 in
theorem set32_no (H : RX w A C I V S st G nf cv iv ov) (hR : Rel S M) (hf : V.fs = f :: r) (ho : 2 ≤ f.ops.length) (he : (stIntM M ((M.rt.length : Int) - 1) (opn V 1) (opn V 0)).1 ≠ 0) : Calls Tryz.prog 121 #[.pointer (some ⟨A.m, 0, none⟩), .int .i64 32] w (RZ w A C I ((dropO V 2).die (endOf (stIntM M ((M.rt.length : Int) - 1) (opn V 1) (opn V 0)).1)) (stIntM M ((M.rt.length : Int) - 1) (opn V 1) (opn V 0)).2 cv iv ov) := by
  obtain ⟨k, hk, hk48, -, s0, s1⟩ := H.two hf ho
  have c0 := H.r_sp
  rw [hk] at c0
  have c1 := H.r_st (k := k) (by omega)
  rw [s0] at c1
  have c1' := H.r_st (k := k + 1) (by omega)
  rw [s1] at c1'
  have hne' : 1 + (k + 1) ≠ 49 := by omega
  have e1 : ((k + 2 : Nat) : Int) - 2 = (k : Int) := by omega
  have hki' : ((k + 1 : Nat) : Int) < 48 := by omega
  have D := H.drop hf 2 ho (k := k) hk
  have c2 := H.r_h
  have hlt := H.lt
  have hz := H.blk.frozen
  have hT := depthF H.hm
  have hL := hR.len
  rw [← hL] at hT
  have hL24 : M.rt.length ≤ 24 := by rw [hL]; exact hR.top
  have hki : (k : Int) < 48 := by omega
  have hne : 1 + k ≠ 49 := by omega
  have hf2 : ∃ f2 r2, (dropO V 2).fs = f2 :: r2 := by rw [dropO_c hf]; exact ⟨_, _, rfl⟩
  have HD : Hid (_ ∧ _ ∧ _) := ⟨D, hR, hf2⟩
  generalize opn V 0 = y at *
  generalize opn V 1 = x at *
  generalize M.rt.length = n at *
  have hD := storeIntF (D.same ((Fr.refl (fun _ => False) _).drew)).hm (hR.all.choose_spec.choose_spec.1) ((n : Int) - 1) x y
  obtain ⟨q1, q2⟩ := hR.stInt ((n : Int) - 1) x y
  rw [q1] at hD
  have Hq : Hid _ := q2
  generalize hM1 : (stIntM M ((n : Int) - 1) x y).2 = M1 at *
  generalize (stIntM M ((n : Int) - 1) x y).1 = er at *
  generalize hS1 : (stIntN S ((n : Int) - 1) x y).2 = S1 at *
  have hz0 : decide (er = 0) = false := decide_eq_false he
  have HE : Hid (did (dropO V 2) er = (dropO V 2).die (endOf er)) := by unfold did; rw [if_neg he]; exact rfl
  have HZ : Hid _ := hz0
  clear H D hf hf2 ho hk hk48 s0 s1 hR hL he hz0 q1 q2 hM1 hS1
  go_enter Tryz.func121, Tryz.ntmps121
  go_wp2_with fail
  refine hT.mono ?_
  rintro v w1 ⟨rfl, rfl⟩
  clear hT
  go_wp2_with fail
  refine wp_region_text (by kernel_rfl) (by kernel_rfl) ?_
  go_wp2_with fail
  refine hD.mono ?_
  rintro v w3 ⟨rfl, hm3, k3⟩
  clear hD
  have R3 := (HD.out.1.same ((Fr.refl (fun _ => False) _).drew)).heap k3 hm3
  have hDid := heapDidF R3 er
  rw [HZ.out, HE.out] at hDid
  have HR3 : Hid _ := k3
  clear R3 k3 hm3
  go_wp2_with fail
  refine ⟨by kernel_rfl, ?_⟩
  go_wp2_with fail
  refine hDid.mono ?_
  rintro v w4 ⟨rfl, R4, k4⟩
  clear hDid
  go_wp2_with fail
  first
    | exact bodyPost_ret (v := .tuple #[]) (by simp [results, Tryz.results121, go_sem]) rfl ⟨rfl, _, R4.y, Hq.out, ((((Fr.refl (VS A) w1).setC A.m 49 _ (fun _ => .inl rfl)).drew).trans (HR3.out.mono (fun b _ h => .inr h)) (fun _ _ h => h)).trans k4 (fun _ _ h => h)⟩
    | (go_end0; exact ⟨rfl, _, R4.y, Hq.out, ((((Fr.refl (VS A) w1).setC A.m 49 _ (fun _ => .inl rfl)).drew).trans (HR3.out.mono (fun b _ h => .inr h)) (fun _ _ h => h)).trans k4 (fun _ _ h => h)⟩)
set_option maxRecDepth 100000 in
set_option maxHeartbeats 600000 in
theorem set32_ok (H : RX w A C I V S st G nf cv iv ov) (hR : Rel S M) (hf : V.fs = f :: r) (ho : 2 ≤ f.ops.length) (he : (stIntM M ((M.rt.length : Int) - 1) (opn V 1) (opn V 0)).1 = 0) : Calls Tryz.prog 121 #[.pointer (some ⟨A.m, 0, none⟩), .int .i64 32] w (RZ w A C I (dropO V 2) (popM (stIntM M ((M.rt.length : Int) - 1) (opn V 1) (opn V 0)).2 1).2 cv iv ov) := by
  obtain ⟨k, hk, hk48, -, s0, s1⟩ := H.two hf ho
  have c0 := H.r_sp
  rw [hk] at c0
  have c1 := H.r_st (k := k) (by omega)
  rw [s0] at c1
  have c1' := H.r_st (k := k + 1) (by omega)
  rw [s1] at c1'
  have hne' : 1 + (k + 1) ≠ 49 := by omega
  have e1 : ((k + 2 : Nat) : Int) - 2 = (k : Int) := by omega
  have hki' : ((k + 1 : Nat) : Int) < 48 := by omega
  have D := H.drop hf 2 ho (k := k) hk
  have c2 := H.r_h
  have hlt := H.lt
  have hz := H.blk.frozen
  have hT := depthF H.hm
  have hL := hR.len
  rw [← hL] at hT
  have hL24 : M.rt.length ≤ 24 := by rw [hL]; exact hR.top
  have hki : (k : Int) < 48 := by omega
  have hne : 1 + k ≠ 49 := by omega
  have hf2 : ∃ f2 r2, (dropO V 2).fs = f2 :: r2 := by rw [dropO_c hf]; exact ⟨_, _, rfl⟩
  have HD : Hid (_ ∧ _ ∧ _) := ⟨D, hR, hf2⟩
  generalize opn V 0 = y at *
  generalize opn V 1 = x at *
  generalize M.rt.length = n at *
  have hD := storeIntF (D.same ((Fr.refl (fun _ => False) _).drew)).hm (hR.all.choose_spec.choose_spec.1) ((n : Int) - 1) x y
  obtain ⟨q1, q2⟩ := hR.stInt ((n : Int) - 1) x y
  rw [q1] at hD
  have Hq : Hid _ := q2
  generalize hM1 : (stIntM M ((n : Int) - 1) x y).2 = M1 at *
  generalize (stIntM M ((n : Int) - 1) x y).1 = er at *
  generalize hS1 : (stIntN S ((n : Int) - 1) x y).2 = S1 at *
  have hz0 : decide (er = 0) = true := decide_eq_true he
  have HE : Hid (did (dropO V 2) er = dropO V 2) := by unfold did; rw [if_pos he]; exact rfl
  have HZ : Hid _ := hz0
  clear H D hf hf2 ho hk hk48 s0 s1 hR hL he hz0 q1 q2 hM1 hS1
  go_enter Tryz.func121, Tryz.ntmps121
  go_wp2_with fail
  refine hT.mono ?_
  rintro v w1 ⟨rfl, rfl⟩
  clear hT
  go_wp2_with fail
  refine wp_region_text (by kernel_rfl) (by kernel_rfl) ?_
  go_wp2_with fail
  refine hD.mono ?_
  rintro v w3 ⟨rfl, hm3, k3⟩
  clear hD
  have R3 := (HD.out.1.same ((Fr.refl (fun _ => False) _).drew)).heap k3 hm3
  have hDid := heapDidF R3 er
  rw [HZ.out, HE.out] at hDid
  have HR3 : Hid _ := k3
  clear R3 k3 hm3
  go_wp2_with fail
  refine ⟨by kernel_rfl, ?_⟩
  go_wp2_with fail
  refine hDid.mono ?_
  rintro v w4 ⟨rfl, R4, k4⟩
  clear hDid
  obtain ⟨q1, q2⟩ := Hq.out.pop 1
  have hP := popF R4.hm Hq.out.top 1
  have d3 := R4.r_h
  have dlt3 := R4.lt
  have HR4 : Hid (_ ∧ _ ∧ _) := ⟨R4, k4, q2⟩
  generalize (popN S1 1).1 = pe at *
  clear R4 k4 q1 q2
  go_wp2_with fail
  refine hP.mono ?_
  rintro v w5 ⟨rfl, hm5, k5⟩
  clear hP
  go_wp2_with fail
  first
    | exact bodyPost_ret (v := .tuple #[]) (by simp [results, Tryz.results121, go_sem]) rfl ⟨rfl, _, (HR4.out.1.heap k5 hm5).y, HR4.out.2.2, (((((Fr.refl (VS A) w1).setC A.m 49 _ (fun _ => .inl rfl)).drew).trans (HR3.out.mono (fun b _ h => .inr h)) (fun _ _ h => h)).trans HR4.out.2.1 (fun _ _ h => h)).trans (k5.mono (fun b _ h => .inr h)) (fun _ _ h => h)⟩
    | (go_end0; exact ⟨rfl, _, (HR4.out.1.heap k5 hm5).y, HR4.out.2.2, (((((Fr.refl (VS A) w1).setC A.m 49 _ (fun _ => .inl rfl)).drew).trans (HR3.out.mono (fun b _ h => .inr h)) (fun _ _ h => h)).trans HR4.out.2.1 (fun _ _ h => h)).trans (k5.mono (fun b _ h => .inr h)) (fun _ _ h => h)⟩)
end
end Go.Proofs.Qxb6500277aGreat
