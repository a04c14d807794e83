/- The real machine: new arrays of refs; a field read. -/
import Derived.Test.Qxb6500277aGreatVR11
namespace Go.Proofs.Qxb6500277aGreat
open Go Go.RowKit

section
variable {w w' : World} {A : Va} {C : List Nat} {I : List Int} {V : Vs} {S S' : HS} {M : MS} {st st' : Nat → Int} {G : Gx} {nf : Nat} {cv iv ov : Value} {F : Nat → Prop} {f : Fm} {r : List Fm}
set_option maxRecDepth 100000 in
set_option maxHeartbeats 4000000 in
theorem born29 (H : RX w A C I V S st G nf cv iv ov) (hR : Rel S M) (hf : V.fs = f :: r) (ho : 1 ≤ f.ops.length) : Calls Tryz.prog 119 #[.pointer (some ⟨A.m, 0, none⟩), .int .i64 29] w (RZ w A C I (did (dropO V 1) (allocM M (opn V 0) 0).1) (allocM M (opn V 0) 0).2 cv iv ov) := by
  obtain ⟨k, hk, hk48, -, s0⟩ := H.one hf ho
  have c0 := H.r_sp
  rw [hk] at c0
  have c1 := H.r_st (k := k) (by omega)
  rw [s0] at c1
  have c2 := H.r_h
  have hlt := H.lt
  have hz := H.blk.frozen
  have D := H.drop hf 1 ho (k := k) hk
  have hki : (k : Int) < 48 := by omega
  have HD : Hid (_ ∧ _) := ⟨D, hR⟩
  have FD : Fr (VS A) w (w.setCell ⟨A.m, 49, none⟩ (.int .i64 (k : Nat))) := (Fr.refl (VS A) w).setC A.m 49 _ (fun _ => .inl rfl)
  have HFD : Hid _ := FD
  have hne : 1 + k ≠ 49 := by omega
  generalize opn V 0 = x at *
  clear H D hf ho hk hk48 s0 hR FD
  go_enter Tryz.func119, Tryz.ntmps119
  go_wp2_with fail
  go_quiet (fail)
  generalize hw2 : World.drewN _ _ = w2
  have D2 : RX w2 A C I (dropO V 1) S st { G with sp := k } nf cv iv ov := by rw [← hw2]; exact HD.out.1.drewN _
  have F2 : Fr (VS A) w w2 := by rw [← hw2]; exact HFD.out.drewN _
  obtain ⟨P, os, hI, _, _⟩ := HD.out.2.all
  have hA := allocF D2.hm hI x 0
  have d2 := D2.r_h
  have dlt := D2.lt
  have HD2 : Hid (_ ∧ _) := ⟨D2, F2⟩
  clear D2 F2 hw2 c0 c1 c2 hlt hz hI
  go_wp2_with fail
  refine hA.mono ?_
  rintro v w3 ⟨er, S', rfl, hAl, hm3, k3⟩
  clear hA
  obtain ⟨q1, q2⟩ := HD.out.2.alloc hAl
  have R3 := HD2.out.1.heap k3 hm3
  have hDid := heapDidF R3 er
  rw [q1] at hDid
  have HR3 : Hid _ := And.intro k3 q2
  clear R3 k3 hm3 hAl q2
  rw [q1]
  generalize (allocM M x 0).1 = er2 at *
  clear q1
  go_wp2_with fail
  refine hDid.mono ?_
  rintro v w4 ⟨rfl, R4, k4⟩
  clear hDid
  go_wp2_with fail
  go_end0
  exact ⟨rfl, _, R4.y, HR3.out.2, (HD2.out.2.trans (HR3.out.1.mono (fun b _ h => .inr h)) (fun _ _ h => h)).trans k4 (fun _ _ h => h)⟩
set_option maxRecDepth 100000 in
set_option maxHeartbeats 4000000 in
theorem get31 (H : RX w A C I V S st G nf cv iv ov) (hR : Rel S M) (hf : V.fs = f :: r) (ho : 1 ≤ f.ops.length) : Calls Tryz.prog 120 #[.pointer (some ⟨A.m, 0, none⟩), .int .i64 31] w (RZ w A C I (did (dropO V 1) (ldRefM M ((M.rt.length : Int) - 1) (opn V 0) ((M.rt.length : Int) - 1)).1) (ldRefM M ((M.rt.length : Int) - 1) (opn V 0) ((M.rt.length : Int) - 1)).2 cv iv ov) := by
  obtain ⟨k, hk, hk48, -, s0⟩ := H.one hf ho
  have c0 := H.r_sp
  rw [hk] at c0
  have c1 := H.r_st (k := k) (by omega)
  rw [s0] at c1
  have c2 := H.r_h
  have hlt := H.lt
  have hz := H.blk.frozen
  have hT := depthF H.hm
  have hL := hR.len
  rw [← hL] at hT
  have hki : (k : Int) < 48 := by omega
  have e1 : ((k + 1 : Nat) : Int) - 1 = (k : Int) := by omega
  have hne : 1 + k ≠ 49 := by omega
  have hL24 : M.rt.length ≤ 24 := by rw [hL]; exact hR.top
  have HD : Hid _ := And.intro H (And.intro hR (And.intro hf (And.intro ho hk)))
  generalize opn V 0 = x at *
  generalize hn : M.rt.length = n at *
  have Hn : Hid _ := hn
  clear H hf ho hk hk48 s0 hR hL hn
  go_enter Tryz.func120, Tryz.ntmps120
  go_wp2_with fail
  refine hT.mono ?_
  rintro v w1 ⟨rfl, rfl⟩
  clear hT
  go_wp2_with fail
  go_quiet (fail)
  go_wp2_with fail
  generalize hw2 : World.setCell _ _ _ = w2
  obtain ⟨H, hR, hf, ho, hk⟩ := HD.out
  have D2 : RX w2 A C I (dropO V 1) S st { G with sp := k } nf cv iv ov := by rw [← hw2]; exact (H.drewN nq).drop hf 1 ho hk
  have F2 : Fr (VS A) w1 w2 := by rw [← hw2]; exact ((Fr.refl (VS A) w1).drewN nq).setC A.m 49 _ (fun _ => .inl rfl)
  obtain ⟨P, os, hI, _, _⟩ := hR.all
  have hA := loadRefF D2.hm hI ((n : Int) - 1) x ((n : Int) - 1)
  obtain ⟨q1, q2⟩ := hR.ldRef ((n : Int) - 1) x ((n : Int) - 1)
  have HD2 : Hid (_ ∧ _ ∧ _) := ⟨D2, F2, q2⟩
  rw [q1] at hA
  generalize (ldRefM M ((n : Int) - 1) x ((n : Int) - 1)).1 = er at *
  clear D2 F2 hw2 c0 c1 c2 hlt hz hI hR H hf ho hk q1 q2 hki e1 hne hL24
  refine hA.mono ?_
  rintro v w3 ⟨rfl, hm3, k3⟩
  clear hA
  have R3 := HD2.out.1.heap k3 hm3
  have hDid := heapDidF R3 er
  have HR3 : Hid _ := k3
  clear R3 k3 hm3
  go_wp2_with fail
  refine hDid.mono ?_
  rintro v w4 ⟨rfl, R4, k4⟩
  clear hDid
  go_wp2_with fail
  go_end0
  exact ⟨rfl, _, R4.y, HD2.out.2.2, (HD2.out.2.1.trans (HR3.out.mono (fun b _ h => .inr h)) (fun _ _ h => h)).trans k4 (fun _ _ h => h)⟩
end
end Go.Proofs.Qxb6500277aGreat
