/- The real machine: ref locals written; new arrays. -/
import Derived.Test.Qxb6500277aGreatVR10
namespace Go.Proofs.Qxb6500277aGreat
open Go Go.RowKit

section
variable {w w' : World} {A : Va} {C : List Nat} {I : List Int} {V : Vs} {S S' : HS} {M : MS} {st st' : Nat → Int} {G : Gx} {nf : Nat} {cv iv ov : Value} {F : Nat → Prop} {f : Fm} {r : List Fm}
set_option maxRecDepth 100000 in
set_option maxHeartbeats 4000000 in
theorem localR_st (H : RX w A C I V S st G nf cv iv ov) (hR : Rel S M) (hf : V.fs = f :: r) (s : Nat) (hs : s < f.lr) (hb : f.rb ≤ 24 ∧ f.lr ≤ 24) : Calls Tryz.prog 111 #[.pointer (some ⟨A.m, 0, none⟩), .int .i64 5, .int .i64 (s : Nat)] w (RZ w A C I V (setM M (f.rb + s : Nat)).2 cv iv ov) := by
  have c1 := H.r_lr
  have c2 := H.r_rb
  have c3 := H.r_h
  have hlt := H.lt
  obtain ⟨_, h1, h3, _⟩ := H.lays hf
  rw [h1] at c1
  rw [h3] at c2
  have z : decide ((s : Int) ≥ (f.lr : Int)) = false := decide_eq_false (by omega)
  have z2 : decide (f.lr ≤ s) = false := decide_eq_false (by omega)
  have hD := setF (H.same ((Fr.refl _ _).drew)).hm hR.top (f.rb + s : Nat)
  obtain ⟨q1, q2⟩ := hR.set ((f.rb + s : Nat) : Int)
  have HH : Hid _ := And.intro (H.same ((Fr.refl (fun _ => False) w).drew)) q2
  obtain ⟨hb1, hb2⟩ := hb
  have hs24 : s ≤ 24 := by omega
  obtain ⟨er, her⟩ : ∃ er, er = (setN S ((f.rb + s : Nat) : Int)).1 := ⟨_, rfl⟩
  rw [← her] at hD
  have hD' : Calls Tryz.prog 155 #[.pointer (some ⟨A.h, 0, none⟩), .int .i64 ((f.rb : Int) + (s : Int))] w.drew fun e w' => e = .returned (.int .i64 er) ∧ HM w' A.h (setN S ((f.rb + s : Nat) : Int)).2 ∧ Fr (OnlyH A.h) w.drew w' := hD
  clear hD
  clear H h1 h3 hf hs q1 q2 her hR
  go_enter Tryz.func111, Tryz.ntmps111
  go_wp2_with fail
  refine wp_region_text (by kernel_rfl) (by kernel_rfl) ?_
  go_wp2_with fail
  refine hD'.mono ?_
  rintro v w1 ⟨rfl, hm1, k1⟩
  clear hD'
  have R1 := HH.out.1.heap k1 hm1
  have HR1 : Hid (_ ∧ _) := ⟨R1.y, k1⟩
  clear R1 k1 hm1
  go_wp2_with fail
  refine ⟨by kernel_rfl, ?_⟩
  go_wp2_with fail
  go_end0
  exact ⟨rfl, _, HR1.out.1, HH.out.2, ((Fr.refl (VS A) w).drew).trans (HR1.out.2.mono (fun b _ h => .inr h)) (fun _ _ h => h)⟩
set_option maxRecDepth 100000 in
set_option maxHeartbeats 4000000 in
theorem born28 (H : RX w A C I V S st G nf cv iv ov) (hR : Rel S M) (hf : V.fs = f :: r) (ho : 1 ≤ f.ops.length) : Calls Tryz.prog 119 #[.pointer (some ⟨A.m, 0, none⟩), .int .i64 28] w (RZ w A C I (did (dropO V 1) (allocM M 0 (opn V 0)).1) (allocM M 0 (opn V 0)).2 cv iv ov) := by
  obtain ⟨k, hk, hk48, -, s0⟩ := H.one hf ho
  have c0 := H.r_sp
  rw [hk] at c0
  have c1 := H.r_st (k := k) (by omega)
  rw [s0] at c1
  have c2 := H.r_h
  have hlt := H.lt
  have hz := H.blk.frozen
  have D := H.drop hf 1 ho (k := k) hk
  have hki : (k : Int) < 48 := by omega
  have HD : Hid (_ ∧ _) := ⟨D, hR⟩
  have FD : Fr (VS A) w (w.setCell ⟨A.m, 49, none⟩ (.int .i64 (k : Nat))) := (Fr.refl (VS A) w).setC A.m 49 _ (fun _ => .inl rfl)
  have HFD : Hid _ := FD
  have hne : 1 + k ≠ 49 := by omega
  generalize opn V 0 = x at *
  clear H D hf ho hk hk48 s0 hR FD
  go_enter Tryz.func119, Tryz.ntmps119
  go_wp2_with fail
  go_quiet (fail)
  generalize hw2 : World.drewN _ _ = w2
  have D2 : RX w2 A C I (dropO V 1) S st { G with sp := k } nf cv iv ov := by rw [← hw2]; exact HD.out.1.drewN _
  have F2 : Fr (VS A) w w2 := by rw [← hw2]; exact HFD.out.drewN _
  obtain ⟨P, os, hI, _, _⟩ := HD.out.2.all
  have hA := allocF D2.hm hI 0 x
  have d2 := D2.r_h
  have dlt := D2.lt
  have HD2 : Hid (_ ∧ _) := ⟨D2, F2⟩
  clear D2 F2 hw2 c0 c1 c2 hlt hz hI
  go_wp2_with fail
  refine hA.mono ?_
  rintro v w3 ⟨er, S', rfl, hAl, hm3, k3⟩
  clear hA
  obtain ⟨q1, q2⟩ := HD.out.2.alloc hAl
  have R3 := HD2.out.1.heap k3 hm3
  have hDid := heapDidF R3 er
  rw [q1] at hDid
  have HR3 : Hid _ := And.intro k3 q2
  clear R3 k3 hm3 hAl q2
  rw [q1]
  generalize (allocM M 0 x).1 = er2 at *
  clear q1
  go_wp2_with fail
  refine hDid.mono ?_
  rintro v w4 ⟨rfl, R4, k4⟩
  clear hDid
  go_wp2_with fail
  exact bodyPost_ret (v := .tuple #[]) (by simp [results, Tryz.results119, go_sem]) rfl ⟨rfl, _, R4.y, HR3.out.2, (HD2.out.2.trans (HR3.out.1.mono (fun b _ h => .inr h)) (fun _ _ h => h)).trans k4 (fun _ _ h => h)⟩
end
end Go.Proofs.Qxb6500277aGreat
