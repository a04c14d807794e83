/- The real machine: the input is read. -/
import Derived.Test.Qxb6500277aGreatVR15
namespace Go.Proofs.Qxb6500277aGreat
open Go Go.RowKit

section
variable {w w' : World} {A : Va} {C : List Nat} {I : List Int} {V : Vs} {S S' : HS} {M : MS} {st st' : Nat → Int} {G : Gx} {nf : Nat} {cv iv ov : Value} {F : Nat → Prop} {f : Fm} {r : List Fm} {os : List Int}
theorem pushV_ip (V : Vs) (x : Int) : (pushV V x).ip = V.ip := by
  unfold pushV setO Vs.die
  cases V.fs <;> simp only <;> split <;> rfl
set_option maxRecDepth 100000 in
set_option maxHeartbeats 600000 in
theorem read_no (H : RX w A C I V S st G nf cv iv ov) (hi : I.length ≤ V.ip) : Calls Tryz.prog 123 #[.pointer (some ⟨A.m, 0, none⟩)] w fun e w' => e = .returned (.tuple #[]) ∧ RY w' A C I (V.die 30) S cv iv ov ∧ Fr (VS A) w w' := by
  have c1 := H.r_ip
  have c2 := H.r_iv
  have c3 := H.r_en
  have hlt := H.lt
  have hz := H.blk.frozen
  obtain ⟨a, c, e, hc⟩ := H.inp.sl
  rw [e] at c2
  have z : decide ((V.ip : Int) ≥ (I.length : Int)) = true := decide_eq_true (by omega)
  have z2 : decide (I.length ≤ V.ip) = true := decide_eq_true hi
  have HK : Hid (RX w A C I V S st G nf cv iv ov) := H
  clear H e
  go_enter Tryz.func123, Tryz.ntmps123
  go_wp2_with fail
  go_quiet (fail)
  go_wp2_with fail
  exact bodyPost_ret (v := .tuple #[]) (by simp [results, Tryz.results123, go_sem]) rfl ⟨rfl, ((HK.out.drewN _).s_en 30).y, ((Fr.refl (VS A) w).drewN _).setC A.m 61 _ (fun _ => .inl rfl)⟩
set_option maxRecDepth 100000 in
set_option maxHeartbeats 600000 in
theorem read_ok (H : RX w A C I V S st G nf cv iv ov) (hf : V.fs = f :: r) (hi : V.ip < I.length) : Calls Tryz.prog 123 #[.pointer (some ⟨A.m, 0, none⟩)] w fun e w' => e = .returned (.tuple #[]) ∧ RY w' A C I { pushV V (I.getD V.ip 0) with ip := V.ip + 1 } S cv iv ov ∧ Fr (VS A) w w' := by
  have c1 := H.r_ip
  have c2 := H.r_iv
  have hlt := H.lt
  obtain ⟨b, c, e, hb, hcl, hfz⟩ := H.inp.get hi
  rw [e] at c2
  have hil := H.il
  have z : decide ((V.ip : Int) ≥ (I.length : Int)) = false := decide_eq_false (by omega)
  have z2 : decide (I.length ≤ V.ip) = false := decide_eq_false (by omega)
  have ex : I[V.ip] = I.getD V.ip 0 := by simp [hi]
  rw [ex] at hcl
  have hip := pushV_ip V (I.getD V.ip 0)
  generalize I.getD V.ip 0 = x at *
  have HK : Hid (RX w A C I V S st G nf cv iv ov ∧ V.fs = f :: r) := ⟨H, hf⟩
  have HJ : Hid (∃ V', V' = pushV V x) := ⟨_, rfl⟩
  obtain ⟨V', hV'⟩ := HJ.out
  rw [← hV'] at hip ⊢
  have HV : Hid (_ ∧ _) := ⟨hV', hip⟩
  have hii : (V.ip : Int) < (I.length : Int) := by omega
  generalize V.ip = ip at *
  clear H e ex hf hip hV' HJ
  go_enter Tryz.func123, Tryz.ntmps123
  go_wp2_with fail
  go_quiet (fail)
  go_wp2_with fail
  refine wp_region_text (by kernel_rfl) (by kernel_rfl) ?_
  generalize hw2 : World.drewN w _ = w2
  have D2 : RX w2 A C I V S st G nf cv iv ov := by rw [← hw2]; exact HK.out.1.drewN _
  have F2 : Fr (VS A) w w2 := by rw [← hw2]; exact (Fr.refl (VS A) w).drewN _
  have hcl2 : w2.cell? ⟨b, ip, none⟩ = some (.int .i64 x) := by rw [← hw2]; simpa using hcl
  have hfz2 : b < w2.heap.size := by rw [← hw2]; simpa using hb
  have c1' : w2.cell? ⟨A.m, 58, none⟩ = some (.int .i64 ip) := by rw [← hw2]; simpa using c1
  have c2' : w2.cell? ⟨A.m, 57, none⟩ = some (.slice (some ⟨b, 0, none⟩) I.length c) := by rw [← hw2]; simpa using c2
  have hlt' := D2.lt
  have hPu := vpushF (D2.same ((Fr.refl (fun _ => False) _).drew)) HK.out.2 x
  rw [← HV.out.1] at hPu
  have HF2 : Hid _ := F2
  clear D2 F2 hw2 c1 c2 hlt hb hcl hfz
  go_wp2_with fail
  refine hPu.mono ?_
  rintro v w3 ⟨rfl, Y3, k3⟩
  clear hPu
  obtain ⟨st3, G3, nf3, R3⟩ := Y3
  have d1 := R3.r_ip
  rw [HV.out.2] at d1
  have dlt := R3.lt
  have dz := R3.blk.frozen
  have R4 := (R3.s_ip (ip + 1)).y
  have HR4 : Hid (_ ∧ _) := ⟨R4, k3⟩
  clear R3 R4 k3
  go_wp2_with fail
  refine ⟨by kernel_rfl, ?_⟩
  go_wp2_with fail
  go_end0
  exact ⟨rfl, HR4.out.1, ((HF2.out.drew).trans HR4.out.2 (fun _ _ h => h)).setC A.m 58 _ (fun _ => .inl rfl)⟩
end
end Go.Proofs.Qxb6500277aGreat
