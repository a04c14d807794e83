/- The real machine: a call that is refused. -/
import Derived.Test.Qxb6500277aGreatVR20
namespace Go.Proofs.Qxb6500277aGreat
open Go Go.RowKit

section
variable {w w' : World} {A : Va} {C : List Nat} {I : List Int} {V : Vs} {S S' : HS} {M : MS} {st st' : Nat → Int} {G : Gx} {nf : Nat} {cv iv ov : Value}
set_option maxRecDepth 100000 in
set_option maxHeartbeats 600000 in
theorem enter_e1 (H : RX w A C I V S st G nf cv iv ov) (a : Nat) (ret : Int) (h : C.length < a + 5) : Calls Tryz.prog 71 #[.pointer (some ⟨A.m, 0, none⟩), .int .i64 (a : Nat), .int .i64 ret] w fun e w' => e = .returned (.tuple #[]) ∧ RY w' A C I (V.die 24) S cv iv ov ∧ Fr (VS A) w w' := by
  have c1 := H.r_cv
  have c3 := H.r_en
  have hlt := H.lt
  have hz := H.blk.frozen
  have hcl := H.cl
  obtain ⟨p, c, e, hc⟩ := H.code.sl
  rw [e] at c1
  have z : decide ((a : Int) > (C.length : Int) - 5) = true := decide_eq_true (by omega)
  have z2 : decide ((C.length : Int) - 5 < (a : Int)) = true := decide_eq_true (by omega)
  have HK : Hid (RX w A C I V S st G nf cv iv ov) := H
  clear H e
  go_enter Tryz.func71, Tryz.ntmps71
  go_wp2_with fail
  exact bodyPost_ret (v := .tuple #[]) (by simp [results, Tryz.results71, go_sem]) rfl ⟨rfl, (HK.out.s_en 24).y, (Fr.refl (VS A) w).setC A.m 61 _ (fun _ => .inl rfl)⟩
set_option maxRecDepth 100000 in
set_option maxHeartbeats 600000 in
theorem enter_e2 (H : RX w A C I V S st G nf cv iv ov) (a : Nat) (ret : Int) (h : a + 5 ≤ C.length) (h2 : byteAt C a ≠ 25) : Calls Tryz.prog 71 #[.pointer (some ⟨A.m, 0, none⟩), .int .i64 (a : Nat), .int .i64 ret] w fun e w' => e = .returned (.tuple #[]) ∧ RY w' A C I (V.die 24) S cv iv ov ∧ Fr (VS A) w w' := by
  have c1 := H.r_cv
  have c3 := H.r_en
  have hlt := H.lt
  have hz := H.blk.frozen
  have hcl := H.cl
  have hcb := H.cb a
  obtain ⟨b, c, e, hb, hc⟩ := H.code.get (i := a) (by omega)
  rw [e] at c1
  have z : decide ((a : Int) > (C.length : Int) - 5) = false := decide_eq_false (by omega)
  have z2 : decide ((C.length : Int) - 5 < (a : Int)) = false := decide_eq_false (by omega)
  have hai : (a : Int) < (C.length : Int) := by omega
  have HK : Hid (RX w A C I V S st G nf cv iv ov) := H
  generalize byteAt C a = by0 at *
  have y : ¬ ((by0 : Int) = 25) := by omega
  have y1 : decide ((by0 : Int) = 25) = false := decide_eq_false y
  have y2 : ((by0 : Int) != 25) = true := by simpa using y
  clear H e h2 y
  go_enter Tryz.func71, Tryz.ntmps71
  go_wp2_with fail
  exact bodyPost_ret (v := .tuple #[]) (by simp [results, Tryz.results71, go_sem]) rfl ⟨rfl, (HK.out.s_en 24).y, (Fr.refl (VS A) w).setC A.m 61 _ (fun _ => .inl rfl)⟩
end
end Go.Proofs.Qxb6500277aGreat
