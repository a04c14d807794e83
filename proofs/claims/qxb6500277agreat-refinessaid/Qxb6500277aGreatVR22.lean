/- The real machine: a call whose head is not fit. -/
import Derived.Test.Qxb6500277aGreatVR21
namespace Go.Proofs.Qxb6500277aGreat
open Go Go.RowKit

section
variable {w w' : World} {A : Va} {C : List Nat} {I : List Int} {V : Vs} {S S' : HS} {M : MS} {st st' : Nat → Int} {G : Gx} {nf : Nat} {cv iv ov : Value}
set_option maxRecDepth 100000 in
set_option maxHeartbeats 600000 in
theorem enter_e3 (H : RX w A C I V S st G nf cv iv ov) (a : Nat) (ret : Int) (h : a + 5 ≤ C.length) (h2 : byteAt C a = 25) (h3 : byteAt C (a + 3) < byteAt C (a + 1) ∨ byteAt C (a + 4) < byteAt C (a + 2)) : Calls Tryz.prog 71 #[.pointer (some ⟨A.m, 0, none⟩), .int .i64 (a : Nat), .int .i64 ret] w fun e w' => e = .returned (.tuple #[]) ∧ RY w' A C I (V.die 24) S cv iv ov ∧ Fr (VS A) w w' := by
  have c1 := H.r_cv
  have c3 := H.r_en
  have hlt := H.lt
  have hz := H.blk.frozen
  have hcl := H.cl
  have b1 := H.cb (a + 1)
  have b2 := H.cb (a + 2)
  have b3 := H.cb (a + 3)
  have b4 := H.cb (a + 4)
  obtain ⟨b, c, e, hb, hc⟩ := H.code.all (by omega)
  rw [e] at c1
  have p0 := hc a (by omega)
  rw [h2] at p0
  have p1 := hc (a + 1) (by omega)
  have p2 := hc (a + 2) (by omega)
  have p3 := hc (a + 3) (by omega)
  have p4 := hc (a + 4) (by omega)
  have z : decide ((a : Int) > (C.length : Int) - 5) = false := decide_eq_false (by omega)
  have z2 : decide ((C.length : Int) - 5 < (a : Int)) = false := decide_eq_false (by omega)
  have hai : (a : Int) + 4 < (C.length : Int) := by omega
  have HK : Hid (RX w A C I V S st G nf cv iv ov) := H
  generalize byteAt C (a + 1) = x1 at *
  generalize byteAt C (a + 2) = x2 at *
  generalize byteAt C (a + 3) = x3 at *
  generalize byteAt C (a + 4) = x4 at *
  have K3 : Hid _ := h3
  clear H e h2 hc h3
  go_enter Tryz.func71, Tryz.ntmps71
  go_wp2_with fail
  go_quiet (fail)
  rcases Nat.lt_or_ge x3 x1 with g | g
  · have y1 : decide ((x3 : Int) < (x1 : Int)) = true := decide_eq_true (by omega)
    have y2 : decide (x3 < x1) = true := decide_eq_true g
    go_wp2_with fail
    exact bodyPost_ret (v := .tuple #[]) (by simp [results, Tryz.results71, go_sem]) rfl ⟨rfl, ((HK.out.drewN _).s_en 24).y, ((Fr.refl (VS A) w).drewN _).setC A.m 61 _ (fun _ => .inl rfl)⟩
  · have g2 : x4 < x2 := by have := K3.out; omega
    have y1 : decide ((x3 : Int) < (x1 : Int)) = false := decide_eq_false (by omega)
    have y2 : decide (x3 < x1) = false := decide_eq_false (by omega)
    have y3 : decide ((x4 : Int) < (x2 : Int)) = true := decide_eq_true (by omega)
    have y4 : decide (x4 < x2) = true := decide_eq_true g2
    go_wp2_with fail
    exact bodyPost_ret (v := .tuple #[]) (by simp [results, Tryz.results71, go_sem]) rfl ⟨rfl, ((HK.out.drewN _).s_en 24).y, ((Fr.refl (VS A) w).drewN _).setC A.m 61 _ (fun _ => .inl rfl)⟩
end
end Go.Proofs.Qxb6500277aGreat
