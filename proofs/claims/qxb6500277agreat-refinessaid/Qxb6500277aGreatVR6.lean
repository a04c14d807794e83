/- The machine's small functions: division; the real machine: heapDid, jump. -/
import Derived.Test.Qxb6500277aGreatVR5
namespace Go.Proofs.Qxb6500277aGreat
open Go Go.RowKit

set_option maxRecDepth 100000 in
set_option maxHeartbeats 2000000 in
theorem quoF (a b : Int) (hb : b ≠ 0) (w : World) : Calls Tryz.prog 157 #[.int .i64 a, .int .i64 b] w fun e w' => e = .returned (.int .i64 (quoI a b)) ∧ w' = w := by
  by_cases h1 : b = -1
  · subst h1
    go_enter Tryz.func157, Tryz.ntmps157
    go_wp2_with fail
    go_ret
    exact ⟨rfl, rfl⟩
  · have z0 : (b == 0) = false := by simpa using hb
    have z1 : (b == -1) = false := by simpa using h1
    have e : quoI a b = wr64 (Int.tdiv a b) := by unfold quoI; rw [if_neg hb, if_neg h1]
    go_enter Tryz.func157, Tryz.ntmps157
    go_wp2_with fail
    go_ret
    exact ⟨by rw [e]; rfl, rfl⟩
set_option maxRecDepth 100000 in
set_option maxHeartbeats 2000000 in
theorem remF (a b : Int) (hb : b ≠ 0) (w : World) : Calls Tryz.prog 158 #[.int .i64 a, .int .i64 b] w fun e w' => e = .returned (.int .i64 (remI a b)) ∧ w' = w := by
  by_cases h1 : b = -1
  · subst h1
    go_enter Tryz.func158, Tryz.ntmps158
    go_wp2_with fail
    go_ret
    exact ⟨rfl, rfl⟩
  · have z0 : (b == 0) = false := by simpa using hb
    have z1 : (b == -1) = false := by simpa using h1
    have e : remI a b = Int.tmod a b := by unfold remI; rw [if_neg (by simp [hb, h1])]
    go_enter Tryz.func158, Tryz.ntmps158
    go_wp2_with fail
    go_ret
    exact ⟨by rw [e]; rfl, rfl⟩
section
variable {w w' : World} {A : Va} {C : List Nat} {I : List Int} {V : Vs} {S S' : HS} {st st' : Nat → Int} {G : Gx} {nf : Nat} {cv iv ov : Value} {F : Nat → Prop} {f : Fm} {r : List Fm}
set_option maxRecDepth 100000 in
set_option maxHeartbeats 2000000 in
theorem heapDidF (H : RX w A C I V S st G nf cv iv ov) (x : Int) : Calls Tryz.prog 112 #[.pointer (some ⟨A.m, 0, none⟩), .int .i64 x] w fun e w' => e = .returned (.bool (decide (x = 0))) ∧ RX w' A C I (did V x) S st G nf cv iv ov ∧ Fr (VS A) w w' := by
  have c2 := H.r_en
  have hlt := H.lt
  have hz := H.blk.frozen
  unfold did
  by_cases h : x = 0
  · subst h
    rw [if_pos rfl]
    have HH : Hid _ := H
    clear H
    go_enter Tryz.func112, Tryz.ntmps112
    go_wp2_with fail
    go_ret
    exact ⟨rfl, HH.out, Fr.refl _ _⟩
  · rw [if_neg h]
    have z : (x == 0) = false := by simpa using h
    have z1 : (x != 0) = true := by simpa using h
    have K := H.s_en (endOf x)
    have HK : Hid (_ ∧ _) := ⟨K, (Fr.refl (VS A) w).setC A.m 61 (.int .i64 (endOf x)) (fun _ => .inl rfl)⟩
    have hE := endOfF x w
    have HD : Hid (decide (x = 0) = false) := decide_eq_false h
    clear H K h
    go_enter Tryz.func112, Tryz.ntmps112
    go_wp2_with fail
    refine hE.mono ?_
    rintro e w1 ⟨rfl, rfl⟩
    clear hE
    go_wp2_with fail
    go_ret
    exact ⟨by rw [HD.out]; rfl, HK.out.1, HK.out.2⟩
set_option maxRecDepth 100000 in
set_option maxHeartbeats 2000000 in
theorem vjumpF (H : RX w A C I V S st G nf cv iv ov) (hb : V.fuel ≤ 9223372036854775807) (at' a : Nat) : Calls Tryz.prog 116 #[.pointer (some ⟨A.m, 0, none⟩), .int .i64 (at' : Nat), .int .i64 (a : Nat)] w fun e w' => e = .returned (.tuple #[]) ∧ RY w' A C I (jumpV C V at' a) S cv iv ov ∧ Fr (VS A) w w' := by
  have c1 := H.r_cv
  obtain ⟨ca, cc, ecv, _⟩ := H.code.sl
  rw [ecv] at c1
  have Hcv : Hid _ := ecv
  clear ecv
  have c2 := H.r_en
  have c3 := H.r_pc
  have hlt := H.lt
  have hz := H.blk.frozen
  have hC := H.cl
  by_cases h : C.length ≤ a
  · have HJ : Hid (jumpV C V at' a = V.die 24) := by show _ = _; unfold jumpV; rw [if_pos h]
    have z : decide ((a : Int) ≥ (C.length : Int)) = true := decide_eq_true (by omega)
    have K := (H.s_en 24).y
    have HK : Hid (_ ∧ _) := ⟨K, (Fr.refl (VS A) w).setC A.m 61 (.int .i64 24) (fun _ => .inl rfl)⟩
    clear H K
    go_enter Tryz.func116, Tryz.ntmps116
    go_wp2_with fail
    exact bodyPost_ret (v := .tuple #[]) (by simp [results, Tryz.results116, go_sem]) rfl ⟨rfl, by rw [HJ.out]; exact HK.out.1, HK.out.2⟩
  · have z : decide ((a : Int) ≥ (C.length : Int)) = false := decide_eq_false (by omega)
    by_cases h2 : a ≤ at'
    · have z2 : decide ((a : Int) ≤ (at' : Int)) = true := decide_eq_true (by omega)
      have hS := spendF H hb
      clear H
      go_enter Tryz.func116, Tryz.ntmps116
      go_wp2_with fail
      refine hS.mono ?_
      rintro e w1 ⟨k1, h1⟩
      clear hS
      by_cases h3 : V.fuel ≤ 0
      · rw [if_pos h3] at h1
        have HJ : Hid (jumpV C V at' a = V.die 22) := by show _ = _; unfold jumpV; rw [if_neg h, if_pos h2, if_pos h3]
        obtain ⟨rfl, R1⟩ := h1
        have HR : Hid (_ ∧ _) := ⟨R1, k1⟩
        clear R1 k1 h3
        go_wp2_with fail
        exact bodyPost_ret (v := .tuple #[]) (by simp [results, Tryz.results116, go_sem]) rfl ⟨rfl, by rw [HJ.out]; exact HR.out.1, HR.out.2⟩
      · rw [if_neg h3] at h1
        have HJ : Hid (jumpV C V at' a = { V with fuel := V.fuel - 1, pc := a }) := by show _ = _; unfold jumpV; rw [if_neg h, if_pos h2, if_neg h3]
        obtain ⟨rfl, st1, G1, nf1, R1⟩ := h1
        have d3 := R1.r_pc
        have dlt := R1.lt
        have dz := R1.blk.frozen
        have K := (R1.s_pc a).y
        have HK : Hid (_ ∧ _) := ⟨K, k1.setC A.m 55 (.int .i64 (a : Nat)) (fun _ => .inl rfl)⟩
        clear R1 K k1 h3
        go_wp2_with fail
        go_end0
        exact ⟨rfl, by rw [HJ.out]; exact HK.out.1, HK.out.2⟩
    · have HJ : Hid (jumpV C V at' a = { V with pc := a }) := by show _ = _; unfold jumpV; rw [if_neg h, if_neg h2]
      have z2 : decide ((a : Int) ≤ (at' : Int)) = false := decide_eq_false (by omega)
      have K := (H.s_pc a).y
      have HK : Hid (_ ∧ _) := ⟨K, (Fr.refl (VS A) w).setC A.m 55 (.int .i64 (a : Nat)) (fun _ => .inl rfl)⟩
      clear H K
      go_enter Tryz.func116, Tryz.ntmps116
      go_wp2_with fail
      go_end0
      exact ⟨rfl, by rw [HJ.out]; exact HK.out.1, HK.out.2⟩
end
end Go.Proofs.Qxb6500277aGreat
