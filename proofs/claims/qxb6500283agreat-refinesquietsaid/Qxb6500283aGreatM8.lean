/- The model's option, walked. -/
import Derived.Test.Qxb6500283aGreatM7
namespace Go.Proofs.Qxb6500283aGreat
open Go Go.RowKit

theorem addU_any {w : World} {r bk cp : Nat} {y g : Int} {ns out : List Nd} {OB : Nat → Prop} (nd : Nd) (hM : RM w r bk cp y g ns out OB) (hlen : out.length ≤ 31) : Calls Tryz.prog 104 #[.pointer (some ⟨r, 0, none⟩), ndV nd] w fun v w' => ∃ c : Nat, Hid (c = out.length) ∧ v = .returned (.int .i64 (c : Nat)) ∧ RM w' r bk cp y g ns (out ++ [nd]) (Up OB w) ∧ Fr (InR r OB) w w' :=
  (addC_any nd hM hlen).mono fun _ _ h => ⟨_, rfl, h⟩
def OptP (ns : List Nd) (bk cp : Nat) (y g : Int) (A k : Nat) (lz : Bool) (f : Run) : Prop := ∀ (w : World) (r : Nat) (out : List Nd) (OB : Nat → Prop), RM w r bk cp y g ns out OB → out.length + (optW f lz k 0).length ≤ 31 → Calls Tryz.prog 135 #[.pointer (some ⟨r, 0, none⟩), .int .i64 (A : Nat), .int .i64 (k : Nat), .bool lz] w (RunP w r bk cp y g ns out OB (optW f lz k))
theorem optW_len1 {f : Run} (hf : Mv f) (lz : Bool) : (optW f lz 1 0).length = (f 0).length + 2 := by
  rw [optW_one hf, List.length_append, segW_len hf]
  cases lz <;> simp [segN]
theorem optW_len2 {f : Run} (hf : Mv f) (lz : Bool) {k : Nat} (hk : 1 ≤ k) : (optW f lz (k + 1) 0).length = (f 0).length + 3 + (optW f lz k 0).length := by
  rw [optW_more hf lz hk]
  simp only [List.length_append, segW_len hf, (Mv.opt hf lz k hk).len]
  cases lz <;> simp [segN] <;> omega
set_option maxRecDepth 100000 in
set_option maxHeartbeats 16000000 in
theorem optM_any {ns : List Nd} {bk cp : Nat} {y g : Int} {A : Nat} {f : Run} (hf : Mv f) (hB : RunC 105 ns bk cp y g A f) (lz : Bool) : ∀ k, k < 3 → OptP ns bk cp y g A (k + 1) lz f := by
  intro k
  induction k with
  | zero =>
    intro _ w r out OB hM hlen
    have hn1 := optW_len1 hf lz
    have hom := (Mv.opt hf lz 1 (by omega)).len
    have hfn := hf.ne
    rw [hn1] at hlen
    obtain ⟨_, _, _, _, _, _, hrl, _⟩ := hM.cells
    cases lz with
    | true =>
      have F0 := Fr.refl (InR r OB) w
      have hM0 := hM.mono (OB' := Up OB w) (fun _ h => .inl h)
      go_enter Tryz.func135, Tryz.ntmps135
      go_wp2_with fail
      rw [← ndV_emp]
      refine (addU_any (leafNd 0 noP) hM0 (by omega)).mono ?_
      rintro v w1 ⟨c1, C1, rfl, hM1', f1⟩
      have hM1 := hM1'.mono (Up.up F0)
      have F1 := InR.trans F0 f1
      go_wp2_with fail
      refine (hB _ _ _ _ hM1 (by first | omega | (simp only [List.length_append, List.length_cons, List.length_nil]; omega))).mono ?_
      rintro v w2 ⟨u, rfl, hu, hM2', f2⟩
      have hM2 := hM2'.mono (Up.up F1)
      have F2 := InR.trans F1 f2
      have Hu : Hid _ := hu
      clear hu
      go_wp2_with fail
      rw [← ndV_alt]
      refine (addU_any (altNd c1 u) hM2 (by first | (simp only [List.length_append, hf.len]; omega) | (simp only [List.length_append, List.length_cons, List.length_nil, hf.len]; omega))).mono ?_
      rintro v w3 ⟨c3, C3, rfl, hM3', f3⟩
      have hM3 := hM3'.mono (Up.up F2)
      have F3 := InR.trans F2 f3
      go_wp2_with fail
      go_ret
      have hE := opt_t1 hf out Hu.out
      rw [C1.out, hE] at hM3
      refine ⟨_, rfl, ?_, hM3, F3⟩
      rw [C3.out]
      have hl := congrArg List.length hE
      simp only [List.length_append, List.length_cons, List.length_nil, hf.len, hom] at hl ⊢
      omega
    | false =>
      have F0 := Fr.refl (InR r OB) w
      have hM0 := hM.mono (OB' := Up OB w) (fun _ h => .inl h)
      go_enter Tryz.func135, Tryz.ntmps135
      go_wp2_with fail
      refine (hB _ _ _ _ hM0 (by first | omega | (simp only [List.length_append, List.length_cons, List.length_nil]; omega))).mono ?_
      rintro v w1 ⟨u, rfl, hu, hM1', f1⟩
      have hM1 := hM1'.mono (Up.up F0)
      have F1 := InR.trans F0 f1
      have Hu : Hid _ := hu
      clear hu
      go_wp2_with fail
      rw [← ndV_emp]
      refine (addU_any (leafNd 0 noP) hM1 (by first | (simp only [List.length_append, hf.len]; omega) | (simp only [List.length_append, List.length_cons, List.length_nil, hf.len]; omega))).mono ?_
      rintro v w2 ⟨c2, C2, rfl, hM2', f2⟩
      have hM2 := hM2'.mono (Up.up F1)
      have F2 := InR.trans F1 f2
      go_wp2_with fail
      rw [← ndV_alt]
      refine (addU_any (altNd u c2) hM2 (by first | (simp only [List.length_append, hf.len]; omega) | (simp only [List.length_append, List.length_cons, List.length_nil, hf.len]; omega))).mono ?_
      rintro v w3 ⟨c3, C3, rfl, hM3', f3⟩
      have hM3 := hM3'.mono (Up.up F2)
      have F3 := InR.trans F2 f3
      go_wp2_with fail
      go_ret
      have hE := opt_f1 hf out Hu.out
      rw [C2.out, hE] at hM3
      refine ⟨_, rfl, ?_, hM3, F3⟩
      rw [C3.out]
      have hl := congrArg List.length hE
      simp only [List.length_append, List.length_cons, List.length_nil, hf.len, hom] at hl ⊢
      omega
  | succ k ih =>
    intro hk w r out OB hM hlen
    have hn2 := optW_len2 hf lz (k := k + 1) (by omega)
    have hom := (Mv.opt hf lz (k + 1 + 1) (by omega)).len
    have ho := Mv.opt hf lz (k + 1) (by omega)
    have hfn := hf.ne
    rw [hn2] at hlen
    obtain ⟨_, _, _, _, _, _, hrl, _⟩ := hM.cells
    have hkI : (k : Int) ≤ 2 := by omega
    cases lz with
    | true =>
      have F0 := Fr.refl (InR r OB) w
      have hM0 := hM.mono (OB' := Up OB w) (fun _ h => .inl h)
      go_enter Tryz.func135, Tryz.ntmps135
      go_wp2_with fail
      rw [← ndV_emp]
      refine (addU_any (leafNd 0 noP) hM0 (by omega)).mono ?_
      rintro v w1 ⟨c1, C1, rfl, hM1', f1⟩
      have hM1 := hM1'.mono (Up.up F0)
      have F1 := InR.trans F0 f1
      go_wp2_with fail
      refine (hB _ _ _ _ hM1 (by first | omega | (simp only [List.length_append, List.length_cons, List.length_nil]; omega))).mono ?_
      rintro v w2 ⟨u, rfl, hu, hM2', f2⟩
      have hM2 := hM2'.mono (Up.up F1)
      have F2 := InR.trans F1 f2
      have Hu : Hid _ := hu
      clear hu
      go_wp2_with fail
      refine (ih (by omega) _ _ _ _ hM2 (by first | (simp only [List.length_append, hf.len]; omega) | (simp only [List.length_append, List.length_cons, List.length_nil, hf.len]; omega))).mono ?_
      rintro v w3 ⟨x, rfl, hx, hM3', f3⟩
      have hM3 := hM3'.mono (Up.up F2)
      have F3 := InR.trans F2 f3
      have Hx : Hid _ := hx
      clear hx
      go_wp2_with fail
      rw [← ndV_cat]
      refine (addU_any (catNd u x) hM3 (by first | (simp only [List.length_append, hf.len, ho.len]; omega) | (simp only [List.length_append, List.length_cons, List.length_nil, hf.len, ho.len]; omega))).mono ?_
      rintro v w4 ⟨c4, C4, rfl, hM4', f4⟩
      have hM4 := hM4'.mono (Up.up F3)
      have F4 := InR.trans F3 f4
      go_wp2_with fail
      rw [← ndV_alt]
      refine (addU_any (altNd c1 c4) hM4 (by first | (simp only [List.length_append, hf.len, ho.len]; omega) | (simp only [List.length_append, List.length_cons, List.length_nil, hf.len, ho.len]; omega))).mono ?_
      rintro v w5 ⟨c5, C5, rfl, hM5', f5⟩
      have hM5 := hM5'.mono (Up.up F4)
      have F5 := InR.trans F4 f5
      go_wp2_with fail
      go_ret
      have hE := opt_tm hf (by omega) out Hu.out Hx.out
      rw [C1.out, C4.out, hE] at hM5
      refine ⟨_, rfl, ?_, hM5, F5⟩
      rw [C5.out]
      have hl := congrArg List.length hE
      simp only [List.length_append, List.length_cons, List.length_nil, hf.len, hom] at hl ⊢
      omega
    | false =>
      have F0 := Fr.refl (InR r OB) w
      have hM0 := hM.mono (OB' := Up OB w) (fun _ h => .inl h)
      go_enter Tryz.func135, Tryz.ntmps135
      go_wp2_with fail
      refine (hB _ _ _ _ hM0 (by first | omega | (simp only [List.length_append, List.length_cons, List.length_nil]; omega))).mono ?_
      rintro v w1 ⟨u, rfl, hu, hM1', f1⟩
      have hM1 := hM1'.mono (Up.up F0)
      have F1 := InR.trans F0 f1
      have Hu : Hid _ := hu
      clear hu
      go_wp2_with fail
      refine (ih (by omega) _ _ _ _ hM1 (by first | (simp only [List.length_append, hf.len]; omega) | (simp only [List.length_append, List.length_cons, List.length_nil, hf.len]; omega))).mono ?_
      rintro v w2 ⟨x, rfl, hx, hM2', f2⟩
      have hM2 := hM2'.mono (Up.up F1)
      have F2 := InR.trans F1 f2
      have Hx : Hid _ := hx
      clear hx
      go_wp2_with fail
      rw [← ndV_cat]
      refine (addU_any (catNd u x) hM2 (by first | (simp only [List.length_append, hf.len, ho.len]; omega) | (simp only [List.length_append, List.length_cons, List.length_nil, hf.len, ho.len]; omega))).mono ?_
      rintro v w3 ⟨c3, C3, rfl, hM3', f3⟩
      have hM3 := hM3'.mono (Up.up F2)
      have F3 := InR.trans F2 f3
      go_wp2_with fail
      rw [← ndV_emp]
      refine (addU_any (leafNd 0 noP) hM3 (by first | (simp only [List.length_append, hf.len, ho.len]; omega) | (simp only [List.length_append, List.length_cons, List.length_nil, hf.len, ho.len]; omega))).mono ?_
      rintro v w4 ⟨c4, C4, rfl, hM4', f4⟩
      have hM4 := hM4'.mono (Up.up F3)
      have F4 := InR.trans F3 f4
      go_wp2_with fail
      rw [← ndV_alt]
      refine (addU_any (altNd c3 c4) hM4 (by first | (simp only [List.length_append, hf.len, ho.len]; omega) | (simp only [List.length_append, List.length_cons, List.length_nil, hf.len, ho.len]; omega))).mono ?_
      rintro v w5 ⟨c5, C5, rfl, hM5', f5⟩
      have hM5 := hM5'.mono (Up.up F4)
      have F5 := InR.trans F4 f5
      go_wp2_with fail
      go_ret
      have hE := opt_fm hf (by omega) out Hu.out Hx.out
      rw [C3.out, C4.out, hE] at hM5
      refine ⟨_, rfl, ?_, hM5, F5⟩
      rw [C5.out]
      have hl := congrArg List.length hE
      simp only [List.length_append, List.length_cons, List.length_nil, hf.len, hom] at hl ⊢
      omega
end Go.Proofs.Qxb6500283aGreat
