/- The model machine: steps (written by genVM11.py). -/
import Derived.Test.Qxb6500281aGreatVM10
import Derived.Test.Qxb6500281aGreatVR5
namespace Go.Proofs.Qxb6500281aGreat
open Go Go.RowKit

section
variable {w w' w1 : World} {rn hm : Nat} {C : List Nat} {I : List Int} {V V' : Vs} {M M' : MS} {col col' : Nat → Nat} {P P' F : Nat → Prop} {cv iv ov fv : Value} {g : Nat → Value} {f : Fm} {r : List Fm} {e : Ending}
set_option maxRecDepth 100000 in
set_option maxHeartbeats 600000 in
theorem stepM_e2 (H : MR w rn hm C I V M col P cv iv ov fv g) (hp : V.pc < C.length) (hb : opArgs (byteAt C V.pc) < 0 ∨ (C.length : Int) < V.pc + 1 + opArgs (byteAt C V.pc)) : Calls Tryz.prog 47 #[.pointer (some ⟨rn, 0, none⟩)] w (MT w rn hm C I (({ V with steps := wr64 (V.steps + 1) } : Vs).die 24) M P) := by
  have c1 := H.cl' (o := 10) (by omega)
  have c2 := H.cl' (o := 6) (by omega)
  have c3 := H.cl' (o := 0) (by omega)
  have c4 := H.cl' (o := 8) (by omega)
  simp only [rC] at c1 c2 c3 c4
  have hlt := H.rlt
  have hz := H.blk.frozen
  have hcl := H.cl
  have hby := H.cb V.pc
  obtain ⟨b, c, e, hb', hc⟩ := H.code.all (by omega)
  have hbr : b ≠ rn := fun z => by
    have h1 := (H.ccv b ⟨_, _, e⟩).1
    rw [z, H.crn.1] at h1
    cases h1
  rw [e] at c3
  have p0 := hc V.pc hp
  have q1 := opArgsF (byteAt C V.pc) hby
  have hoa : -1 ≤ opArgs (byteAt C V.pc) ∧ opArgs (byteAt C V.pc) ≤ 8 := by unfold opArgs; repeat' split
                                                                            all_goals omega
  have HK : Hid _ := And.intro H ((H.s_steps (wr64 (V.steps + 1))).s_en 24)
  obtain ⟨pc, hpc⟩ : ∃ pc, pc = V.pc := ⟨_, rfl⟩
  rw [← hpc] at c2 p0 hp hb q1 hby hoa
  generalize opArgs (byteAt C pc) = n at *
  generalize byteAt C pc = op at *
  generalize V.steps = sx at *
  clear H e hpc hc
  obtain ⟨hoa1, hoa2⟩ := hoa
  have hp' : (pc : Int) < C.length := by omega
  have z : decide ((pc : Int) ≥ C.length) = false := decide_eq_false (by omega)
  by_cases gg : n < 0
  · have y1 : decide (n < 0) = true := decide_eq_true gg
    clear hb
    go_enter Tryz.func47, Tryz.ntmps47
    go_wp2_with fail
    refine (q1 _).mono ?_
    rintro v wa ⟨rfl, rfl⟩
    go_wp2_with fail
    exact bodyPost_ret (v := .tuple #[]) (by simp [results, Tryz.results47, go_sem]) rfl (MZ.t (HK.out.1.zs HK.out.2 (((Fr.refl (fun c => c = rn) w).setC rn 10 _ (fun _ => rfl)).setC rn 8 _ (fun _ => rfl))))
  · have g2 : (C.length : Int) < (pc : Int) + 1 + n := by omega
    have y1 : decide (n < 0) = false := decide_eq_false gg
    have y2 : decide ((pc : Int) + 1 + n > (C.length : Int)) = true := decide_eq_true g2
    have y3 : decide ((C.length : Int) < (pc : Int) + 1 + n) = true := decide_eq_true g2
    clear hb
    go_enter Tryz.func47, Tryz.ntmps47
    go_wp2_with fail
    refine (q1 _).mono ?_
    rintro v wa ⟨rfl, rfl⟩
    go_wp2_with fail
    exact bodyPost_ret (v := .tuple #[]) (by simp [results, Tryz.results47, go_sem]) rfl (MZ.t (HK.out.1.zs HK.out.2 (((Fr.refl (fun c => c = rn) w).setC rn 10 _ (fun _ => rfl)).setC rn 8 _ (fun _ => rfl))))
set_option maxRecDepth 100000 in
set_option maxHeartbeats 600000 in
theorem bin_no (H : MR w rn hm C I V M col P cv iv ov fv g) (hf : V.fs = f :: r) (h24 : M.rt.length ≤ 24) (hq : f.rb + f.lr ≤ M.rt.length) (h48 : r.length ≤ 48) (hno : f.ops.length < 2) (k : Int) : Calls Tryz.prog 90 #[.pointer (some ⟨rn, 0, none⟩), .int .i64 k] w fun e w' => e = .returned (.tuple #[]) ∧ MZ w rn hm C I (V.die 24) M P w' := by
  have hN := need_no H hf h24 (by omega) h48 2 0 (.inl hno)
  rw [show ((2 : Nat) : Int) = 2 from rfl, show ((0 : Nat) : Int) = 0 from rfl] at hN
  have hlt := H.rlt
  clear H hf h24 hq h48 hno
  go_enter Tryz.func90, Tryz.ntmps90
  go_wp2_with fail
  refine hN.mono ?_
  rintro v w1 ⟨rfl, h⟩
  have Hh : Hid _ := h
  clear h
  go_wp2_with fail
  exact bodyPost_ret (v := .tuple #[]) (by simp [results, Tryz.results90, go_sem]) rfl ⟨rfl, Hh.out⟩
end
end Go.Proofs.Qxb6500281aGreat
