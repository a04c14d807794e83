/- The model machine: a call, whole; steps that are refused. -/
import Derived.Test.Qxb6500281aGreatVM9
import Derived.Test.Qxb6500281aGreatVR4
namespace Go.Proofs.Qxb6500281aGreat
open Go Go.RowKit

/-- What is seen of a machine whose run is over; a machine that runs on is the same. -/
def SameE (V V' : Vs) : Prop := V'.en = V.en ∧ V'.rt = V.rt ∧ V'.out = V.out ∧ V'.fuel = V.fuel ∧ V'.steps = V.steps ∧ V'.most = V.most ∧ (V.en = 0 → V' = V)
theorem SameE.refl (V : Vs) : SameE V V := ⟨rfl, rfl, rfl, rfl, rfl, rfl, fun _ => rfl⟩
/-- What a step of the model leaves. -/
def MT (w : World) (rn hm : Nat) (C : List Nat) (I : List Int) (V' : Vs) (M' : MS) (P : Nat → Prop) (e : Ending) (w' : World) : Prop := e = .returned (.tuple #[]) ∧ ∃ V'', SameE V' V'' ∧ MZ w rn hm C I V'' M' P w'
section
variable {w w' w1 : World} {rn hm : Nat} {C : List Nat} {I : List Int} {V V' : Vs} {M M' : MS} {col col' : Nat → Nat} {P P' F : Nat → Prop} {cv iv ov fv : Value} {g : Nat → Value} {f : Fm} {r : List Fm} {e : Ending}
theorem MZ.t (h : MZ w rn hm C I V' M' P w') : MT w rn hm C I V' M' P (.returned (.tuple #[])) w' := ⟨rfl, V', SameE.refl _, h⟩
theorem callMF (H : MR w rn hm C I V M col P cv iv ov fv g) (a ret : Nat) (hb : V.fuel ≤ 9223372036854775807) (hd : M.rt.length ≤ 24) (hch : ∀ f r, V.fs = f :: r → f.rb + f.lr ≤ M.rt.length) (hu : usedF V.fs ≤ V.most) (hmo : V.most ≤ 48) : Calls Tryz.prog 46 #[.pointer (some ⟨rn, 0, none⟩), .int .i64 (a : Nat), .int .i64 (ret : Nat)] w fun e w' => e = .returned (.tuple #[]) ∧ MZ w rn hm C I (callV C V M a ret).1 (callV C V M a ret).2 P w' := by
  by_cases h1 : C.length < a + 5
  · have e : callV C V M a ret = (V.die 24, M) := by unfold callV; rw [if_pos (.inl h1)]
    rw [e]
    exact callM_e1 H a ret h1
  · by_cases h2 : byteAt C a = 25
    · by_cases h3 : byteAt C (a + 3) < byteAt C (a + 1) ∨ byteAt C (a + 4) < byteAt C (a + 2)
      · have e : callV C V M a ret = (V.die 24, M) := by unfold callV; rw [if_neg (by omega), if_pos h3]
        rw [e]
        exact callM_e3 H a ret (by omega) h2 h3
      · exact callM_go H a ret (by omega) h2 (by omega) (by omega) hb hd hch hu hmo
    · have e : callV C V M a ret = (V.die 24, M) := by unfold callV; rw [if_pos (.inr h2)]
      rw [e]
      exact callM_e2 H a ret (by omega) h2
set_option maxRecDepth 100000 in
set_option maxHeartbeats 600000 in
theorem stepM_e1 (H : MR w rn hm C I V M col P cv iv ov fv g) (hp : C.length ≤ V.pc) : Calls Tryz.prog 47 #[.pointer (some ⟨rn, 0, none⟩)] w (MT w rn hm C I (({ V with steps := wr64 (V.steps + 1) } : Vs).die 24) M P) := by
  have c1 := H.cl' (o := 10) (by omega)
  have c2 := H.cl' (o := 6) (by omega)
  have c3 := H.cl' (o := 0) (by omega)
  have c4 := H.cl' (o := 8) (by omega)
  simp only [rC] at c1 c2 c3 c4
  have hlt := H.rlt
  have hz := H.blk.frozen
  have hcl := H.cl
  obtain ⟨p, c, e, hc⟩ := H.code.sl
  rw [e] at c3
  have HK : Hid _ := And.intro H ((H.s_steps (wr64 (V.steps + 1))).s_en 24)
  generalize V.pc = pc at *
  generalize V.steps = sx at *
  clear H e
  go_enter Tryz.func47, Tryz.ntmps47
  go_wp2_with fail
  exact bodyPost_ret (v := .tuple #[]) (by simp [results, Tryz.results47, go_sem]) rfl (MZ.t (HK.out.1.zs HK.out.2 (((Fr.refl (fun c => c = rn) w).setC rn 10 _ (fun _ => rfl)).setC rn 8 _ (fun _ => rfl))))
end
end Go.Proofs.Qxb6500281aGreat
