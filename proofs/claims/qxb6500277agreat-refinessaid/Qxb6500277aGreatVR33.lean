/- The real machine: a step, whole (written by gen33.py). -/
import Derived.Test.Qxb6500277aGreatVR27
import Derived.Test.Qxb6500277aGreatVR28
import Derived.Test.Qxb6500277aGreatVR29
import Derived.Test.Qxb6500277aGreatVR30
import Derived.Test.Qxb6500277aGreatVR31
import Derived.Test.Qxb6500277aGreatVR32
namespace Go.Proofs.Qxb6500277aGreat
open Go Go.RowKit

section
variable {w w' w0 : World} {A : Va} {C : List Nat} {I : List Int} {V V' : Vs} {S S' : HS} {M M' : MS} {st st' : Nat → Int} {G : Gx} {nf : Nat} {cv iv ov : Value} {f : Fm} {r : List Fm} {e : Ending}
set_option maxRecDepth 100000 in
theorem exec_any (H : RX w A C I V S st G nf cv iv ov) (hR : Rel S M) (hf : V.fs = f :: r) (hd : M.rt.length ≤ 24) (hq : f.rb + f.lr ≤ 24) (hfu : V.fuel ≤ 9223372036854775807) (hmo : V.most ≤ 48) (hou : V.out.length ≤ 1024) (op : Nat) (e : byteAt C V.pc = op) (h37 : op < 37) (hpc : V.pc + 1 + (opArgs op).toNat ≤ C.length) (hwi : wantI op ≤ f.ops.length) (hwr : (wantR op : Int) ≤ (M.rt.length : Int) - f.rb - f.lr) : Calls Tryz.prog 72 #[.pointer (some ⟨A.m, 0, none⟩)] w (RS w A C I (execV C I op V.pc { V with steps := wr64 (V.steps + 1), pc := V.pc + 1 + (opArgs op).toNat } M).1 (execV C I op V.pc { V with steps := wr64 (V.steps + 1), pc := V.pc + 1 + (opArgs op).toNat } M).2 cv iv ov) := by
  rcases lt37 h37 with rfl | rfl | rfl | rfl | rfl | rfl | rfl | rfl | rfl | rfl | rfl | rfl | rfl | rfl | rfl | rfl | rfl | rfl | rfl | rfl | rfl | rfl | rfl | rfl | rfl | rfl | rfl | rfl | rfl | rfl | rfl | rfl | rfl | rfl | rfl | rfl | rfl
  · exact step0 H hR hf hd hq e hpc hwi hwr
  · exact step1 H hR hf hd hq e hpc hwi hwr
  · by_cases hx : (byteAt C (V.pc + 1)) < f.loc.length
    · exact step2 H hR hf hd hq e hpc hwi hwr hx
    · exact step2n H hR hf hd hq e hpc hwi hwr (by omega)
  · by_cases hx : (byteAt C (V.pc + 1)) < f.loc.length
    · exact step3 H hR hf hd hq e hpc hwi hwr hx
    · exact step3n H hR hf hd hq e hpc hwi hwr (by omega)
  · by_cases hx : (byteAt C (V.pc + 1)) < f.lr
    · exact step4 H hR hf hd hq e hpc hwi hwr ⟨by omega, by omega⟩ hx
    · exact step4n H hR hf hd hq e hpc hwi hwr (by omega)
  · by_cases hx : (byteAt C (V.pc + 1)) < f.lr
    · exact step5 H hR hf hd hq e hpc hwi hwr ⟨by omega, by omega⟩ hx
    · exact step5n H hR hf hd hq e hpc hwi hwr (by omega)
  · exact step6 H hR hf hd hq e hpc hwi hwr
  · exact step7 H hR hf hd hq e hpc hwi hwr
  · exact step8 H hR hf hd hq e hpc hwi hwr
  · exact step9 H hR hf hd hq e hpc hwi hwr
  · exact step10 H hR hf hd hq e hpc hwi hwr
  · by_cases hx : opn V 0 = 0
    · exact step11z H hR hf hd hq e hpc hwi hwr hx
    · exact step11 H hR hf hd hq e hpc hwi hwr hx
  · by_cases hx : opn V 0 = 0
    · exact step12z H hR hf hd hq e hpc hwi hwr hx
    · exact step12 H hR hf hd hq e hpc hwi hwr hx
  · exact step13 H hR hf hd hq e hpc hwi hwr
  · exact step14 H hR hf hd hq e hpc hwi hwr
  · exact step15 H hR hf hd hq e hpc hwi hwr
  · exact step16 H hR hf hd hq e hpc hwi hwr
  · exact step17 H hR hf hd hq e hpc hwi hwr
  · exact step18 H hR hf hd hq e hpc hwi hwr
  · exact step19 H hR hf hd hq e hpc hwi hwr
  · exact step20 H hR hf hd hq e hpc hwi hwr
  · exact step21 H hR hf hd hq e hpc hwi hwr hfu
  · by_cases hx : opn V 0 = 0
    · exact step22 H hR hf hd hq e hpc hwi hwr hx hfu
    · exact step22n H hR hf hd hq e hpc hwi hwr hx hfu
  · by_cases hx : opn V 0 = 0
    · exact step23n H hR hf hd hq e hpc hwi hwr hx hfu
    · exact step23 H hR hf hd hq e hpc hwi hwr hx hfu
  · exact step24 H hR hf hd hq e hpc hwi hwr hfu hd hq hmo
  · exact step25 H hR hf hd hq e hpc hwi hwr
  · by_cases hx : r = []
    · exact step26e H hR hf hd hq e hpc hwi hwr (by omega) hx
    · exact step26 H hR hf hd hq e hpc hwi hwr (by omega) hx
  · by_cases hx : r = []
    · exact step27n H hR hf hd hq e hpc hwi hwr hx
    · exact step27 H hR hf hd hq e hpc hwi hwr (by omega) hx
  · exact step28 H hR hf hd hq e hpc hwi hwr
  · exact step29 H hR hf hd hq e hpc hwi hwr
  · by_cases hx : (ldIntM M ((M.rt.length : Int) - 1) (opn V 0)).2 = 0
    · exact step30 H hR hf hd hq e hpc hwi hwr hx
    · exact step30n H hR hf hd hq e hpc hwi hwr hx
  · exact step31 H hR hf hd hq e hpc hwi hwr
  · by_cases hx : (stIntM M ((M.rt.length : Int) - 1) (opn V 1) (opn V 0)).1 = 0
    · exact step32 H hR hf hd hq e hpc hwi hwr hx
    · exact step32n H hR hf hd hq e hpc hwi hwr hx
  · by_cases hx : (stRefM M ((M.rt.length : Int) - 2) (opn V 0) ((M.rt.length : Int) - 1)).1 = 0
    · exact step33 H hR hf hd hq e hpc hwi hwr hx
    · exact step33n H hR hf hd hq e hpc hwi hwr hx
  · by_cases hx : (lenM M ((M.rt.length : Int) - 1)).2.2 = 0
    · exact step34 H hR hf hd hq e hpc hwi hwr hx
    · exact step34n H hR hf hd hq e hpc hwi hwr hx
  · by_cases hx : 1024 ≤ V.out.length
    · exact step35n H hR hf hd hq e hpc hwi hwr hou hx
    · exact step35 H hR hf hd hq e hpc hwi hwr hou (by omega)
  · by_cases hx : I.length ≤ V.ip
    · exact step36n H hR hf hd hq e hpc hwi hwr hx
    · exact step36 H hR hf hd hq e hpc hwi hwr (by omega)
theorem stepF (H : RX w A C I V S st G nf cv iv ov) (hR : Rel S M) (hp : POk C I V M) (hne : V.fs ≠ []) (hfu : V.fuel ≤ 9223372036854775807) : Calls Tryz.prog 72 #[.pointer (some ⟨A.m, 0, none⟩)] w (RS w A C I (stepV C I V M).1 (stepV C I V M).2 cv iv ov) := by
  obtain ⟨f, r, hf⟩ : ∃ f r, V.fs = f :: r := by
    cases hh : V.fs with
    | nil => exact absurd hh hne
    | cons f r => exact ⟨f, r, rfl⟩
  have hq : f.rb + f.lr ≤ 24 := by
    have := hp.ch
    rw [hf] at this
    have h1 := this.1
    have := hp.d24
    omega
  unfold stepV
  by_cases h1 : C.length ≤ V.pc
  · rw [if_pos h1]
    exact step_e1 H hR h1
  rw [if_neg h1]
  by_cases h2 : opArgs (byteAt C V.pc) < 0 ∨ (C.length : Int) < V.pc + 1 + opArgs (byteAt C V.pc)
  · rw [if_pos h2]
    exact step_e2 H hR (by omega) h2
  rw [if_neg h2]
  have t1 : topO V = f.ops := by unfold topO; rw [hf]
  have t2 : ropsV V M = (M.rt.length : Int) - f.rb - f.lr := by unfold ropsV; rw [hf]
  rw [t1, t2]
  by_cases h3 : f.ops.length < wantI (byteAt C V.pc) ∨ (M.rt.length : Int) - f.rb - f.lr < wantR (byteAt C V.pc)
  · rw [if_pos h3]
    exact step_e3 H hR hf hp.d24 hq (by omega) (by omega) (by omega) h3
  rw [if_neg h3]
  have h37 : byteAt C V.pc < 37 := by
    have hb1 : 0 ≤ opArgs (byteAt C V.pc) := by omega
    unfold opArgs at hb1
    by_cases h : byteAt C V.pc < 37
    · exact h
    · rw [if_neg (by omega), if_neg (by omega), if_neg (by omega), if_neg (by omega), if_neg h] at hb1
      omega
  exact exec_any H hR hf hp.d24 hq hfu (hp.ms) hp.ou _ rfl h37 (by omega) (by omega) (by omega)
end
end Go.Proofs.Qxb6500277aGreat
