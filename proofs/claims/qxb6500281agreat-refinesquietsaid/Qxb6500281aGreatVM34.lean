/- The model machine: a step, whole (written by genVM34.py). -/
import Derived.Test.Qxb6500281aGreatVM11
import Derived.Test.Qxb6500281aGreatVM12
import Derived.Test.Qxb6500281aGreatVM13
import Derived.Test.Qxb6500281aGreatVM14
import Derived.Test.Qxb6500281aGreatVM15
import Derived.Test.Qxb6500281aGreatVM16
import Derived.Test.Qxb6500281aGreatVM17
import Derived.Test.Qxb6500281aGreatVM18
import Derived.Test.Qxb6500281aGreatVM19
import Derived.Test.Qxb6500281aGreatVM20
import Derived.Test.Qxb6500281aGreatVM21
import Derived.Test.Qxb6500281aGreatVM22
import Derived.Test.Qxb6500281aGreatVM23
import Derived.Test.Qxb6500281aGreatVM24
import Derived.Test.Qxb6500281aGreatVM25
import Derived.Test.Qxb6500281aGreatVM26
import Derived.Test.Qxb6500281aGreatVM27
import Derived.Test.Qxb6500281aGreatVM28
import Derived.Test.Qxb6500281aGreatVM30
import Derived.Test.Qxb6500281aGreatVM31
import Derived.Test.Qxb6500281aGreatVM32
import Derived.Test.Qxb6500281aGreatVM33
import Derived.Test.Qxb6500281aGreatVM37
namespace Go.Proofs.Qxb6500281aGreat
open Go Go.RowKit

section
variable {w w' w1 : World} {rn hm : Nat} {C : List Nat} {I : List Int} {V V' : Vs} {M M' : MS} {col col' : Nat → Nat} {P P' F : Nat → Prop} {cv iv ov fv : Value} {g : Nat → Value} {f : Fm} {r : List Fm} {e : Ending}
set_option maxRecDepth 100000 in
theorem execM_any (H : MR w rn hm C I V M col P cv iv ov fv g) (hok : POk C I V M) (hf : V.fs = f :: r) (hfu : V.fuel ≤ 9223372036854775807) (op : Nat) (e : byteAt C V.pc = op) (h37 : op < 37) (hpc : V.pc + 1 + (opArgs op).toNat ≤ C.length) (hwi : wantI op ≤ f.ops.length) (hwr : (wantR op : Int) ≤ (M.rt.length : Int) - f.rb - f.lr) : Calls Tryz.prog 47 #[.pointer (some ⟨rn, 0, none⟩)] w (MT w rn hm C I (execV C I op V.pc { V with steps := wr64 (V.steps + 1), pc := V.pc + 1 + (opArgs op).toNat } M).1 (execV C I op V.pc { V with steps := wr64 (V.steps + 1), pc := V.pc + 1 + (opArgs op).toNat } M).2 P) := by
  rcases lt37 h37 with rfl | rfl | rfl | rfl | rfl | rfl | rfl | rfl | rfl | rfl | rfl | rfl | rfl | rfl | rfl | rfl | rfl | rfl | rfl | rfl | rfl | rfl | rfl | rfl | rfl | rfl | rfl | rfl | rfl | rfl | rfl | rfl | rfl | rfl | rfl | rfl | rfl
  · exact stepM0 H hok hf e hpc hwi hwr
  · exact stepM1 H hok hf e hpc hwi hwr
  · by_cases hx : (byteAt C (V.pc + 1)) < f.loc.length
    · exact stepM2 H hok hf e hpc hwi hwr hx
    · exact stepM2n H hok hf e hpc hwi hwr (by omega)
  · by_cases hx : (byteAt C (V.pc + 1)) < f.loc.length
    · exact stepM3 H hok hf e hpc hwi hwr hx
    · exact stepM3n H hok hf e hpc hwi hwr (by omega)
  · by_cases hs : (byteAt C (V.pc + 1)) < f.lr
    · by_cases hx : (dupM M (f.rb + (byteAt C (V.pc + 1)) : Nat)).1 = 0
      · exact stepM4 H hok hf e hpc hwi hwr hs hx
      · exact stepM4e H hok hf e hpc hwi hwr hs hx
    · exact stepM4n H hok hf e hpc hwi hwr (by omega)
  · by_cases hx : (byteAt C (V.pc + 1)) < f.lr
    · exact stepM5 H hok hf e hpc hwi hwr hx
    · exact stepM5n H hok hf e hpc hwi hwr (by omega)
  · exact stepM6 H hok hf e hpc hwi hwr
  · by_cases hx : (pushM M).1 = 0
    · exact stepM7 H hok hf e hpc hwi hwr hx
    · exact stepM7n H hok hf e hpc hwi hwr hx
  · exact stepM8 H hok hf e hpc hwi hwr
  · exact stepM9 H hok hf e hpc hwi hwr
  · exact stepM10 H hok hf e hpc hwi hwr
  · by_cases hx : opn V 0 = 0
    · exact stepM11z H hok hf e hpc hwi hwr hx
    · exact stepM11 H hok hf e hpc hwi hwr hx
  · by_cases hx : opn V 0 = 0
    · exact stepM12z H hok hf e hpc hwi hwr hx
    · exact stepM12 H hok hf e hpc hwi hwr hx
  · exact stepM13 H hok hf e hpc hwi hwr
  · exact stepM14 H hok hf e hpc hwi hwr
  · exact stepM15 H hok hf e hpc hwi hwr
  · exact stepM16 H hok hf e hpc hwi hwr
  · exact stepM17 H hok hf e hpc hwi hwr
  · exact stepM18 H hok hf e hpc hwi hwr
  · exact stepM19 H hok hf e hpc hwi hwr
  · exact stepM20 H hok hf e hpc hwi hwr
  · exact stepM21 H hok hf e hpc hwi hwr hfu
  · by_cases hx : opn V 0 = 0
    · exact stepM22 H hok hf e hpc hwi hwr hx hfu
    · exact stepM22n H hok hf e hpc hwi hwr hx hfu
  · by_cases hx : opn V 0 = 0
    · exact stepM23n H hok hf e hpc hwi hwr hx hfu
    · exact stepM23 H hok hf e hpc hwi hwr hx hfu
  · exact stepM24 H hok hf e hpc hwi hwr hfu
  · exact stepM25 H hok hf e hpc hwi hwr
  · by_cases hx : r = []
    · exact stepM26e H hok hf e hpc hwi hwr hx
    · exact stepM26 H hok hf e hpc hwi hwr hx
  · by_cases hx : r = []
    · exact stepM27e H hok hf e hpc hwi hwr hx
    · exact stepM27 H hok hf e hpc hwi hwr hx
  · by_cases hx : (allocM M 0 (opn V 0)).1 = 0
    · exact stepM28 H hok hf e hpc hwi hwr hx
    · exact stepM28n H hok hf e hpc hwi hwr hx
  · by_cases hx : (allocM M (opn V 0) 0).1 = 0
    · exact stepM29 H hok hf e hpc hwi hwr hx
    · exact stepM29n H hok hf e hpc hwi hwr hx
  · by_cases hx : (ldIntM M ((M.rt.length : Int) - 1) (opn V 0)).2 = 0
    · exact stepM30 H hok hf e hpc hwi hwr hx
    · exact stepM30n H hok hf e hpc hwi hwr hx
  · by_cases hx : (ldRefM M ((M.rt.length : Int) - 1) (opn V 0) ((M.rt.length : Int) - 1)).1 = 0
    · exact stepM31 H hok hf e hpc hwi hwr hx
    · exact stepM31n H hok hf e hpc hwi hwr hx
  · by_cases hx : (stIntM M ((M.rt.length : Int) - 1) (opn V 1) (opn V 0)).1 = 0
    · exact stepM32 H hok hf e hpc hwi hwr hx
    · exact stepM32n H hok hf e hpc hwi hwr hx
  · by_cases hx : (stRefM M ((M.rt.length : Int) - 2) (opn V 0) ((M.rt.length : Int) - 1)).1 = 0
    · exact stepM33 H hok hf e hpc hwi hwr hx
    · exact stepM33n H hok hf e hpc hwi hwr hx
  · by_cases hx : (lenM M ((M.rt.length : Int) - 1)).2.2 = 0
    · exact stepM34 H hok hf e hpc hwi hwr hx
    · exact stepM34n H hok hf e hpc hwi hwr hx
  · by_cases hx : 1024 ≤ V.out.length
    · exact stepM35n H hok hf e hpc hwi hwr hx
    · exact stepM35 H hok hf e hpc hwi hwr (by omega)
  · by_cases hx : I.length ≤ V.ip
    · exact stepM36n H hok hf e hpc hwi hwr hx
    · exact stepM36 H hok hf e hpc hwi hwr (by omega)
set_option maxRecDepth 100000 in
theorem refM_any (H : MR w rn hm C I V M col P cv iv ov fv g) (hok : POk C I V M) (hf : V.fs = f :: r) (hq : f.rb + f.lr ≤ M.rt.length) (op : Nat) (e : byteAt C V.pc = op) (h37 : op < 37) (hpc : V.pc + 1 + (opArgs op).toNat ≤ C.length) (hno : f.ops.length < wantI op ∨ (M.rt.length : Int) - f.rb - f.lr < wantR op) : Calls Tryz.prog 47 #[.pointer (some ⟨rn, 0, none⟩)] w (MT w rn hm C I (({ V with steps := wr64 (V.steps + 1) } : Vs).die 24) M P) := by
  rcases lt37 h37 with rfl | rfl | rfl | rfl | rfl | rfl | rfl | rfl | rfl | rfl | rfl | rfl | rfl | rfl | rfl | rfl | rfl | rfl | rfl | rfl | rfl | rfl | rfl | rfl | rfl | rfl | rfl | rfl | rfl | rfl | rfl | rfl | rfl | rfl | rfl | rfl | rfl
  · exact absurd hno (by show ¬ (f.ops.length < 0 ∨ (M.rt.length : Int) - f.rb - f.lr < (0 : Nat)); omega)
  · exact stepM1f H hok hf e hpc hno
  · exact absurd hno (by show ¬ (f.ops.length < 0 ∨ (M.rt.length : Int) - f.rb - f.lr < (0 : Nat)); omega)
  · by_cases hx : (byteAt C (V.pc + 1)) < f.loc.length
    · exact stepM3f H hok hf e hpc hno hx
    · exact stepM3fn H hok hf e hpc hno (by omega)
  · exact absurd hno (by show ¬ (f.ops.length < 0 ∨ (M.rt.length : Int) - f.rb - f.lr < (0 : Nat)); omega)
  · by_cases hx : (byteAt C (V.pc + 1)) < f.lr
    · exact stepM5f H hok hf e hpc hno hx
    · exact stepM5fn H hok hf e hpc hno (by omega)
  · exact stepM6f H hok hf e hpc hno
  · exact absurd hno (by show ¬ (f.ops.length < 0 ∨ (M.rt.length : Int) - f.rb - f.lr < (0 : Nat)); omega)
  · exact stepM8f H hok hf e hpc hno
  · exact stepM9f H hok hf e hpc hno
  · exact stepM10f H hok hf e hpc hno
  · exact stepM11f H hok hf e hpc hno
  · exact stepM12f H hok hf e hpc hno
  · exact stepM13f H hok hf e hpc hno
  · exact stepM14f H hok hf e hpc hno
  · exact stepM15f H hok hf e hpc hno
  · exact stepM16f H hok hf e hpc hno
  · exact stepM17f H hok hf e hpc hno
  · exact stepM18f H hok hf e hpc hno
  · exact stepM19f H hok hf e hpc hno
  · exact stepM20f H hok hf e hpc hno
  · exact absurd hno (by show ¬ (f.ops.length < 0 ∨ (M.rt.length : Int) - f.rb - f.lr < (0 : Nat)); omega)
  · exact stepM22f H hok hf e hpc hno
  · exact stepM23f H hok hf e hpc hno
  · exact absurd hno (by show ¬ (f.ops.length < 0 ∨ (M.rt.length : Int) - f.rb - f.lr < (0 : Nat)); omega)
  · exact absurd hno (by show ¬ (f.ops.length < 0 ∨ (M.rt.length : Int) - f.rb - f.lr < (0 : Nat)); omega)
  · exact stepM26f H hok hf e hpc hno
  · by_cases hx : r = []
    · exact stepM27fe H hok hf e hpc hno hx
    · exact stepM27f H hok hf e hpc hno hx
  · exact stepM28f H hok hf e hpc hno
  · exact stepM29f H hok hf e hpc hno
  · exact stepM30f H hok hf e hpc hno
  · exact stepM31f H hok hf e hpc hno
  · exact stepM32f H hok hf e hpc hno
  · exact stepM33f H hok hf e hpc hno
  · exact stepM34f H hok hf e hpc hno
  · exact stepM35f H hok hf e hpc hno
  · exact absurd hno (by show ¬ (f.ops.length < 0 ∨ (M.rt.length : Int) - f.rb - f.lr < (0 : Nat)); omega)
theorem stepMF (H : MR w rn hm C I V M col P cv iv ov fv g) (hok : POk C I V M) (hne : V.fs ≠ []) (hfu : V.fuel ≤ 9223372036854775807) : Calls Tryz.prog 47 #[.pointer (some ⟨rn, 0, none⟩)] w (MT w rn hm C I (stepV C I V M).1 (stepV C I V M).2 P) := by
  obtain ⟨f, r, hf⟩ : ∃ f r, V.fs = f :: r := by
    cases hh : V.fs with
    | nil => exact absurd hh hne
    | cons f r => exact ⟨f, r, rfl⟩
  have hq : f.rb + f.lr ≤ M.rt.length := by
    have := hok.ch
    rw [hf] at this
    exact this.1
  unfold stepV
  by_cases h1 : C.length ≤ V.pc
  · rw [if_pos h1]
    exact stepM_e1 H h1
  rw [if_neg h1]
  by_cases h2 : opArgs (byteAt C V.pc) < 0 ∨ (C.length : Int) < V.pc + 1 + opArgs (byteAt C V.pc)
  · rw [if_pos h2]
    exact stepM_e2 H (by omega) h2
  rw [if_neg h2]
  have t1 : topO V = f.ops := by unfold topO; rw [hf]
  have t2 : ropsV V M = (M.rt.length : Int) - f.rb - f.lr := by unfold ropsV; rw [hf]
  rw [t1, t2]
  have h37 : byteAt C V.pc < 37 := by
    have hb1 : 0 ≤ opArgs (byteAt C V.pc) := by omega
    unfold opArgs at hb1
    by_cases h : byteAt C V.pc < 37
    · exact h
    · rw [if_neg (by omega), if_neg (by omega), if_neg (by omega), if_neg (by omega), if_neg h] at hb1
      omega
  by_cases h3 : f.ops.length < wantI (byteAt C V.pc) ∨ (M.rt.length : Int) - f.rb - f.lr < wantR (byteAt C V.pc)
  · rw [if_pos h3]
    exact refM_any H hok hf hq _ rfl h37 (by omega) h3
  rw [if_neg h3]
  exact execM_any H hok hf hfu _ rfl h37 (by omega) (by omega) (by omega)
end
end Go.Proofs.Qxb6500281aGreat
