/- measure: alt, rep. -/
import Derived.Test.Qxb6500283aGreatW9b
namespace Go.Proofs.Qxb6500283aGreat
open Go Go.RowKit

section
variable {w : World} {s x a b m : Nat} {ns out : List Nd} {ws : List Tk} {rs : List Nat}
set_option maxRecDepth 100000 in
set_option maxHeartbeats 8000000 in
theorem repS_any (h : SM w s x out ws rs) (hZ : ZM w s ns m) (hm : m ≤ 24) (ha : a < m) (oa : OkZ (zz ns a)) (k : Nat) (mx : Int) (hk : k ≤ 3) (hx1 : -1 ≤ mx) (hx3 : mx ≤ 3) (hkx : 0 ≤ mx → (k : Int) ≤ mx) :
    Calls Tryz.prog 114 #[.pointer (some ⟨s, 0, none⟩), .int .i64 (a : Nat), .int .i64 (k : Nat), .int .i64 mx] w fun v w' => v = .returned (pairV (repZ (zz ns a) k mx)) ∧ Fr (fun _ => False) w w' := by
  obtain ⟨_, c1, c2, _, hl⟩ := h.cells
  have sa := hZ.shape ha hm
  have za := hZ.size ha hm
  have haI : (a : Int) ≤ 23 := by omega
  have hl0 : s < w.heap.size := by omega
  have hl1 : s + 1 < w.heap.size := by omega
  have hl2 : s + 2 < w.heap.size := by omega
  have a1 := oa.sh
  have a2 := oa.hi
  have a3 := oa.lo
  have F1 := (Fr.refl (fun _ => False) w).drew
  have F0 := Fr.refl (fun _ => False) w
  unfold pairV
  generalize zz ns a = A at *
  obtain ⟨A1, A2⟩ := A
  simp only at sa za a1 a2 a3
  clear oa F1
  have hA2 : (A2 : Int) ≤ 32 := by omega
  have hA1 : (1 : Int) ≤ A2 := by omega
  go_enter Tryz.func114, Tryz.ntmps114
  by_cases hw : A1 = 2
  · subst hw
    by_cases hx0 : mx = 0
    · subst hx0
      go_wp2_with fail
      exact bodyPost_ret (v := .tuple #[.int .i64 0, .int .i64 1]) (by simp [results, Tryz.results114, go_sem]) rfl ⟨by simp [repZ], F0⟩
    · have t0 : (mx == 0) = false := by simpa using hx0
      have hrz : repZ (2, A2) k mx = (2, lidN (repN A2 k mx)) := by simp [repZ, hx0]
      rw [hrz]
      have Hx0 : Hid _ := hx0
      clear hrz hx0
      obtain rfl | rfl | rfl | rfl : k = 0 ∨ k = 1 ∨ k = 2 ∨ k = 3 := by omega
      · obtain rfl | rfl | rfl | rfl : mx = -1 ∨ mx = 1 ∨ mx = 2 ∨ mx = 3 := by have hne : mx ≠ 0 := Hx0.out; omega
        · have hN : repN A2 ((0 : Nat) : Int) (-1) = A2 + 1 := by
            have p1 : 0 < A2 := by omega
            unfold repN sumN tailN
            simp
            all_goals first | omega | (split <;> omega)
          rw [hN]
          clear hN Hx0 t0
          have d3 : decide ((0 : Int) < (A2 : Int) + 1) = true := decide_eq_true (by omega)
          go_wp2_with fail
          refine (lidI_any _ _).mono ?_
          rintro v w9 ⟨q, rfl, Hq, rfl⟩
          go_wp2_with fail
          refine bodyPost_ret (v := .tuple #[.int .i64 2, .int .i64 q]) (by simp [results, Tryz.results114, go_sem]) rfl ⟨?_, F0⟩
          have hq : q = (lidN (A2 + 1) : Nat) := by
            unfold LidP at Hq
            rw [Hq]
            unfold lidN
            split <;> split <;> omega
          refine (congrArg (fun z : Int => Ending.returned (.tuple #[.int .i64 2, .int .i64 z])) hq).trans ?_
          exact congrArg (fun z : Nat => Ending.returned (.tuple #[.int .i64 2, .int .i64 ((lidN z : Nat) : Int)])) (by omega)
        · have hN : repN A2 ((0 : Nat) : Int) 1 = 1 * (A2 + 3) - 1 := by
            have p1 : 0 < A2 := by omega
            unfold repN sumN tailN
            simp
            all_goals first | omega | (split <;> omega)
          rw [hN]
          clear hN Hx0 t0
          have d2 : decide ((0 : Int) < 1 * ((A2 : Int) + 3) - 1) = true := decide_eq_true (by omega)
          have d2' : decide ((0 : Int) < (A2 : Int) + 3 - 1) = true := decide_eq_true (by omega)
          have d2'' : decide ((0 : Int) < (A2 : Int) + 2) = true := decide_eq_true (by omega)
          go_wp2_with fail
          refine (lidI_any _ _).mono ?_
          rintro v w9 ⟨q, rfl, Hq, rfl⟩
          go_wp2_with fail
          refine bodyPost_ret (v := .tuple #[.int .i64 2, .int .i64 q]) (by simp [results, Tryz.results114, go_sem]) rfl ⟨?_, F0⟩
          have hq : q = (lidN (1 * (A2 + 3) - 1) : Nat) := by
            unfold LidP at Hq
            rw [Hq]
            unfold lidN
            split <;> split <;> omega
          refine (congrArg (fun z : Int => Ending.returned (.tuple #[.int .i64 2, .int .i64 z])) hq).trans ?_
          exact congrArg (fun z : Nat => Ending.returned (.tuple #[.int .i64 2, .int .i64 ((lidN z : Nat) : Int)])) (by omega)
        · have hN : repN A2 ((0 : Nat) : Int) 2 = 2 * (A2 + 3) - 1 := by
            have p1 : 0 < A2 := by omega
            unfold repN sumN tailN
            simp
            all_goals first | omega | (split <;> omega)
          rw [hN]
          clear hN Hx0 t0
          have d2 : decide ((0 : Int) < 2 * ((A2 : Int) + 3) - 1) = true := decide_eq_true (by omega)
          have d2' : decide ((0 : Int) < (A2 : Int) + 3 - 1) = true := decide_eq_true (by omega)
          have d2'' : decide ((0 : Int) < (A2 : Int) + 2) = true := decide_eq_true (by omega)
          go_wp2_with fail
          refine (lidI_any _ _).mono ?_
          rintro v w9 ⟨q, rfl, Hq, rfl⟩
          go_wp2_with fail
          refine bodyPost_ret (v := .tuple #[.int .i64 2, .int .i64 q]) (by simp [results, Tryz.results114, go_sem]) rfl ⟨?_, F0⟩
          have hq : q = (lidN (2 * (A2 + 3) - 1) : Nat) := by
            unfold LidP at Hq
            rw [Hq]
            unfold lidN
            split <;> split <;> omega
          refine (congrArg (fun z : Int => Ending.returned (.tuple #[.int .i64 2, .int .i64 z])) hq).trans ?_
          exact congrArg (fun z : Nat => Ending.returned (.tuple #[.int .i64 2, .int .i64 ((lidN z : Nat) : Int)])) (by omega)
        · have hN : repN A2 ((0 : Nat) : Int) 3 = 3 * (A2 + 3) - 1 := by
            have p1 : 0 < A2 := by omega
            unfold repN sumN tailN
            simp
            all_goals first | omega | (split <;> omega)
          rw [hN]
          clear hN Hx0 t0
          have d2 : decide ((0 : Int) < 3 * ((A2 : Int) + 3) - 1) = true := decide_eq_true (by omega)
          have d2' : decide ((0 : Int) < (A2 : Int) + 3 - 1) = true := decide_eq_true (by omega)
          have d2'' : decide ((0 : Int) < (A2 : Int) + 2) = true := decide_eq_true (by omega)
          go_wp2_with fail
          refine (lidI_any _ _).mono ?_
          rintro v w9 ⟨q, rfl, Hq, rfl⟩
          go_wp2_with fail
          refine bodyPost_ret (v := .tuple #[.int .i64 2, .int .i64 q]) (by simp [results, Tryz.results114, go_sem]) rfl ⟨?_, F0⟩
          have hq : q = (lidN (3 * (A2 + 3) - 1) : Nat) := by
            unfold LidP at Hq
            rw [Hq]
            unfold lidN
            split <;> split <;> omega
          refine (congrArg (fun z : Int => Ending.returned (.tuple #[.int .i64 2, .int .i64 z])) hq).trans ?_
          exact congrArg (fun z : Nat => Ending.returned (.tuple #[.int .i64 2, .int .i64 ((lidN z : Nat) : Int)])) (by omega)
      · obtain rfl | rfl | rfl | rfl : mx = -1 ∨ mx = 1 ∨ mx = 2 ∨ mx = 3 := by have hne : mx ≠ 0 := Hx0.out; omega
        · have hN : repN A2 ((1 : Nat) : Int) (-1) = (1 * A2 + 1 - 1) + 1 + (A2 + 1) := by
            have p1 : 0 < A2 := by omega
            unfold repN sumN tailN
            simp
            all_goals first | omega | (split <;> omega)
          rw [hN]
          clear hN Hx0 t0
          have d1 : decide ((0 : Int) < 1 * (A2 : Int) + 1 - 1) = true := decide_eq_true (by omega)
          have d1' : decide ((0 : Int) < (A2 : Int)) = true := decide_eq_true (by omega)
          have d3 : decide ((0 : Int) < (A2 : Int) + 1) = true := decide_eq_true (by omega)
          go_wp2_with fail
          refine (lidI_any _ _).mono ?_
          rintro v w9 ⟨q, rfl, Hq, rfl⟩
          go_wp2_with fail
          refine bodyPost_ret (v := .tuple #[.int .i64 2, .int .i64 q]) (by simp [results, Tryz.results114, go_sem]) rfl ⟨?_, F0⟩
          have hq : q = (lidN ((1 * A2 + 1 - 1) + 1 + (A2 + 1)) : Nat) := by
            unfold LidP at Hq
            rw [Hq]
            unfold lidN
            split <;> split <;> omega
          refine (congrArg (fun z : Int => Ending.returned (.tuple #[.int .i64 2, .int .i64 z])) hq).trans ?_
          exact congrArg (fun z : Nat => Ending.returned (.tuple #[.int .i64 2, .int .i64 ((lidN z : Nat) : Int)])) (by omega)
        · have hN : repN A2 ((1 : Nat) : Int) 1 = 1 * A2 + 1 - 1 := by
            have p1 : 0 < A2 := by omega
            unfold repN sumN tailN
            simp
            all_goals first | omega | (split <;> omega)
          rw [hN]
          clear hN Hx0 t0
          have d1 : decide ((0 : Int) < 1 * (A2 : Int) + 1 - 1) = true := decide_eq_true (by omega)
          have d1' : decide ((0 : Int) < (A2 : Int)) = true := decide_eq_true (by omega)
          go_wp2_with fail
          refine (lidI_any _ _).mono ?_
          rintro v w9 ⟨q, rfl, Hq, rfl⟩
          go_wp2_with fail
          refine bodyPost_ret (v := .tuple #[.int .i64 2, .int .i64 q]) (by simp [results, Tryz.results114, go_sem]) rfl ⟨?_, F0⟩
          have hq : q = (lidN (1 * A2 + 1 - 1) : Nat) := by
            unfold LidP at Hq
            rw [Hq]
            unfold lidN
            split <;> split <;> omega
          refine (congrArg (fun z : Int => Ending.returned (.tuple #[.int .i64 2, .int .i64 z])) hq).trans ?_
          exact congrArg (fun z : Nat => Ending.returned (.tuple #[.int .i64 2, .int .i64 ((lidN z : Nat) : Int)])) (by omega)
        · have hN : repN A2 ((1 : Nat) : Int) 2 = (1 * A2 + 1 - 1) + 1 + (1 * (A2 + 3) - 1) := by
            have p1 : 0 < A2 := by omega
            unfold repN sumN tailN
            simp
            all_goals first | omega | (split <;> omega)
          rw [hN]
          clear hN Hx0 t0
          have d1 : decide ((0 : Int) < 1 * (A2 : Int) + 1 - 1) = true := decide_eq_true (by omega)
          have d1' : decide ((0 : Int) < (A2 : Int)) = true := decide_eq_true (by omega)
          have d2 : decide ((0 : Int) < 1 * ((A2 : Int) + 3) - 1) = true := decide_eq_true (by omega)
          have d2' : decide ((0 : Int) < (A2 : Int) + 3 - 1) = true := decide_eq_true (by omega)
          have d2'' : decide ((0 : Int) < (A2 : Int) + 2) = true := decide_eq_true (by omega)
          go_wp2_with fail
          refine (lidI_any _ _).mono ?_
          rintro v w9 ⟨q, rfl, Hq, rfl⟩
          go_wp2_with fail
          refine bodyPost_ret (v := .tuple #[.int .i64 2, .int .i64 q]) (by simp [results, Tryz.results114, go_sem]) rfl ⟨?_, F0⟩
          have hq : q = (lidN ((1 * A2 + 1 - 1) + 1 + (1 * (A2 + 3) - 1)) : Nat) := by
            unfold LidP at Hq
            rw [Hq]
            unfold lidN
            split <;> split <;> omega
          refine (congrArg (fun z : Int => Ending.returned (.tuple #[.int .i64 2, .int .i64 z])) hq).trans ?_
          exact congrArg (fun z : Nat => Ending.returned (.tuple #[.int .i64 2, .int .i64 ((lidN z : Nat) : Int)])) (by omega)
        · have hN : repN A2 ((1 : Nat) : Int) 3 = (1 * A2 + 1 - 1) + 1 + (2 * (A2 + 3) - 1) := by
            have p1 : 0 < A2 := by omega
            unfold repN sumN tailN
            simp
            all_goals first | omega | (split <;> omega)
          rw [hN]
          clear hN Hx0 t0
          have d1 : decide ((0 : Int) < 1 * (A2 : Int) + 1 - 1) = true := decide_eq_true (by omega)
          have d1' : decide ((0 : Int) < (A2 : Int)) = true := decide_eq_true (by omega)
          have d2 : decide ((0 : Int) < 2 * ((A2 : Int) + 3) - 1) = true := decide_eq_true (by omega)
          have d2' : decide ((0 : Int) < (A2 : Int) + 3 - 1) = true := decide_eq_true (by omega)
          have d2'' : decide ((0 : Int) < (A2 : Int) + 2) = true := decide_eq_true (by omega)
          go_wp2_with fail
          refine (lidI_any _ _).mono ?_
          rintro v w9 ⟨q, rfl, Hq, rfl⟩
          go_wp2_with fail
          refine bodyPost_ret (v := .tuple #[.int .i64 2, .int .i64 q]) (by simp [results, Tryz.results114, go_sem]) rfl ⟨?_, F0⟩
          have hq : q = (lidN ((1 * A2 + 1 - 1) + 1 + (2 * (A2 + 3) - 1)) : Nat) := by
            unfold LidP at Hq
            rw [Hq]
            unfold lidN
            split <;> split <;> omega
          refine (congrArg (fun z : Int => Ending.returned (.tuple #[.int .i64 2, .int .i64 z])) hq).trans ?_
          exact congrArg (fun z : Nat => Ending.returned (.tuple #[.int .i64 2, .int .i64 ((lidN z : Nat) : Int)])) (by omega)
      · obtain rfl | rfl | rfl : mx = -1 ∨ mx = 2 ∨ mx = 3 := by have hne : mx ≠ 0 := Hx0.out; omega
        · have hN : repN A2 ((2 : Nat) : Int) (-1) = (2 * A2 + 2 - 1) + 1 + (A2 + 1) := by
            have p1 : 0 < A2 := by omega
            unfold repN sumN tailN
            simp
            all_goals first | omega | (split <;> omega)
          rw [hN]
          clear hN Hx0 t0
          have d1 : decide ((0 : Int) < 2 * (A2 : Int) + 2 - 1) = true := decide_eq_true (by omega)
          have d1' : decide ((0 : Int) < (A2 : Int)) = true := decide_eq_true (by omega)
          have d3 : decide ((0 : Int) < (A2 : Int) + 1) = true := decide_eq_true (by omega)
          go_wp2_with fail
          refine (lidI_any _ _).mono ?_
          rintro v w9 ⟨q, rfl, Hq, rfl⟩
          go_wp2_with fail
          refine bodyPost_ret (v := .tuple #[.int .i64 2, .int .i64 q]) (by simp [results, Tryz.results114, go_sem]) rfl ⟨?_, F0⟩
          have hq : q = (lidN ((2 * A2 + 2 - 1) + 1 + (A2 + 1)) : Nat) := by
            unfold LidP at Hq
            rw [Hq]
            unfold lidN
            split <;> split <;> omega
          refine (congrArg (fun z : Int => Ending.returned (.tuple #[.int .i64 2, .int .i64 z])) hq).trans ?_
          exact congrArg (fun z : Nat => Ending.returned (.tuple #[.int .i64 2, .int .i64 ((lidN z : Nat) : Int)])) (by omega)
        · have hN : repN A2 ((2 : Nat) : Int) 2 = 2 * A2 + 2 - 1 := by
            have p1 : 0 < A2 := by omega
            unfold repN sumN tailN
            simp
            all_goals first | omega | (split <;> omega)
          rw [hN]
          clear hN Hx0 t0
          have d1 : decide ((0 : Int) < 2 * (A2 : Int) + 2 - 1) = true := decide_eq_true (by omega)
          have d1' : decide ((0 : Int) < (A2 : Int)) = true := decide_eq_true (by omega)
          go_wp2_with fail
          refine (lidI_any _ _).mono ?_
          rintro v w9 ⟨q, rfl, Hq, rfl⟩
          go_wp2_with fail
          refine bodyPost_ret (v := .tuple #[.int .i64 2, .int .i64 q]) (by simp [results, Tryz.results114, go_sem]) rfl ⟨?_, F0⟩
          have hq : q = (lidN (2 * A2 + 2 - 1) : Nat) := by
            unfold LidP at Hq
            rw [Hq]
            unfold lidN
            split <;> split <;> omega
          refine (congrArg (fun z : Int => Ending.returned (.tuple #[.int .i64 2, .int .i64 z])) hq).trans ?_
          exact congrArg (fun z : Nat => Ending.returned (.tuple #[.int .i64 2, .int .i64 ((lidN z : Nat) : Int)])) (by omega)
        · have hN : repN A2 ((2 : Nat) : Int) 3 = (2 * A2 + 2 - 1) + 1 + (1 * (A2 + 3) - 1) := by
            have p1 : 0 < A2 := by omega
            unfold repN sumN tailN
            simp
            all_goals first | omega | (split <;> omega)
          rw [hN]
          clear hN Hx0 t0
          have d1 : decide ((0 : Int) < 2 * (A2 : Int) + 2 - 1) = true := decide_eq_true (by omega)
          have d1' : decide ((0 : Int) < (A2 : Int)) = true := decide_eq_true (by omega)
          have d2 : decide ((0 : Int) < 1 * ((A2 : Int) + 3) - 1) = true := decide_eq_true (by omega)
          have d2' : decide ((0 : Int) < (A2 : Int) + 3 - 1) = true := decide_eq_true (by omega)
          have d2'' : decide ((0 : Int) < (A2 : Int) + 2) = true := decide_eq_true (by omega)
          go_wp2_with fail
          refine (lidI_any _ _).mono ?_
          rintro v w9 ⟨q, rfl, Hq, rfl⟩
          go_wp2_with fail
          refine bodyPost_ret (v := .tuple #[.int .i64 2, .int .i64 q]) (by simp [results, Tryz.results114, go_sem]) rfl ⟨?_, F0⟩
          have hq : q = (lidN ((2 * A2 + 2 - 1) + 1 + (1 * (A2 + 3) - 1)) : Nat) := by
            unfold LidP at Hq
            rw [Hq]
            unfold lidN
            split <;> split <;> omega
          refine (congrArg (fun z : Int => Ending.returned (.tuple #[.int .i64 2, .int .i64 z])) hq).trans ?_
          exact congrArg (fun z : Nat => Ending.returned (.tuple #[.int .i64 2, .int .i64 ((lidN z : Nat) : Int)])) (by omega)
      · obtain rfl | rfl : mx = -1 ∨ mx = 3 := by have hne : mx ≠ 0 := Hx0.out; omega
        · have hN : repN A2 ((3 : Nat) : Int) (-1) = (3 * A2 + 3 - 1) + 1 + (A2 + 1) := by
            have p1 : 0 < A2 := by omega
            unfold repN sumN tailN
            simp
            all_goals first | omega | (split <;> omega)
          rw [hN]
          clear hN Hx0 t0
          have d1 : decide ((0 : Int) < 3 * (A2 : Int) + 3 - 1) = true := decide_eq_true (by omega)
          have d1' : decide ((0 : Int) < (A2 : Int)) = true := decide_eq_true (by omega)
          have d3 : decide ((0 : Int) < (A2 : Int) + 1) = true := decide_eq_true (by omega)
          go_wp2_with fail
          refine (lidI_any _ _).mono ?_
          rintro v w9 ⟨q, rfl, Hq, rfl⟩
          go_wp2_with fail
          refine bodyPost_ret (v := .tuple #[.int .i64 2, .int .i64 q]) (by simp [results, Tryz.results114, go_sem]) rfl ⟨?_, F0⟩
          have hq : q = (lidN ((3 * A2 + 3 - 1) + 1 + (A2 + 1)) : Nat) := by
            unfold LidP at Hq
            rw [Hq]
            unfold lidN
            split <;> split <;> omega
          refine (congrArg (fun z : Int => Ending.returned (.tuple #[.int .i64 2, .int .i64 z])) hq).trans ?_
          exact congrArg (fun z : Nat => Ending.returned (.tuple #[.int .i64 2, .int .i64 ((lidN z : Nat) : Int)])) (by omega)
        · have hN : repN A2 ((3 : Nat) : Int) 3 = 3 * A2 + 3 - 1 := by
            have p1 : 0 < A2 := by omega
            unfold repN sumN tailN
            simp
            all_goals first | omega | (split <;> omega)
          rw [hN]
          clear hN Hx0 t0
          have d1 : decide ((0 : Int) < 3 * (A2 : Int) + 3 - 1) = true := decide_eq_true (by omega)
          have d1' : decide ((0 : Int) < (A2 : Int)) = true := decide_eq_true (by omega)
          go_wp2_with fail
          refine (lidI_any _ _).mono ?_
          rintro v w9 ⟨q, rfl, Hq, rfl⟩
          go_wp2_with fail
          refine bodyPost_ret (v := .tuple #[.int .i64 2, .int .i64 q]) (by simp [results, Tryz.results114, go_sem]) rfl ⟨?_, F0⟩
          have hq : q = (lidN (3 * A2 + 3 - 1) : Nat) := by
            unfold LidP at Hq
            rw [Hq]
            unfold lidN
            split <;> split <;> omega
          refine (congrArg (fun z : Int => Ending.returned (.tuple #[.int .i64 2, .int .i64 z])) hq).trans ?_
          exact congrArg (fun z : Nat => Ending.returned (.tuple #[.int .i64 2, .int .i64 ((lidN z : Nat) : Int)])) (by omega)
  · by_cases h1 : A1 = 1 ∧ 1 ≤ k
    · obtain ⟨rfl, hk1⟩ := h1
      have hkd : decide ((0 : Int) < (k : Nat)) = true := decide_eq_true (by omega)
      have hz : repZ (1, A2) k mx = (1, 1) := by simp [repZ]; omega
      rw [hz]
      clear hz
      go_wp2_with fail
      exact bodyPost_ret (v := .tuple #[.int .i64 1, .int .i64 1]) (by simp [results, Tryz.results114, go_sem]) rfl ⟨by simp, F0⟩
    · have hz : repZ (A1, A2) k mx = (0, 1) := by
        unfold repZ
        rw [if_neg (by simp only; omega), if_pos (.inl hw)]
      rw [hz]
      clear hz
      obtain rfl | rfl : A1 = 0 ∨ A1 = 1 := by omega
      · go_wp2_with fail
        exact bodyPost_ret (v := .tuple #[.int .i64 0, .int .i64 1]) (by simp [results, Tryz.results114, go_sem]) rfl ⟨by simp, F0⟩
      · have hk0 : k = 0 := by omega
        subst hk0
        clear h1 hw
        go_wp2_with fail
        exact bodyPost_ret (v := .tuple #[.int .i64 0, .int .i64 1]) (by simp [results, Tryz.results114, go_sem]) rfl ⟨by simp, F0⟩
end
end Go.Proofs.Qxb6500283aGreat
