/- unroll. -/
import Derived.Test.Qxb6500283aGreatW3a
import Derived.Test.Qxb6500283aGreatW3b
namespace Go.Proofs.Qxb6500283aGreat
open Go Go.RowKit

set_option maxRecDepth 100000 in
set_option maxHeartbeats 4000000 in
theorem unroll_zs {w : World} {s x : Nat} {O : List Nd} {ws : List Tk} {rs : List Nat} {f : Run} {kd na nb cp : Int} {st : BSet} (hf : Mv f) {lz : Bool}
    (h : SM w s x (O ++ f O.length) ws ((O.length + (f 0).length - 1) :: rs)) (hrs : rs.length < 25) (hcap : O.length + (starW f lz 0).length ≤ 31) :
    Calls Tryz.prog 122 #[.pointer (some ⟨s, 0, none⟩), ndV ⟨kd, na, nb, 0, (-1), cp, lz, st⟩, .int .i64 ((O.length : Nat) : Int), .int .i64 (-1)] w fun v w' => v = .returned (.int .i64 ((O.length + (starW f lz 0).length - 1 : Nat) : Int)) ∧ SM w' s x (O ++ starW f lz O.length) ws rs ∧ Fr (fun b => SBld s b) w w' := by
  have hne := hf.ne
  have Hol : Hid ((O ++ f O.length).length = O.length + (f 0).length) := by
    show (O ++ f O.length).length = O.length + (f 0).length
    rw [List.length_append, hf.len]
  have Hsl : Hid _ := starW_len hf lz 0
  have hroom : (O ++ f O.length).length < 31 := by have := Hol.out; have := Hsl.out; omega
  have FA := (Fr.refl (fun _ => False) w).alloc (.cells #[.int .i64 kd, .int .i64 na, .int .i64 nb, .int .i64 0, .int .i64 (-1), .int .i64 cp, .bool lz, .int .u64 (wd st 0 : Nat), .int .u64 (wd st 1 : Nat), .int .u64 (wd st 2 : Nat), .int .u64 (wd st 3 : Nat)] 97)
  have hA := h.idle FA
  have hN0 := Blk.nd w ⟨kd, na, nb, 0, (-1), cp, lz, st⟩
  have hsl : s + 5 < w.heap.size := by
    obtain ⟨_, _, _, _, _, _, _, _, _, _, hR, _⟩ := h
    exact hR.lt
  unfold ndV
  go_enter Tryz.func122, Tryz.ntmps122
  go_wp2_with fail
  refine (popRoot_any hA hrs).mono ?_
  rintro v w1 ⟨rfl, hSM1, f1⟩
  have hN1 := hN0.frame f1 (by unfold SBld; omega)
  have F1 := (FA.mono (S' := fun b => SBld s b) (fun _ _ h => h.elim)).trans f1 (fun _ _ h => h)
  clear FA hA hN0
  have n3 := hN1.cell (o := 3) (by omega)
  have n4 := hN1.cell (o := 4) (by omega)
  have n6 := hN1.cell (o := 6) (by omega)
  simp only [ndCell] at n3 n4 n6
  have lN := hN1.lt
  have hSM1' := hSM1
  obtain ⟨g, fo, fw, fr, hB, hL, _, _, _, _, _, _⟩ := hSM1'
  have c4 := hB.cell (o := 4) (by omega)
  rw [hL.n4] at c4
  have lB := hB.lt
  rw [Hol.out] at c4
  go_wp2_with fail
  refine wp_loop_rounds 1 ?_
  rw [rounds_succ]
  have hv : ndV (repNd (O.length + (f 0).length - 1) 0 (-1) lz) = .agg #[.int .i64 6, .int .i64 ((O.length + (f 0).length - 1 : Nat) : Int), .int .i64 (-1), .int .i64 0, .int .i64 (-1), .int .i64 0, .bool lz, .int .u64 0, .int .u64 0, .int .u64 0, .int .u64 0] := by simp [ndV, repNd, wd_zero]
  have Hv : Hid _ := hv
  clear hv
  go_wp2_with fail
  rw [← Hv.out]
  refine (addS_any _ hSM1 hroom).mono ?_
  rintro v w2 ⟨rfl, hSM2, f2⟩
  rw [Hol.out]
  go_wp2_with fail
  go_ret
  refine ⟨?_, ?_, F1.trans f2 (fun _ _ h => h)⟩
  · rw [show O.length + (starW f lz 0).length - 1 = O.length + (f 0).length by have := Hsl.out; omega]
    rfl
  · have e : O ++ starW f lz O.length = O ++ f O.length ++ [repNd (O.length + (f 0).length - 1) 0 (-1) lz] := by
      unfold starW
      rw [hf.len, List.append_assoc]
    rw [e]
    exact hSM2
set_option maxRecDepth 100000 in
set_option maxHeartbeats 4000000 in
theorem unroll_zol {w : World} {s x : Nat} {O : List Nd} {ws : List Tk} {rs : List Nat} {f : Run} {kd na nb cp : Int} {st : BSet} (hf : Mv f) (hbdf : Bd f) {u : Nat} (hu1 : 1 ≤ u) (hu3 : u ≤ 3)
    (h : SM w s x (O ++ segsW f true (cnt false 0) O.length) ws ((O.length + 1 + (f 0).length - 1) :: rs)) (hrs : rs.length < 25) (hcap : O.length + (optW f true u 0).length ≤ 31) :
    Calls Tryz.prog 122 #[.pointer (some ⟨s, 0, none⟩), ndV ⟨kd, na, nb, 0, (u : Nat), cp, true, st⟩, .int .i64 ((O.length + 1 : Nat) : Int), .int .i64 (O.length : Nat)] w fun v w' => v = .returned (.int .i64 ((O.length + (optW f true u 0).length - 1 : Nat) : Int)) ∧ SM w' s x (O ++ optW f true u O.length) ws rs ∧ Fr (fun b => SBld s b) w w' := by
  have hne := hf.ne
  have Hseg : Hid (O ++ segsW f true (cnt false 0) O.length = O ++ segW f true O.length) := by
    show O ++ segsW f true 1 O.length = O ++ segW f true O.length
    show O ++ ([] ++ segW f true (O.length + 0 * segN f true)) = _
    rw [Nat.zero_mul, Nat.add_zero, List.nil_append]
  have Hol : Hid ((O ++ segsW f true (cnt false 0) O.length).length = O.length + 1 + (f 0).length) := by
    show (O ++ segsW f true (cnt false 0) O.length).length = O.length + 1 + (f 0).length
    rw [Hseg.out, List.length_append, segW_len hf]
    simp [segN]
    omega
  have Hrun : Hid (((O ++ segsW f true (cnt false 0) O.length).drop (O.length + 1)).take (f 0).length = f (O.length + 1)) := by
    show ((O ++ segsW f true (cnt false 0) O.length).drop (O.length + 1)).take (f 0).length = f (O.length + 1)
    rw [Hseg.out]
    have e : O ++ segW f true O.length = (O ++ [leafNd 0 noP]) ++ f (O.length + 1) := by simp [segW]
    rw [e, List.drop_left' (by simp), ← hf.len (O.length + 1), List.take_length]
  have huI : (u : Int) ≤ 3 := by omega
  have hu0 : decide (((u : Nat) : Int) < 0) = false := decide_eq_false (by omega)
  have hu1d : decide ((0 : Int) < (u : Nat)) = true := decide_eq_true (by omega)
  have FA := (Fr.refl (fun _ => False) w).alloc (.cells #[.int .i64 kd, .int .i64 na, .int .i64 nb, .int .i64 0, .int .i64 (u : Nat), .int .i64 cp, .bool true, .int .u64 (wd st 0 : Nat), .int .u64 (wd st 1 : Nat), .int .u64 (wd st 2 : Nat), .int .u64 (wd st 3 : Nat)] 97)
  have hA := h.idle FA
  have hN0 := Blk.nd w ⟨kd, na, nb, 0, (u : Nat), cp, true, st⟩
  have hsl : s + 5 < w.heap.size := by
    obtain ⟨_, _, _, _, _, _, _, _, _, _, hR, _⟩ := h
    exact hR.lt
  unfold ndV
  go_enter Tryz.func122, Tryz.ntmps122
  go_wp2_with fail
  refine (popRoot_any hA hrs).mono ?_
  rintro v w1 ⟨rfl, hSM1, f1⟩
  have hN1 := hN0.frame f1 (by unfold SBld; omega)
  have F1 := (FA.mono (S' := fun b => SBld s b) (fun _ _ h => h.elim)).trans f1 (fun _ _ h => h)
  clear FA hA hN0
  have n3 := hN1.cell (o := 3) (by omega)
  have n4 := hN1.cell (o := 4) (by omega)
  have n6 := hN1.cell (o := 6) (by omega)
  simp only [ndCell] at n3 n4 n6
  have lN := hN1.lt
  have hSM1' := hSM1
  obtain ⟨g, fo, fw, fr, hB, hL, _, _, _, _, _, _⟩ := hSM1'
  have c4 := hB.cell (o := 4) (by omega)
  rw [hL.n4] at c4
  have lB := hB.lt
  rw [Hol.out] at c4
  go_wp2_with fail
  refine wp_loop_rounds 1 ?_
  rw [rounds_succ]
  go_wp2_with fail
  refine (options_lazy hf hbdf false u (O.length + 1) (O.length + 1 + (f 0).length) (O.length : Nat) hu1 hu3 hSM1 rfl (by rw [Hol.out]; omega) Hrun.out (fun _ => ⟨rfl, rfl⟩) hcap).mono ?_
  rintro v w2 ⟨rfl, hSM2, f2⟩
  go_wp2_with fail
  go_ret
  exact ⟨rfl, hSM2, F1.trans f2 (fun _ _ h => h)⟩
set_option maxRecDepth 100000 in
set_option maxHeartbeats 4000000 in
theorem unroll_zog {w : World} {s x : Nat} {O : List Nd} {ws : List Tk} {rs : List Nat} {f : Run} {kd na nb cp : Int} {st : BSet} (hf : Mv f) (hbdf : Bd f) {u : Nat} (hu1 : 1 ≤ u) (hu3 : u ≤ 3)
    (h : SM w s x (O ++ segsW f false (cnt false 0) O.length) ws ((O.length + (f 0).length - 1) :: rs)) (hrs : rs.length < 25) (hcap : O.length + (optW f false u 0).length ≤ 31) :
    Calls Tryz.prog 122 #[.pointer (some ⟨s, 0, none⟩), ndV ⟨kd, na, nb, 0, (u : Nat), cp, false, st⟩, .int .i64 ((O.length : Nat) : Int), .int .i64 (-1)] w fun v w' => v = .returned (.int .i64 ((O.length + (optW f false u 0).length - 1 : Nat) : Int)) ∧ SM w' s x (O ++ optW f false u O.length) ws rs ∧ Fr (fun b => SBld s b) w w' := by
  have hne := hf.ne
  have Hseg : Hid (O ++ segsW f false (cnt false 0) O.length = O ++ segW f false O.length) := by
    show O ++ segsW f false 1 O.length = O ++ segW f false O.length
    show O ++ ([] ++ segW f false (O.length + 0 * segN f false)) = _
    rw [Nat.zero_mul, Nat.add_zero, List.nil_append]
  have Hol : Hid ((O ++ segsW f false (cnt false 0) O.length).length = O.length + (f 0).length) := by
    show (O ++ segsW f false (cnt false 0) O.length).length = O.length + (f 0).length
    rw [Hseg.out, List.length_append, segW_len hf]
    simp [segN]
  have Hrun : Hid (((O ++ segsW f false (cnt false 0) O.length).drop (O.length)).take (f 0).length = f (O.length)) := by
    show ((O ++ segsW f false (cnt false 0) O.length).drop (O.length)).take (f 0).length = f (O.length)
    rw [Hseg.out]
    have e : O ++ segW f false O.length = O ++ f O.length := by simp [segW]
    rw [e, List.drop_left' (by simp), ← hf.len (O.length), List.take_length]
  have huI : (u : Int) ≤ 3 := by omega
  have hu0 : decide (((u : Nat) : Int) < 0) = false := decide_eq_false (by omega)
  have hu1d : decide ((0 : Int) < (u : Nat)) = true := decide_eq_true (by omega)
  have FA := (Fr.refl (fun _ => False) w).alloc (.cells #[.int .i64 kd, .int .i64 na, .int .i64 nb, .int .i64 0, .int .i64 (u : Nat), .int .i64 cp, .bool false, .int .u64 (wd st 0 : Nat), .int .u64 (wd st 1 : Nat), .int .u64 (wd st 2 : Nat), .int .u64 (wd st 3 : Nat)] 97)
  have hA := h.idle FA
  have hN0 := Blk.nd w ⟨kd, na, nb, 0, (u : Nat), cp, false, st⟩
  have hsl : s + 5 < w.heap.size := by
    obtain ⟨_, _, _, _, _, _, _, _, _, _, hR, _⟩ := h
    exact hR.lt
  unfold ndV
  go_enter Tryz.func122, Tryz.ntmps122
  go_wp2_with fail
  refine (popRoot_any hA hrs).mono ?_
  rintro v w1 ⟨rfl, hSM1, f1⟩
  have hN1 := hN0.frame f1 (by unfold SBld; omega)
  have F1 := (FA.mono (S' := fun b => SBld s b) (fun _ _ h => h.elim)).trans f1 (fun _ _ h => h)
  clear FA hA hN0
  have n3 := hN1.cell (o := 3) (by omega)
  have n4 := hN1.cell (o := 4) (by omega)
  have n6 := hN1.cell (o := 6) (by omega)
  simp only [ndCell] at n3 n4 n6
  have lN := hN1.lt
  have hSM1' := hSM1
  obtain ⟨g, fo, fw, fr, hB, hL, _, _, _, _, _, _⟩ := hSM1'
  have c4 := hB.cell (o := 4) (by omega)
  rw [hL.n4] at c4
  have lB := hB.lt
  rw [Hol.out] at c4
  go_wp2_with fail
  refine wp_loop_rounds 1 ?_
  rw [rounds_succ]
  go_wp2_with fail
  refine (options_greedy hf hbdf false u (O.length) (O.length + (f 0).length) (-1) hu1 hu3 hSM1 rfl (by rw [Hol.out]; omega) Hrun.out (fun _ => ⟨rfl, rfl⟩) hcap).mono ?_
  rintro v w2 ⟨rfl, hSM2, f2⟩
  go_wp2_with fail
  go_ret
  exact ⟨rfl, hSM2, F1.trans f2 (fun _ _ h => h)⟩
end Go.Proofs.Qxb6500283aGreat
