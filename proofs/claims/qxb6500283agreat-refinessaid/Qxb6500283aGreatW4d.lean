/- unroll. -/
import Derived.Test.Qxb6500283aGreatW4b
namespace Go.Proofs.Qxb6500283aGreat
open Go Go.RowKit

set_option maxRecDepth 100000 in
set_option maxHeartbeats 4000000 in
theorem unroll_pol {w : World} {s x : Nat} {O : List Nd} {ws : List Tk} {rs : List Nat} {f : Run} {kd na nb cp : Int} {st : BSet} (hf : Mv f) (hbdf : Bd f) {mn u : Nat} (hm1 : 1 ≤ mn) (hmu : mn < u) (hu3 : u ≤ 3)
    (h : SM w s x (O ++ f O.length) ws ((O.length + (f 0).length - 1) :: rs)) (hrs : rs.length < 25) (hcap : O.length + (joinW catNd (repsW f mn) (optW f true (u - mn)) 0).length ≤ 31) :
    Calls Tryz.prog 122 #[.pointer (some ⟨s, 0, none⟩), ndV ⟨kd, na, nb, (mn : Nat), (u : Nat), cp, true, st⟩, .int .i64 ((O.length : Nat) : Int), .int .i64 (-1)] w fun v w' => v = .returned (.int .i64 ((O.length + (joinW catNd (repsW f mn) (optW f true (u - mn)) 0).length - 1 : Nat) : Int)) ∧ SM w' s x (O ++ joinW catNd (repsW f mn) (optW f true (u - mn)) O.length) ws rs ∧ Fr (fun b => SBld s b) w w' := by
  have hne := hf.ne
  have hRm := hf.reps mn hm1
  have hcapR : O.length + (repsW f mn 0).length ≤ 31 := by
    rw [joinW_len hRm (hf.opt true (u - mn) (by omega))] at hcap; omega
  have Hl0 : Hid ((O ++ f O.length).length = O.length + (f 0).length) := by
    show (O ++ f O.length).length = O.length + (f 0).length
    rw [List.length_append, hf.len]
  have hmI : (mn : Int) ≤ 3 := by omega
  have huI : (u : Int) ≤ 3 := by omega
  have hu0 : decide (((u : Nat) : Int) < 0) = false := decide_eq_false (by omega)
  have hu1d : decide (((mn : Nat) : Int) < (u : Nat)) = true := decide_eq_true (by omega)
  have FA := (Fr.refl (fun _ => False) w).alloc (.cells #[.int .i64 kd, .int .i64 na, .int .i64 nb, .int .i64 (mn : Nat), .int .i64 (u : Nat), .int .i64 cp, .bool true, .int .u64 (wd st 0 : Nat), .int .u64 (wd st 1 : Nat), .int .u64 (wd st 2 : Nat), .int .u64 (wd st 3 : Nat)] 97)
  have hA := h.idle FA
  have hN0 := Blk.nd w ⟨kd, na, nb, (mn : Nat), (u : Nat), cp, true, st⟩
  have hsl : s + 5 < w.heap.size := by
    obtain ⟨_, _, _, _, _, _, _, _, _, _, hR, _⟩ := h
    exact hR.lt
  unfold ndV
  go_enter Tryz.func122, Tryz.ntmps122
  go_wp2_with fail
  refine (popRoot_any hA hrs).mono ?_
  rintro v w1 ⟨rfl, hSM1, f1⟩
  have hN1 := hN0.frame f1 (by unfold SBld; omega)
  have F1 := (FA.mono (S' := fun b => SBld s b) (fun _ _ h => h.elim)).trans f1 (fun _ _ h => h)
  clear FA hA hN0
  have n3 := hN1.cell (o := 3) (by omega)
  have n4 := hN1.cell (o := 4) (by omega)
  have n6 := hN1.cell (o := 6) (by omega)
  simp only [ndCell] at n3 n4 n6
  have lN := hN1.lt
  have hSM1' := hSM1
  obtain ⟨g, fo, fw, fr, hB, hL, _, _, _, _, _, _⟩ := hSM1'
  have c4 := hB.cell (o := 4) (by omega)
  rw [hL.n4] at c4
  have lB := hB.lt
  rw [Hl0.out] at c4
  have HBx : Hid _ := hB.lt
  clear hB hL
  go_wp2_with fail
  go_loopg [13, 11, 12] mn (fun gk kv av uv wr => ∃ k : Nat, kv = .int .i64 (k : Nat) ∧ k + gk = mn ∧ av = .int .i64 (if k = 0 then -1 else ((O.length + (repsW f k 0).length - 1 : Nat) : Int)) ∧ uv = .bool (decide (0 < k)) ∧ SM wr s x (O ++ repsW f (max 1 k) O.length) ws rs ∧ Blk wr w.heap.size 11 (ndCell ⟨kd, na, nb, (mn : Nat), (u : Nat), cp, true, st⟩) ∧ Fr (fun b => SBld s b) w wr)
  case atStart => exact ⟨0, rfl, by omega, by simp, by simp, hSM1, hN1, F1⟩
  case round =>
    clear hSM1 hN1 F1 n3 n4 n6 lN c4 lB
    obtain ⟨k, rfl, hkg, rfl, rfl, hSM, hN, hfr⟩ := hrel
    have hkg' : k + gk = mn := hkg
    clear hkg
    have hkI : (k : Int) ≤ 3 := by omega
    have n3 := hN.cell (o := 3) (by omega)
    have n4 := hN.cell (o := 4) (by omega)
    have n6 := hN.cell (o := 6) (by omega)
    simp only [ndCell] at n3 n4 n6
    have lN := hN.lt
    by_cases hlt : k < mn
    · have hkd : decide ((k : Int) < mn) = true := decide_eq_true (by omega)
      cases k with
      | zero =>
        have hz : decide (0 < 0) = false := by decide
        rw [if_pos rfl]
        go_wp2_with fail
        go_roundg (gk - 1)
        case measure => omega
        case rel => exact ⟨1, by simp, by omega, by rw [if_neg (by omega)]; simp [repsW], by simp, hSM, hN, hfr⟩
      | succ k =>
        have hz : decide (0 < k + 1) = true := by simp
        have hRk := hf.reps (k + 1) (by omega)
        have HLk : Hid ((O ++ repsW f (k + 1) O.length).length = O.length + (repsW f (k + 1) 0).length) := by
          show (O ++ repsW f (k + 1) O.length).length = O.length + (repsW f (k + 1) 0).length
          rw [List.length_append, hRk.len]
        have Hmax : Hid (max 1 (k + 1) = k + 1) := by show max 1 (k + 1) = k + 1; omega
        rw [Hmax.out] at hSM
        rw [if_neg (by omega)]
        have hnk : 1 ≤ (repsW f (k + 1) 0).length := hRk.ne
        have Hnext : Hid ((repsW f (k + 1 + 1) 0).length = (repsW f (k + 1) 0).length + (f 0).length + 1) := by
          show (joinW catNd (repsW f (k + 1)) f 0).length = _
          rw [joinW_len hRk hf]
        have hle2 : (repsW f (k + 1 + 1) 0).length ≤ (repsW f mn 0).length := by
          have a1 := repsW_len hf (k + 1 + 1) (by omega)
          have a2 := repsW_len hf mn hm1
          have a3 : (k + 1 + 1) * ((f 0).length + 1) ≤ mn * ((f 0).length + 1) := Nat.mul_le_mul_right _ (by omega)
          omega
        have hrun : Hid (((O ++ repsW f (k + 1) O.length).drop O.length).take (f 0).length = f O.length) := by
          show ((O ++ repsW f (k + 1) O.length).drop O.length).take (f 0).length = f O.length
          obtain ⟨more, hmore⟩ := repsW_pre f (k + 1) (by omega) O.length
          rw [hmore, List.drop_left, List.take_left' (hf.len _)]
        go_wp2_with fail
        refine (copyF hf hbdf hSM O.length rfl hrun.out (by have := HLk.out; have := repsW_ge hf (k := k + 1) (by omega); omega) (by have := HLk.out; have := Hnext.out; omega)).mono ?_
        rintro v w2 ⟨rfl, hSM2, f2⟩
        rw [HLk.out] at hSM2 ⊢
        have hN2 := hN.frame f2 (by unfold SBld; omega)
        have F2 := hfr.trans f2 (fun _ _ h => h)
        have HL2 : Hid ((O ++ repsW f (k + 1) O.length ++ f (O.length + (repsW f (k + 1) 0).length)).length = O.length + (repsW f (k + 1) 0).length + (f 0).length) := by
          show (O ++ repsW f (k + 1) O.length ++ f (O.length + (repsW f (k + 1) 0).length)).length = O.length + (repsW f (k + 1) 0).length + (f 0).length
          rw [List.length_append, HLk.out, hf.len]
        have hr2 : (O ++ repsW f (k + 1) O.length ++ f (O.length + (repsW f (k + 1) 0).length)).length < 31 := by have := HL2.out; have := Hnext.out; omega
        have hacc : decide (((O.length + (repsW f (k + 1) 0).length - 1 : Nat) : Int) < 0) = false := decide_eq_false (by omega)
        clear hSM hN hfr n3 n4 n6 lN
        have n3 := hN2.cell (o := 3) (by omega)
        have n4 := hN2.cell (o := 4) (by omega)
        have n6 := hN2.cell (o := 6) (by omega)
        simp only [ndCell] at n3 n4 n6
        have lN := hN2.lt
        generalize hR1 : (repsW f (k + 1) 0).length = R1 at *
        have HR1 : Hid _ := hR1
        clear hR1
        go_wp2_with fail
        refine (node_any 4 _ _ hSM2 hr2).mono ?_
        rintro v w3 ⟨rfl, hSM3, f3⟩
        rw [HL2.out]
        have Hnew : Hid (O ++ repsW f (max 1 (k + 1 + 1)) O.length = O ++ repsW f (k + 1) O.length ++ f (O.length + R1) ++ [(⟨4, ((O.length + R1 - 1 : Nat) : Int), ((O.length + R1 + (f 0).length - 1 : Nat) : Int), 0, 0, 0, false, noP⟩ : Nd)]) := by
          show O ++ repsW f (max 1 (k + 1 + 1)) O.length = O ++ repsW f (k + 1) O.length ++ f (O.length + R1) ++ [(⟨4, ((O.length + R1 - 1 : Nat) : Int), ((O.length + R1 + (f 0).length - 1 : Nat) : Int), 0, 0, 0, false, noP⟩ : Nd)]
          rw [show max 1 (k + 1 + 1) = k + 2 by omega]
          show O ++ joinW catNd (repsW f (k + 1)) f O.length = _
          unfold joinW
          rw [hRk.len, HR1.out, hf.len]
          simp [catNd]
        go_wp2_with fail
        go_roundg (gk - 1)
        case measure => omega
        case rel =>
          refine ⟨k + 1 + 1, by simp, by omega, ?_, by simp, by rw [Hnew.out]; exact hSM3, hN2.frame f3 (by unfold SBld; omega), F2.trans f3 (fun _ _ h => h)⟩
          rw [if_neg (by omega)]
          congr 2
          have := Hnext.out
          omega
    · have hkd : decide ((k : Int) < mn) = false := decide_eq_false (by omega)
      obtain rfl : k = mn := by omega
      have Hmax : Hid (max 1 k = k) := by show max 1 k = k; omega
      rw [Hmax.out] at hSM
      rw [if_neg (by omega)]
      have HLk : Hid ((O ++ repsW f k O.length).length = O.length + (repsW f k 0).length) := by
        show (O ++ repsW f k O.length).length = O.length + (repsW f k 0).length
        rw [List.length_append, hRm.len]
      have hnk : 1 ≤ (repsW f k 0).length := hRm.ne
      have hz : decide (0 < k) = true := decide_eq_true (by omega)
      have hrun : Hid (((O ++ repsW f k O.length).drop O.length).take (f 0).length = f O.length) := by
        show ((O ++ repsW f k O.length).drop O.length).take (f 0).length = f O.length
        obtain ⟨more, hmore⟩ := repsW_pre f k hm1 O.length
        rw [hmore, List.drop_left, List.take_left' (hf.len _)]
      have hacc : decide (((O.length + (repsW f k 0).length - 1 : Nat) : Int) < 0) = false := decide_eq_false (by omega)
      have hO := hf.opt true (u - k) (by omega)
      have Hjl : Hid _ := joinW_len (mk := catNd) hRm hO 0
      have hRg := repsW_ge hf (k := k) hm1
      have hSM' : SM wr s x ((O ++ repsW f k O.length) ++ segsW f true (cnt true 0) (O ++ repsW f k O.length).length) ws rs := by
        show SM wr s x ((O ++ repsW f k O.length) ++ []) ws rs
        rw [List.append_nil]
        exact hSM
      have Hrun2 : Hid (((O ++ repsW f k O.length ++ segsW f true (cnt true 0) (O ++ repsW f k O.length).length).drop O.length).take (f 0).length = f O.length) := by
        show ((O ++ repsW f k O.length ++ []).drop O.length).take (f 0).length = f O.length
        rw [List.append_nil]
        exact hrun.out
      have Hsub : Hid (((u : Nat) : Int) - (k : Nat) = ((u - k : Nat) : Int)) := by show ((u : Nat) : Int) - (k : Nat) = ((u - k : Nat) : Int); omega
      go_wp2_with fail
      rw [Hsub.out]
      refine (options_lazy hf hbdf true (u - k) O.length (O.length + (f 0).length) (-1) (by omega) (by omega) hSM' rfl (by show _ ≤ ((O ++ repsW f k O.length) ++ []).length; rw [List.append_nil]; have := HLk.out; omega) Hrun2.out (fun h => by cases h) (by have := HLk.out; have := Hjl.out; omega)).mono ?_
      rintro v w2 ⟨rfl, hSM2, f2⟩
      rw [HLk.out] at hSM2 ⊢
      have hN2 := hN.frame f2 (by unfold SBld; omega)
      have F2 := hfr.trans f2 (fun _ _ h => h)
      have HL2 : Hid ((O ++ repsW f k O.length ++ optW f true (u - k) (O.length + (repsW f k 0).length)).length = O.length + (repsW f k 0).length + (optW f true (u - k) 0).length) := by
        show (O ++ repsW f k O.length ++ optW f true (u - k) (O.length + (repsW f k 0).length)).length = O.length + (repsW f k 0).length + (optW f true (u - k) 0).length
        rw [List.length_append, HLk.out, hO.len]
      have hr2 : (O ++ repsW f k O.length ++ optW f true (u - k) (O.length + (repsW f k 0).length)).length < 31 := by have := HL2.out; have := Hjl.out; omega
      have hon := hO.ne
      clear hSM hSM' hN hfr n3 n4 n6 lN
      have n3 := hN2.cell (o := 3) (by omega)
      have n4 := hN2.cell (o := 4) (by omega)
      have n6 := hN2.cell (o := 6) (by omega)
      simp only [ndCell] at n3 n4 n6
      have lN := hN2.lt
      generalize hR1 : (repsW f k 0).length = R1 at *
      have HR1 : Hid _ := hR1
      clear hR1
      generalize hT1 : (optW f true (u - k) 0).length = T1 at *
      have HT1 : Hid _ := hT1
      clear hT1
      have htl : decide (((O.length + R1 + T1 - 1 : Nat) : Int) < 0) = false := decide_eq_false (by omega)
      go_wp2_with fail
      refine (node_any 4 _ _ hSM2 hr2).mono ?_
      rintro v w3 ⟨rfl, hSM3, f3⟩
      rw [HL2.out]
      go_wp2_with fail
      go_ret
      refine ⟨?_, ?_, F2.trans f3 (fun _ _ h => h)⟩
      · rw [show O.length + (joinW catNd (repsW f k) (optW f true (u - k)) 0).length - 1 = O.length + R1 + T1 by have := Hjl.out; omega]
        rfl
      · have e : O ++ joinW catNd (repsW f k) (optW f true (u - k)) O.length = O ++ repsW f k O.length ++ optW f true (u - k) (O.length + R1) ++ [(⟨4, ((O.length + R1 - 1 : Nat) : Int), ((O.length + R1 + T1 - 1 : Nat) : Int), 0, 0, 0, false, noP⟩ : Nd)] := by
          unfold joinW
          rw [hRm.len, HR1.out, hO.len, HT1.out]
          simp [catNd]
        rw [e]
        exact hSM3
end Go.Proofs.Qxb6500283aGreat
