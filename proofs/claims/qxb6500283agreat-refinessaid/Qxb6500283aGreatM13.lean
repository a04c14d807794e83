/- The model's build: repeats, options. -/
import Derived.Test.Qxb6500283aGreatM12
namespace Go.Proofs.Qxb6500283aGreat
open Go Go.RowKit

section
variable {ns out : List Nd} {bk cp r : Nat} {y g : Int} {w : World} {k A B m j : Nat} {mn mx cap : Int} {lz : Bool} {st : BSet} {F G : Run} {c : Nat} {OB : Nat → Prop}
set_option maxRecDepth 100000 in
set_option maxHeartbeats 16000000 in
theorem build_ro0 (hM : RM w r bk cp y g ns out OB) (hlen : out.length + ((optW F lz (j + 1) : Run) 0).length ≤ 31) (hk24 : (k : Int) < ns.length) (n0 : w.cell? ⟨bk, k * 11, none⟩ = some (.int .i64 6)) (n1 : w.cell? ⟨bk, k * 11 + 1, none⟩ = some (.int .i64 (A : Nat))) (n2 : w.cell? ⟨bk, k * 11 + 2, none⟩ = some (.int .i64 (-1))) (n3 : w.cell? ⟨bk, k * 11 + 3, none⟩ = some (.int .i64 (m : Nat))) (n4 : w.cell? ⟨bk, k * 11 + 4, none⟩ = some (.int .i64 mx)) (n5 : w.cell? ⟨bk, k * 11 + 5, none⟩ = some (.int .i64 cap)) (n6 : w.cell? ⟨bk, k * 11 + 6, none⟩ = some (.bool lz)) (n7 : w.cell? ⟨bk, k * 11 + 7, none⟩ = some (.int .u64 (wd st 0 : Nat))) (n8 : w.cell? ⟨bk, k * 11 + 8, none⟩ = some (.int .u64 (wd st 1 : Nat))) (n9 : w.cell? ⟨bk, k * 11 + 9, none⟩ = some (.int .u64 (wd st 2 : Nat))) (n10 : w.cell? ⟨bk, k * 11 + 10, none⟩ = some (.int .u64 (wd st 3 : Nat))) (hF : Mv F) (rF : RunC 105 ns bk cp y g A F) (hm : Hid (m = 0)) (hj2 : j < 3) (hx3 : mx ≤ 3) (hsub : mx - (m : Int) = ((j + 1 : Nat) : Int)) :
    Calls Tryz.prog 105 #[.pointer (some ⟨r, 0, none⟩), .int .i64 (k : Nat)] w (RunP w r bk cp y g ns out OB (optW F lz (j + 1))) := by
  obtain ⟨c0, c1, c2, c3, c4, hN, hrl, hbr⟩ := hM.cells
  have hbl : bk < w.heap.size := by omega
  have k0 := (Fr.refl (fun _ => False) w).alloc (.cells #[.int .i64 6, .int .i64 (A : Nat), .int .i64 (-1), .int .i64 (m : Nat), .int .i64 mx, .int .i64 cap, .bool lz, .int .u64 (wd st 0 : Nat), .int .u64 (wd st 1 : Nat), .int .u64 (wd st 2 : Nat), .int .u64 (wd st 3 : Nat)] 97)
  have hM0 := (hM.old.idle k0).mono (OB' := Up (Old OB w) (w.alloc (.cells #[.int .i64 6, .int .i64 (A : Nat), .int .i64 (-1), .int .i64 (m : Nat), .int .i64 mx, .int .i64 cap, .bool lz, .int .u64 (wd st 0 : Nat), .int .u64 (wd st 1 : Nat), .int .u64 (wd st 2 : Nat), .int .u64 (wd st 3 : Nat)] 97))) (fun _ h => .inl h)
  have G0 := Fr.refl (InR r (Old OB w)) (w.alloc (.cells #[.int .i64 6, .int .i64 (A : Nat), .int .i64 (-1), .int .i64 (m : Nat), .int .i64 mx, .int .i64 cap, .bool lz, .int .u64 (wd st 0 : Nat), .int .u64 (wd st 1 : Nat), .int .u64 (wd st 2 : Nat), .int .u64 (wd st 3 : Nat)] 97))
  have hX0 := Blk.nd w ⟨6, (A : Nat), (-1), (m : Nat), mx, cap, lz, st⟩
  have hFn := hF.ne
  have hmI : (m : Int) ≤ 3 := by have := hm.out; omega
  have hO := hF.opt lz (j + 1) (by omega)
  have hOn := hO.ne
  have hd1 : decide (mx < 0) = false := decide_eq_false (by omega)
  have hd2 : decide (mx > (m : Int)) = true := decide_eq_true (by omega)
  have Hcap : Hid (0 < m → out.length + (repsW F m 0).length ≤ 31) := fun h => by have := hm.out; omega
  go_enter Tryz.func105, Tryz.ntmps105
  go_wp2_with fail
  go_loopg [12, 11] m (fun gk kv av wr => ∃ (i : Nat) (ac : Int), kv = .int .i64 (i : Nat) ∧ i + gk = m ∧ av = .int .i64 ac ∧ ((i = 0 ∧ ac = -1) ∨ (0 < i ∧ ∃ a : Nat, ac = (a : Nat) ∧ Hid (a + 1 = out.length + (repsW F i 0).length))) ∧ RM wr r bk cp y g ns (out ++ repsW F i out.length) (Up (Old OB w) (w.alloc (.cells #[.int .i64 6, .int .i64 (A : Nat), .int .i64 (-1), .int .i64 (m : Nat), .int .i64 mx, .int .i64 cap, .bool lz, .int .u64 (wd st 0 : Nat), .int .u64 (wd st 1 : Nat), .int .u64 (wd st 2 : Nat), .int .u64 (wd st 3 : Nat)] 97))) ∧ Blk wr w.heap.size 11 (ndCell ⟨6, (A : Nat), (-1), (m : Nat), mx, cap, lz, st⟩) ∧ Fr (InR r (Old OB w)) (w.alloc (.cells #[.int .i64 6, .int .i64 (A : Nat), .int .i64 (-1), .int .i64 (m : Nat), .int .i64 mx, .int .i64 cap, .bool lz, .int .u64 (wd st 0 : Nat), .int .u64 (wd st 1 : Nat), .int .u64 (wd st 2 : Nat), .int .u64 (wd st 3 : Nat)] 97)) wr)
  case atStart => exact ⟨0, -1, rfl, by omega, rfl, .inl ⟨rfl, rfl⟩, by simpa [repsW] using hM0, hX0, G0⟩
  case round =>
    clear hM0 hX0 k0 hM n0 n1 n2 n3 n4 n5 n6 n7 n8 n9 n10 c0 c1 c2 c3 c4 hN
    obtain ⟨i, ac, rfl, hig', rfl, hac, hM0, hX0, G1⟩ := hrel
    have hig : i + gk = m := hig'
    clear hig' G0
    have hiI : (i : Int) ≤ 3 := by omega
    have x1 := hX0.cell (o := 1) (by omega)
    have x3 := hX0.cell (o := 3) (by omega)
    have x4 := hX0.cell (o := 4) (by omega)
    have x6 := hX0.cell (o := 6) (by omega)
    simp only [ndCell] at x1 x3 x4 x6
    have hXl := hX0.lt
    by_cases hlt : i < m
    · exact absurd hlt (by have := hm.out; omega)
    · have hd : decide ((i : Int) < m) = false := decide_eq_false (by omega)
      have him : i = m := by omega
      rcases hac with ⟨rfl, rfl⟩ | ⟨hi0, a, rfl, Ha⟩
      case inr => exact absurd hi0 (by have := hm.out; omega)
      clear him
      have hM1 : RM wr r bk cp y g ns out (Up (Old OB w) (w.alloc (.cells #[.int .i64 6, .int .i64 (A : Nat), .int .i64 (-1), .int .i64 (m : Nat), .int .i64 mx, .int .i64 cap, .bool lz, .int .u64 (wd st 0 : Nat), .int .u64 (wd st 1 : Nat), .int .u64 (wd st 2 : Nat), .int .u64 (wd st 3 : Nat)] 97))) := by simpa [repsW] using hM0
      clear hM0
      have hM0 := hM1
      clear hM1
      have hM1 := hM0
      have hX1 := hX0
      clear hM0 hX0
      go_wp2_with fail
      
      refine (optM_any hF rF lz j hj2 _ _ _ _ hM1 (by omega)).mono ?_
      rintro v w2 ⟨u, rfl, hu, hM2', f2⟩
      have hM2 := hM2'.mono (Up.up G1)
      have G2 := InR.trans G1 f2
      have Hu : Hid _ := hu
      clear hu hM2'
      have hz9 : decide ((u : Int) < 0) = false := decide_eq_false (by omega)
      go_wp2_with fail
      go_ret
      exact ⟨u, rfl, Hu.out, hM2.end, Old.end G2⟩
set_option maxRecDepth 100000 in
set_option maxHeartbeats 16000000 in
theorem build_ro (hM : RM w r bk cp y g ns out OB) (hlen : out.length + ((joinW catNd (repsW F m) (optW F lz (j + 1)) : Run) 0).length ≤ 31) (hk24 : (k : Int) < ns.length) (n0 : w.cell? ⟨bk, k * 11, none⟩ = some (.int .i64 6)) (n1 : w.cell? ⟨bk, k * 11 + 1, none⟩ = some (.int .i64 (A : Nat))) (n2 : w.cell? ⟨bk, k * 11 + 2, none⟩ = some (.int .i64 (-1))) (n3 : w.cell? ⟨bk, k * 11 + 3, none⟩ = some (.int .i64 (m : Nat))) (n4 : w.cell? ⟨bk, k * 11 + 4, none⟩ = some (.int .i64 mx)) (n5 : w.cell? ⟨bk, k * 11 + 5, none⟩ = some (.int .i64 cap)) (n6 : w.cell? ⟨bk, k * 11 + 6, none⟩ = some (.bool lz)) (n7 : w.cell? ⟨bk, k * 11 + 7, none⟩ = some (.int .u64 (wd st 0 : Nat))) (n8 : w.cell? ⟨bk, k * 11 + 8, none⟩ = some (.int .u64 (wd st 1 : Nat))) (n9 : w.cell? ⟨bk, k * 11 + 9, none⟩ = some (.int .u64 (wd st 2 : Nat))) (n10 : w.cell? ⟨bk, k * 11 + 10, none⟩ = some (.int .u64 (wd st 3 : Nat))) (hF : Mv F) (rF : RunC 105 ns bk cp y g A F) (hm1 : 1 ≤ m) (hm3 : m ≤ 3) (hj2 : j < 3) (hx3 : mx ≤ 3) (hsub : mx - (m : Int) = ((j + 1 : Nat) : Int)) :
    Calls Tryz.prog 105 #[.pointer (some ⟨r, 0, none⟩), .int .i64 (k : Nat)] w (RunP w r bk cp y g ns out OB (joinW catNd (repsW F m) (optW F lz (j + 1)))) := by
  obtain ⟨c0, c1, c2, c3, c4, hN, hrl, hbr⟩ := hM.cells
  have hbl : bk < w.heap.size := by omega
  have k0 := (Fr.refl (fun _ => False) w).alloc (.cells #[.int .i64 6, .int .i64 (A : Nat), .int .i64 (-1), .int .i64 (m : Nat), .int .i64 mx, .int .i64 cap, .bool lz, .int .u64 (wd st 0 : Nat), .int .u64 (wd st 1 : Nat), .int .u64 (wd st 2 : Nat), .int .u64 (wd st 3 : Nat)] 97)
  have hM0 := (hM.old.idle k0).mono (OB' := Up (Old OB w) (w.alloc (.cells #[.int .i64 6, .int .i64 (A : Nat), .int .i64 (-1), .int .i64 (m : Nat), .int .i64 mx, .int .i64 cap, .bool lz, .int .u64 (wd st 0 : Nat), .int .u64 (wd st 1 : Nat), .int .u64 (wd st 2 : Nat), .int .u64 (wd st 3 : Nat)] 97))) (fun _ h => .inl h)
  have G0 := Fr.refl (InR r (Old OB w)) (w.alloc (.cells #[.int .i64 6, .int .i64 (A : Nat), .int .i64 (-1), .int .i64 (m : Nat), .int .i64 mx, .int .i64 cap, .bool lz, .int .u64 (wd st 0 : Nat), .int .u64 (wd st 1 : Nat), .int .u64 (wd st 2 : Nat), .int .u64 (wd st 3 : Nat)] 97))
  have hX0 := Blk.nd w ⟨6, (A : Nat), (-1), (m : Nat), mx, cap, lz, st⟩
  have hFn := hF.ne
  have hmI : (m : Int) ≤ 3 := by omega
  have hO := hF.opt lz (j + 1) (by omega)
  have hOn := hO.ne
  have hd1 : decide (mx < 0) = false := decide_eq_false (by omega)
  have hd2 : decide (mx > (m : Int)) = true := decide_eq_true (by omega)
  rw [joinW_len (hF.reps m hm1) hO] at hlen
  have Hcap : Hid (0 < m → out.length + (repsW F m 0).length ≤ 31) := fun _ => by omega
  go_enter Tryz.func105, Tryz.ntmps105
  go_wp2_with fail
  go_loopg [12, 11] m (fun gk kv av wr => ∃ (i : Nat) (ac : Int), kv = .int .i64 (i : Nat) ∧ i + gk = m ∧ av = .int .i64 ac ∧ ((i = 0 ∧ ac = -1) ∨ (0 < i ∧ ∃ a : Nat, ac = (a : Nat) ∧ Hid (a + 1 = out.length + (repsW F i 0).length))) ∧ RM wr r bk cp y g ns (out ++ repsW F i out.length) (Up (Old OB w) (w.alloc (.cells #[.int .i64 6, .int .i64 (A : Nat), .int .i64 (-1), .int .i64 (m : Nat), .int .i64 mx, .int .i64 cap, .bool lz, .int .u64 (wd st 0 : Nat), .int .u64 (wd st 1 : Nat), .int .u64 (wd st 2 : Nat), .int .u64 (wd st 3 : Nat)] 97))) ∧ Blk wr w.heap.size 11 (ndCell ⟨6, (A : Nat), (-1), (m : Nat), mx, cap, lz, st⟩) ∧ Fr (InR r (Old OB w)) (w.alloc (.cells #[.int .i64 6, .int .i64 (A : Nat), .int .i64 (-1), .int .i64 (m : Nat), .int .i64 mx, .int .i64 cap, .bool lz, .int .u64 (wd st 0 : Nat), .int .u64 (wd st 1 : Nat), .int .u64 (wd st 2 : Nat), .int .u64 (wd st 3 : Nat)] 97)) wr)
  case atStart => exact ⟨0, -1, rfl, by omega, rfl, .inl ⟨rfl, rfl⟩, by simpa [repsW] using hM0, hX0, G0⟩
  case round =>
    clear hM0 hX0 k0 hM n0 n1 n2 n3 n4 n5 n6 n7 n8 n9 n10 c0 c1 c2 c3 c4 hN
    obtain ⟨i, ac, rfl, hig', rfl, hac, hM0, hX0, G1⟩ := hrel
    have hig : i + gk = m := hig'
    clear hig' G0
    have hiI : (i : Int) ≤ 3 := by omega
    have x1 := hX0.cell (o := 1) (by omega)
    have x3 := hX0.cell (o := 3) (by omega)
    have x4 := hX0.cell (o := 4) (by omega)
    have x6 := hX0.cell (o := 6) (by omega)
    simp only [ndCell] at x1 x3 x4 x6
    have hXl := hX0.lt
    by_cases hlt : i < m
    · have hd : decide ((i : Int) < m) = true := decide_eq_true (by omega)
      rcases hac with ⟨rfl, rfl⟩ | ⟨hi0, a, rfl, Ha⟩
      · have hM1 : RM wr r bk cp y g ns out (Up (Old OB w) (w.alloc (.cells #[.int .i64 6, .int .i64 (A : Nat), .int .i64 (-1), .int .i64 (m : Nat), .int .i64 mx, .int .i64 cap, .bool lz, .int .u64 (wd st 0 : Nat), .int .u64 (wd st 1 : Nat), .int .u64 (wd st 2 : Nat), .int .u64 (wd st 3 : Nat)] 97))) := by simpa [repsW] using hM0
        have hl1 : out.length + (F 0).length ≤ 31 := by
          have h1 := Hcap.out (by omega)
          have h2 := reps_le hF (i := 1) (m := m) (by omega) (by omega)
          have h3 : (repsW F 1 0).length = (F 0).length := rfl
          omega
        go_wp2_with fail
        refine (rF _ _ _ _ hM1 hl1).mono ?_
        rintro v w2 ⟨u, rfl, hu, hM2', f2⟩
        have hM2 := hM2'.mono (Up.up G1)
        have hX2 := hX0.frame f2 (by unfold InR Up Old; rw [World.size_alloc]; omega)
        have G2 := InR.trans G1 f2
        have Hu : Hid _ := hu
        clear hu hM2'
        go_wp2_with fail
        go_roundg (gk - 1)
        case measure => omega
        case rel => exact ⟨1, u, by simp, by omega, rfl, .inr ⟨by omega, u, rfl, Hu⟩, hM2, hX2, G2⟩
      · have Hlk : Hid ((out ++ repsW F i out.length).length = out.length + (repsW F i 0).length) := by
          show (out ++ repsW F i out.length).length = out.length + (repsW F i 0).length
          rw [List.length_append, (hF.reps i hi0).len]
        have Hnx := reps_next hF (i := i) hi0
        have hl1 : (out ++ repsW F i out.length).length + (F 0).length ≤ 30 := by
          have h1 := Hcap.out (by omega)
          have h2 := reps_le hF (i := i + 1) (m := m) (by omega) (by omega)
          have h3 := Hlk.out
          omega
        clear Hnx
        have hacc : decide ((a : Int) < 0) = false := decide_eq_false (by omega)
        go_wp2_with fail
        refine (rF _ _ _ _ hM0 (by omega)).mono ?_
        rintro v w2 ⟨u, rfl, hu, hM2', f2⟩
        have hM2 := hM2'.mono (Up.up G1)
        have hX2 := hX0.frame f2 (by unfold InR Up Old; rw [World.size_alloc]; omega)
        have G2 := InR.trans G1 f2
        have Hu : Hid _ := hu
        clear hu hM2'
        have hol : (out ++ repsW F i out.length ++ F (out ++ repsW F i out.length).length).length ≤ 31 := by rw [List.length_append, hF.len]; omega
        clear hM0 x1 x3 x4 x6 hl1
        go_wp2_with fail
        rw [← ndV_cat]
        refine (addU_any (catNd a u) hM2 hol).mono ?_
        rintro v w3 ⟨c3, C3, rfl, hM3', f3⟩
        have hM3 := hM3'.mono (Up.up G2)
        have hX3 := hX2.frame f3 (by have := G2.size; unfold InR Up Old; rw [World.size_alloc] at *; omega)
        have G3 := InR.trans G2 f3
        have hE := reps_tail hF hi0 Ha.out Hu.out
        rw [hE] at hM3
        clear hM3' hE
        go_wp2_with fail
        go_roundg (gk - 1)
        case measure => omega
        case rel => exact ⟨i + 1, c3, by simp, by omega, rfl, .inr ⟨by omega, c3, rfl, by show c3 + 1 = _; rw [C3.out, List.length_append, hF.len, Hlk.out, reps_next hF hi0]; omega⟩, hM3, hX3, G3⟩
    · have hd : decide ((i : Int) < m) = false := decide_eq_false (by omega)
      have him : i = m := by omega
      rcases hac with ⟨rfl, rfl⟩ | ⟨hi0, a, rfl, Ha⟩
      case inl => omega
      have hRm := hF.reps m hm1
      rw [him] at hM0 Ha
      have Hlk : Hid ((out ++ repsW F m out.length).length = out.length + (repsW F m 0).length) := by
        show (out ++ repsW F m out.length).length = out.length + (repsW F m 0).length
        rw [List.length_append, hRm.len]
      have hacc : decide ((a : Int) < 0) = false := decide_eq_false (by omega)
      have hM1 := hM0
      have hX1 := hX0
      clear hM0 hX0
      go_wp2_with fail
      
      refine (optM_any hF rF lz j hj2 _ _ _ _ hM1 (by have := Hlk.out; omega)).mono ?_
      rintro v w2 ⟨u, rfl, hu, hM2', f2⟩
      have hM2 := hM2'.mono (Up.up G1)
      have G2 := InR.trans G1 f2
      have Hu : Hid _ := hu
      clear hu hM2'
      have hz9 : decide ((u : Int) < 0) = false := decide_eq_false (by omega)
      clear hX1 x1 x3 x4 x6
      have hol2 : (out ++ repsW F m out.length ++ optW F lz (j + 1) (out ++ repsW F m out.length).length).length ≤ 31 := by have := Hlk.out; rw [List.length_append, hO.len]; omega
      go_wp2_with fail
      rw [← ndV_cat]
      refine (addU_any (catNd a u) hM2 hol2).mono ?_
      rintro _ w3 ⟨c8, Cc8, rfl, hM3', f3⟩
      have hM3 := hM3'.mono (Up.up G2)
      have G3 := InR.trans G2 f3
      clear hM3'
      go_wp2_with fail
      go_ret
      have hE2 := join_tail (mk := catNd) hRm hO Ha.out Hu.out
      rw [hE2] at hM3
      refine ⟨c8, rfl, ?_, hM3.end, Old.end G3⟩
      rw [Cc8.out, joinW_len hRm hO, List.length_append, Hlk.out, hO.len]
      omega
end
end Go.Proofs.Qxb6500283aGreat
