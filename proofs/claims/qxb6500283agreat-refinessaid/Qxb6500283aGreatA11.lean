/- The model's count. -/
import Derived.Test.Qxb6500283aGreatA10
namespace Go.Proofs.Qxb6500283aGreat
open Go Go.RowKit

def countM (p : ByteArray) (i : Nat) : Option (Option (Int × Int × Nat)) := if i < p.size ∧ signB (bt p i) = true then some (count p i) else none
def CtPost (w : World) (x : Nat) (f : Nat → Value) (o : Option (Option (Int × Int × Nat))) (q : Nat) (e : Ending) (w' : World) : Prop :=
  match o with
  | some (some (lo, hi, j)) => e = .returned (.tuple #[.int .i64 lo, .int .i64 hi, .bool true]) ∧ LexOk w w' x 6 f j
  | some none => e = .returned (.tuple #[.int .i64 0, .int .i64 0, .bool false]) ∧ LexErr w w' x 6 4 5 f 3 q
  | none => e = .returned (.tuple #[.int .i64 0, .int .i64 0, .bool false]) ∧ LexOk w w' x 6 f q
set_option maxRecDepth 100000 in
set_option maxHeartbeats 8000000 in
theorem countM_any {w : World} {x : Nat} {f : Nat → Value} {p : ByteArray} {i : Nat} (hb : Blk w x 6 f) (h0 : f 0 = .string p) (h1 : f 1 = .int .i64 (i : Nat)) (h4 : f 4 = .int .i64 0) (hsz : p.size ≤ 129) (hi : i ≤ p.size) :
    Calls Tryz.prog 152 #[.pointer (some ⟨x, 0, none⟩)] w (CtPost w x f (countM p i) i) := by
  have c0 := hb.cell (o := 0) (by omega)
  have c1 := hb.cell (o := 1) (by omega)
  rw [h0] at c0
  rw [h1] at c1
  have z := hb.frozen
  have hself := hb.congr (fun o _ => upd_id h1 o)
  have F0 := Fr.refl (fun b => b = x) w
  go_enter Tryz.func152, Tryz.ntmps152
  by_cases hlt : i < p.size
  · have Hbt : Hid _ := bt_at p i hlt
    have hcm : countM p i = if signB (bt p i) = true then some (count p i) else none := by
      unfold countM
      by_cases hs : signB (bt p i) = true
      · rw [if_pos ⟨hlt, hs⟩, if_pos hs]
      · rw [if_neg (fun e => hs e.2), if_neg hs]
    go_wp2_with fail
    refine wp_region_text (by kernel_rfl) (by kernel_rfl) ?_
    go_wp2_with fail
    refine ⟨by kernel_rfl, ?_⟩
    go_wp2_with fail
    refine wp_region_text (by kernel_rfl) (by kernel_rfl) ?_
    go_wp2_with fail
    refine ⟨by kernel_rfl, ?_⟩
    rw [← Hbt.out]
    clear Hbt
    generalize hcc : bt p i = c at *
    by_cases h42 : c = 42
    · subst h42
      have hE : countM p i = some (some (0, -1, i + 1)) := by
        rw [hcm, if_pos (by rfl)]
        simp [count, hcc]
      have HE : Hid _ := hE
      clear hE hcm
      go_wp2_with fail
      exact bodyPost_ret (v := .tuple #[.int .i64 (0), .int .i64 (-1), .bool true]) (by simp [results, Tryz.results152, go_sem]) rfl (by unfold CtPost; rw [HE.out]; exact ⟨rfl, (hb.set 1 (.int .i64 ((i : Int) + 1))).drew.drew, (F0.setC x 1 (.int .i64 ((i : Int) + 1)) (fun _ => rfl)).drew.drew⟩)
    by_cases h43 : c = 43
    · subst h43
      have hE : countM p i = some (some (1, -1, i + 1)) := by
        rw [hcm, if_pos (by rfl)]
        simp [count, hcc]
      have HE : Hid _ := hE
      clear hE hcm
      go_wp2_with fail
      exact bodyPost_ret (v := .tuple #[.int .i64 (1), .int .i64 (-1), .bool true]) (by simp [results, Tryz.results152, go_sem]) rfl (by unfold CtPost; rw [HE.out]; exact ⟨rfl, (hb.set 1 (.int .i64 ((i : Int) + 1))).drew.drew, (F0.setC x 1 (.int .i64 ((i : Int) + 1)) (fun _ => rfl)).drew.drew⟩)
    by_cases h63 : c = 63
    · subst h63
      have hE : countM p i = some (some (0, 1, i + 1)) := by
        rw [hcm, if_pos (by rfl)]
        simp [count, hcc]
      have HE : Hid _ := hE
      clear hE hcm
      go_wp2_with fail
      exact bodyPost_ret (v := .tuple #[.int .i64 (0), .int .i64 (1), .bool true]) (by simp [results, Tryz.results152, go_sem]) rfl (by unfold CtPost; rw [HE.out]; exact ⟨rfl, (hb.set 1 (.int .i64 ((i : Int) + 1))).drew.drew, (F0.setC x 1 (.int .i64 ((i : Int) + 1)) (fun _ => rfl)).drew.drew⟩)
    by_cases h123 : c = 123
    · subst h123
      have hE0 : countM p i = some (brace p i) := by
        rw [hcm, if_pos (by rfl)]
        simp [count, hcc]
      rw [brace_eq] at hE0
      clear hcm
      go_wp2_with fail
      refine (numM_any (i := i + 1) (hb.set 1 (.int .i64 ((i : Int) + 1))).drew.drew (by rw [upd_other _ _ _ _ (by omega), h0]) (upd_same _ _ _) hsz (by omega)).mono ?_
      rintro e w1 ⟨rfl, hb1, f1⟩
      have hjl := (num_le (p := p) (i := i + 1) (by omega)).1
      generalize num p (i + 1) = l at *
      obtain ⟨lo, j⟩ := l
      simp only at hb1 hjl hE0
      replace hb1 := hb1.congr (fun o ho => upd_upd f 1 _ _ o 6 ho)
      have F1 := ((F0.setC x 1 (.int .i64 ((i : Int) + 1)) (fun _ => rfl)).drew.drew).trans f1 (fun _ _ h => h)
      clear c0 c1 z hself
      go_wp2_with fail
      refine (isM_any hb1 (by rw [upd_other _ _ _ _ (by omega), h0]) (upd_same _ _ _) 44).mono ?_
      rintro e w2 ⟨rfl, hb2, f2⟩
      have F2 := F1.trans f2 (fun _ _ h => h.elim)
      have a0 := hb2.cell (o := 0) (by omega)
      rw [upd_other _ _ _ _ (by omega), h0] at a0
      have a1 := hb2.cell (o := 1) (by omega)
      rw [upd_same] at a1
      have z2 := hb2.frozen
      cases hc : isB p j 44 with
      | true =>
        rw [hiOf_yes hc] at hE0
        obtain ⟨g1, g2⟩ := isB_lt hc
        go_wp2_with fail
        refine (numM_any (i := j + 1) (hb2.set 1 (.int .i64 ((j : Int) + 1))) (by rw [upd_other _ _ _ _ (by omega), upd_other _ _ _ _ (by omega), h0]) (upd_same _ _ _) hsz (by omega)).mono ?_
        rintro e w3 ⟨rfl, hb3, f3⟩
        have hkl := (num_le (p := p) (i := j + 1) (by omega)).1
        generalize num p (j + 1) = l2 at *
        obtain ⟨hi2, k⟩ := l2
        simp only at hb3 hkl
        replace hb3 := hb3.congr (fun o ho => (upd_upd (upd f 1 _) 1 _ _ o 6 ho).trans (upd_upd f 1 _ _ o 6 ho))
        have F3 := (F2.setC x 1 (.int .i64 ((j : Int) + 1)) (fun _ => rfl)).trans f3 (fun _ _ h => h)
        clear a0 a1 z2
        by_cases q1 : lo < 0
        · have hE := hE0.trans (congrArg some (brOf_no (p := p) (lo := lo) (hi := hi2) (k := k) (by omega)))
          have HE : Hid _ := hE
          clear hE
          go_wp2_with fail
          refine (failM_any hb3 0 (by rw [upd_other _ _ _ _ (by omega), h4]) 3 i).mono ?_
          rintro e w9 ⟨rfl, hb9, f9⟩
          rw [if_pos rfl] at hb9
          go_wp2_with fail
          exact bodyPost_ret (v := .tuple #[.int .i64 0, .int .i64 0, .bool false]) (by simp [results, Tryz.results152, go_sem]) rfl (by unfold CtPost; rw [HE.out]; exact ⟨rfl, ⟨k, by omega, hb9⟩, F3.trans f9 (fun _ _ h => h)⟩)
        by_cases q2 : 3 < lo
        · have hE := hE0.trans (congrArg some (brOf_no (p := p) (lo := lo) (hi := hi2) (k := k) (by omega)))
          have HE : Hid _ := hE
          clear hE
          go_wp2_with fail
          refine (failM_any hb3 0 (by rw [upd_other _ _ _ _ (by omega), h4]) 3 i).mono ?_
          rintro e w9 ⟨rfl, hb9, f9⟩
          rw [if_pos rfl] at hb9
          go_wp2_with fail
          exact bodyPost_ret (v := .tuple #[.int .i64 0, .int .i64 0, .bool false]) (by simp [results, Tryz.results152, go_sem]) rfl (by unfold CtPost; rw [HE.out]; exact ⟨rfl, ⟨k, by omega, hb9⟩, F3.trans f9 (fun _ _ h => h)⟩)
        by_cases q3 : 3 < hi2
        · have hE := hE0.trans (congrArg some (brOf_no (p := p) (lo := lo) (hi := hi2) (k := k) (by omega)))
          have HE : Hid _ := hE
          clear hE
          go_wp2_with fail
          refine (failM_any hb3 0 (by rw [upd_other _ _ _ _ (by omega), h4]) 3 i).mono ?_
          rintro e w9 ⟨rfl, hb9, f9⟩
          rw [if_pos rfl] at hb9
          go_wp2_with fail
          exact bodyPost_ret (v := .tuple #[.int .i64 0, .int .i64 0, .bool false]) (by simp [results, Tryz.results152, go_sem]) rfl (by unfold CtPost; rw [HE.out]; exact ⟨rfl, ⟨k, by omega, hb9⟩, F3.trans f9 (fun _ _ h => h)⟩)
        by_cases q4 : hi2 < 0
        · go_wp2_with fail
          refine (isM_any hb3 (by rw [upd_other _ _ _ _ (by omega), h0]) (upd_same _ _ _) 125).mono ?_
          rintro e w8 ⟨rfl, hb8, f8⟩
          have F8 := F3.trans f8 (fun _ _ h => h.elim)
          have p0 := hb8.cell (o := 0) (by omega)
          have p1 := hb8.cell (o := 1) (by omega)
          rw [upd_same] at p1
          have z8 := hb8.frozen
          cases hc2 : isB p k 125 with
          | false =>
            have hE := hE0.trans (congrArg some (brOf_no (p := p) (lo := lo) (hi := hi2) (k := k) (by rw [hc2]; simp)))
            have HE : Hid _ := hE
            clear hE
            go_wp2_with fail
            refine (failM_any hb8 0 (by rw [upd_other _ _ _ _ (by omega), h4]) 3 i).mono ?_
            rintro e w9 ⟨rfl, hb9, f9⟩
            rw [if_pos rfl] at hb9
            go_wp2_with fail
            exact bodyPost_ret (v := .tuple #[.int .i64 0, .int .i64 0, .bool false]) (by simp [results, Tryz.results152, go_sem]) rfl (by unfold CtPost; rw [HE.out]; exact ⟨rfl, ⟨k, by omega, hb9⟩, F8.trans f9 (fun _ _ h => h)⟩)
          | true =>
            have hE := hE0.trans (congrArg some (brOf_yes (p := p) (lo := lo) (hi := hi2) (k := k) ⟨hc2, by omega, by omega, by omega, by omega⟩))
            have HE : Hid _ := hE
            clear hE
            go_wp2_with fail
            exact bodyPost_ret (v := .tuple #[.int .i64 lo, .int .i64 hi2, .bool true]) (by simp [results, Tryz.results152, go_sem]) rfl (by unfold CtPost; rw [HE.out]; exact ⟨rfl, (hb8.set 1 (.int .i64 ((k : Int) + 1))).congr (fun o ho => upd_upd f 1 _ _ o 6 ho), F8.setC x 1 (.int .i64 ((k : Int) + 1)) (fun _ => rfl)⟩)
        by_cases q5 : hi2 < lo
        · have hE := hE0.trans (congrArg some (brOf_no (p := p) (lo := lo) (hi := hi2) (k := k) (by omega)))
          have HE : Hid _ := hE
          clear hE
          go_wp2_with fail
          refine (failM_any hb3 0 (by rw [upd_other _ _ _ _ (by omega), h4]) 3 i).mono ?_
          rintro e w9 ⟨rfl, hb9, f9⟩
          rw [if_pos rfl] at hb9
          go_wp2_with fail
          exact bodyPost_ret (v := .tuple #[.int .i64 0, .int .i64 0, .bool false]) (by simp [results, Tryz.results152, go_sem]) rfl (by unfold CtPost; rw [HE.out]; exact ⟨rfl, ⟨k, by omega, hb9⟩, F3.trans f9 (fun _ _ h => h)⟩)
        go_wp2_with fail
        refine (isM_any hb3 (by rw [upd_other _ _ _ _ (by omega), h0]) (upd_same _ _ _) 125).mono ?_
        rintro e w8 ⟨rfl, hb8, f8⟩
        have F8 := F3.trans f8 (fun _ _ h => h.elim)
        have p0 := hb8.cell (o := 0) (by omega)
        have p1 := hb8.cell (o := 1) (by omega)
        rw [upd_same] at p1
        have z8 := hb8.frozen
        cases hc2 : isB p k 125 with
        | false =>
          have hE := hE0.trans (congrArg some (brOf_no (p := p) (lo := lo) (hi := hi2) (k := k) (by rw [hc2]; simp)))
          have HE : Hid _ := hE
          clear hE
          go_wp2_with fail
          refine (failM_any hb8 0 (by rw [upd_other _ _ _ _ (by omega), h4]) 3 i).mono ?_
          rintro e w9 ⟨rfl, hb9, f9⟩
          rw [if_pos rfl] at hb9
          go_wp2_with fail
          exact bodyPost_ret (v := .tuple #[.int .i64 0, .int .i64 0, .bool false]) (by simp [results, Tryz.results152, go_sem]) rfl (by unfold CtPost; rw [HE.out]; exact ⟨rfl, ⟨k, by omega, hb9⟩, F8.trans f9 (fun _ _ h => h)⟩)
        | true =>
          have hE := hE0.trans (congrArg some (brOf_yes (p := p) (lo := lo) (hi := hi2) (k := k) ⟨hc2, by omega, by omega, by omega, by omega⟩))
          have HE : Hid _ := hE
          clear hE
          go_wp2_with fail
          exact bodyPost_ret (v := .tuple #[.int .i64 lo, .int .i64 hi2, .bool true]) (by simp [results, Tryz.results152, go_sem]) rfl (by unfold CtPost; rw [HE.out]; exact ⟨rfl, (hb8.set 1 (.int .i64 ((k : Int) + 1))).congr (fun o ho => upd_upd f 1 _ _ o 6 ho), F8.setC x 1 (.int .i64 ((k : Int) + 1)) (fun _ => rfl)⟩)
      | false =>
        rw [hiOf_no hc] at hE0
        by_cases q1 : lo < 0
        · have hE := hE0.trans (congrArg some (brOf_no (p := p) (lo := lo) (hi := lo) (k := j) (by omega)))
          have HE : Hid _ := hE
          clear hE
          go_wp2_with fail
          refine (failM_any hb2 0 (by rw [upd_other _ _ _ _ (by omega), h4]) 3 i).mono ?_
          rintro e w9 ⟨rfl, hb9, f9⟩
          rw [if_pos rfl] at hb9
          go_wp2_with fail
          exact bodyPost_ret (v := .tuple #[.int .i64 0, .int .i64 0, .bool false]) (by simp [results, Tryz.results152, go_sem]) rfl (by unfold CtPost; rw [HE.out]; exact ⟨rfl, ⟨j, by omega, hb9⟩, F2.trans f9 (fun _ _ h => h)⟩)
        by_cases q2 : 3 < lo
        · have hE := hE0.trans (congrArg some (brOf_no (p := p) (lo := lo) (hi := lo) (k := j) (by omega)))
          have HE : Hid _ := hE
          clear hE
          go_wp2_with fail
          refine (failM_any hb2 0 (by rw [upd_other _ _ _ _ (by omega), h4]) 3 i).mono ?_
          rintro e w9 ⟨rfl, hb9, f9⟩
          rw [if_pos rfl] at hb9
          go_wp2_with fail
          exact bodyPost_ret (v := .tuple #[.int .i64 0, .int .i64 0, .bool false]) (by simp [results, Tryz.results152, go_sem]) rfl (by unfold CtPost; rw [HE.out]; exact ⟨rfl, ⟨j, by omega, hb9⟩, F2.trans f9 (fun _ _ h => h)⟩)
        go_wp2_with fail
        refine (isM_any hb2 (by rw [upd_other _ _ _ _ (by omega), h0]) (upd_same _ _ _) 125).mono ?_
        rintro e w8 ⟨rfl, hb8, f8⟩
        have F8 := F2.trans f8 (fun _ _ h => h.elim)
        have p0 := hb8.cell (o := 0) (by omega)
        have p1 := hb8.cell (o := 1) (by omega)
        rw [upd_same] at p1
        have z8 := hb8.frozen
        cases hc2 : isB p j 125 with
        | false =>
          have hE := hE0.trans (congrArg some (brOf_no (p := p) (lo := lo) (hi := lo) (k := j) (by rw [hc2]; simp)))
          have HE : Hid _ := hE
          clear hE
          go_wp2_with fail
          refine (failM_any hb8 0 (by rw [upd_other _ _ _ _ (by omega), h4]) 3 i).mono ?_
          rintro e w9 ⟨rfl, hb9, f9⟩
          rw [if_pos rfl] at hb9
          go_wp2_with fail
          exact bodyPost_ret (v := .tuple #[.int .i64 0, .int .i64 0, .bool false]) (by simp [results, Tryz.results152, go_sem]) rfl (by unfold CtPost; rw [HE.out]; exact ⟨rfl, ⟨j, by omega, hb9⟩, F8.trans f9 (fun _ _ h => h)⟩)
        | true =>
          have hE := hE0.trans (congrArg some (brOf_yes (p := p) (lo := lo) (hi := lo) (k := j) ⟨hc2, by omega, by omega, by omega, by omega⟩))
          have HE : Hid _ := hE
          clear hE
          go_wp2_with fail
          exact bodyPost_ret (v := .tuple #[.int .i64 lo, .int .i64 lo, .bool true]) (by simp [results, Tryz.results152, go_sem]) rfl (by unfold CtPost; rw [HE.out]; exact ⟨rfl, (hb8.set 1 (.int .i64 ((j : Int) + 1))).congr (fun o ho => upd_upd f 1 _ _ o 6 ho), F8.setC x 1 (.int .i64 ((j : Int) + 1)) (fun _ => rfl)⟩)
    have hs : signB c = false := by simp [signB, h42, h43, h63, h123]
    have hE : countM p i = none := by rw [hcm, if_neg (by rw [hs]; simp)]
    have HE : Hid _ := hE
    clear hE hcm
    go_wp2_with fail
    exact bodyPost_ret (v := .tuple #[.int .i64 0, .int .i64 0, .bool false]) (by simp [results, Tryz.results152, go_sem]) rfl (by unfold CtPost; rw [HE.out]; exact ⟨rfl, hself.drew.drew, F0.drew.drew⟩)
  · have hE : countM p i = none := by unfold countM; rw [if_neg (fun e => hlt e.1)]
    have HE : Hid _ := hE
    clear hE
    go_wp2_with fail
    refine wp_region_text (by kernel_rfl) (by kernel_rfl) ?_
    go_wp2_with fail
    refine ⟨by kernel_rfl, ?_⟩
    go_wp2_with fail
    exact bodyPost_ret (v := .tuple #[.int .i64 0, .int .i64 0, .bool false]) (by simp [results, Tryz.results152, go_sem]) rfl (by unfold CtPost; rw [HE.out]; exact ⟨rfl, hself.drew, F0.drew⟩)
end Go.Proofs.Qxb6500283aGreat
