/- Braces: the real side. -/
import Derived.Test.Qxb6500283aGreatA9
namespace Go.Proofs.Qxb6500283aGreat
open Go Go.RowKit

theorem upd_upd (f : Nat → Value) (o : Nat) (a b : Value) : ∀ k n, k < n → upd (upd f o a) o b k = upd f o b k := by
  intro k _ _; unfold upd; split <;> rfl
theorem brOk_iff (p : ByteArray) (lo hi : Int) (k : Nat) : braceOk p lo hi k = true ↔ (isB p k 125 = true ∧ 0 ≤ lo ∧ lo ≤ 3 ∧ hi ≤ 3 ∧ (hi < 0 ∨ lo ≤ hi)) := by
  simp only [braceOk, Bool.and_eq_true, Bool.not_eq_true', decide_eq_false_iff_not, Bool.and_eq_false_iff]
  constructor
  · rintro ⟨⟨⟨⟨h1, h2⟩, h3⟩, h4⟩, h5⟩
    exact ⟨h1, by omega, by omega, by omega, by omega⟩
  · rintro ⟨h1, h2, h3, h4, h5⟩
    exact ⟨⟨⟨⟨h1, by omega⟩, by omega⟩, by omega⟩, by omega⟩
def brOf (p : ByteArray) (lo : Int) (h : Int × Nat) : Option (Int × Int × Nat) := if braceOk p lo h.1 h.2 then some (lo, h.1, h.2 + 1) else none
theorem brOf_no {p : ByteArray} {lo hi : Int} {k : Nat} (h : ¬ (isB p k 125 = true ∧ 0 ≤ lo ∧ lo ≤ 3 ∧ hi ≤ 3 ∧ (hi < 0 ∨ lo ≤ hi))) : brOf p lo (hi, k) = none := by
  unfold brOf
  rw [if_neg (fun e => h ((brOk_iff p lo hi k).1 e))]
theorem brOf_yes {p : ByteArray} {lo hi : Int} {k : Nat} (h : isB p k 125 = true ∧ 0 ≤ lo ∧ lo ≤ 3 ∧ hi ≤ 3 ∧ (hi < 0 ∨ lo ≤ hi)) : brOf p lo (hi, k) = some (lo, hi, k + 1) := by
  unfold brOf
  rw [if_pos ((brOk_iff p lo hi k).2 h)]
theorem brace_eq (p : ByteArray) (i : Nat) : brace p i = brOf p (num p (i + 1)).1 (hiOf p (num p (i + 1)).1 (num p (i + 1)).2) := rfl
theorem hiOf_yes {p : ByteArray} {lo : Int} {j : Nat} (h : isB p j 44 = true) : hiOf p lo j = num p (j + 1) := by unfold hiOf; rw [if_pos h]
theorem hiOf_no {p : ByteArray} {lo : Int} {j : Nat} (h : isB p j 44 = false) : hiOf p lo j = (lo, j) := by unfold hiOf; rw [if_neg (by rw [h]; simp)]
theorem isB_no {p : ByteArray} {j c : Nat} (h : isB p j c = false) : p.size ≤ j ∨ (j < p.size ∧ bt p j ≠ c) := by
  by_cases hj : j < p.size
  · right; simp [isB, hj] at h; exact ⟨hj, h⟩
  · left; omega
def BrPost (w : World) (x : Nat) (f : Nat → Value) (o : Option (Int × Int × Nat)) (q : Nat) (e : Ending) (w' : World) : Prop :=
  match o with
  | some (lo, hi, j) => e = .returned (.tuple #[.int .i64 lo, .int .i64 hi]) ∧ LexOk w w' x 325 f j
  | none => e = .returned (.tuple #[.int .i64 0, .int .i64 0]) ∧ LexErr w w' x 325 323 324 f 3 q
set_option maxRecDepth 100000 in
set_option maxHeartbeats 8000000 in
theorem braceR_any {w : World} {x : Nat} {f : Nat → Value} {p : ByteArray} {i : Nat} (hb : Blk w x 325 f) (h0 : f 0 = .string p) (h1 : f 1 = .int .i64 (i : Nat)) (hsz : p.size ≤ 129) (hi : i < p.size) :
    Calls Tryz.prog 154 #[.pointer (some ⟨x, 0, none⟩)] w (BrPost w x f (brace p i) i) := by
  have c0 := hb.cell (o := 0) (by omega)
  have c1 := hb.cell (o := 1) (by omega)
  rw [h0] at c0
  rw [h1] at c1
  have z := hb.frozen
  have hE0 := brace_eq p i
  go_enter Tryz.func154, Tryz.ntmps154
  go_wp2_with fail
  refine (numR_any (i := i + 1) (hb.set 1 (.int .i64 ((i : Int) + 1))) (by rw [upd_other _ _ _ _ (by omega), h0]) (upd_same _ _ _) hsz (by omega)).mono ?_
  rintro e w1 ⟨rfl, hb1, f1⟩
  have hjl := (num_le (p := p) (i := i + 1) (by omega)).1
  generalize num p (i + 1) = l at *
  obtain ⟨lo, j⟩ := l
  simp only at hb1 hjl hE0
  replace hb1 := hb1.congr (fun o ho => upd_upd f 1 _ _ o 325 ho)
  have F1 := ((Fr.refl (fun b => b = x) w).setC x 1 (.int .i64 ((i : Int) + 1)) (fun _ => rfl)).trans f1 (fun _ _ h => h)
  have a0 := hb1.cell (o := 0) (by omega)
  rw [upd_other _ _ _ _ (by omega), h0] at a0
  have a1 := hb1.cell (o := 1) (by omega)
  rw [upd_same] at a1
  have z1 := hb1.frozen
  clear c0 c1 z
  cases hc : isB p j 44 with
  | true =>
    rw [hiOf_yes hc] at hE0
    obtain ⟨g1, g2⟩ := isB_lt hc
    have Hbt : Hid _ := bt_at p j g1
    have t44 : (p[j].toNat == 44) = true := by have := Hbt.out; simp; omega
    have t44' : ((p[j].toNat : Int) == 44) = true := by have := Hbt.out; simp; omega
    go_wp2_with fail
    refine wp_region_text (by kernel_rfl) (by kernel_rfl) ?_
    go_wp2_with fail
    refine ⟨by kernel_rfl, ?_⟩
    go_wp2_with fail
    refine (numR_any (i := j + 1) (hb1.set 1 (.int .i64 ((j : Int) + 1))).drew (by rw [upd_other _ _ _ _ (by omega), upd_other _ _ _ _ (by omega), h0]) (upd_same _ _ _) hsz (by omega)).mono ?_
    rintro e w2 ⟨rfl, hb2, f2⟩
    have hkl := (num_le (p := p) (i := j + 1) (by omega)).1
    generalize num p (j + 1) = l2 at *
    obtain ⟨hi2, k⟩ := l2
    simp only at hb2 hkl
    replace hb2 := hb2.congr (fun o ho => (upd_upd (upd f 1 _) 1 _ _ o 325 ho).trans (upd_upd f 1 _ _ o 325 ho))
    have F2 := ((F1.setC x 1 (.int .i64 ((j : Int) + 1)) (fun _ => rfl)).drew).trans f2 (fun _ _ h => h)
    have b0 := hb2.cell (o := 0) (by omega)
    rw [upd_other _ _ _ _ (by omega), h0] at b0
    have b1 := hb2.cell (o := 1) (by omega)
    rw [upd_same] at b1
    have z2 := hb2.frozen
    clear a0 a1 z1 Hbt t44 t44'
    cases hc2 : isB p k 125 with
    | false =>
      rcases isB_no hc2 with e1 | ⟨e1, e2⟩
      · have hkd : decide ((k : Int) < p.size) = false := decide_eq_false (by omega)
        have hE := hE0.trans <| brOf_no (p := p) (lo := lo) (hi := hi2) (k := k) (by rw [hc2]; simp)
        have HE : Hid _ := hE
        clear hE hE0
        go_wp2_with fail
        refine wp_region_text (by kernel_rfl) (by kernel_rfl) ?_
        go_wp2_with fail
        refine ⟨by kernel_rfl, ?_⟩
        go_wp2_with fail
        refine (failR_any hb2.drew 3 i).mono ?_
        rintro e w9 ⟨rfl, hb9, f9⟩
        go_wp2_with fail
        exact bodyPost_ret (v := .tuple #[.int .i64 0, .int .i64 0]) (by simp [results, Tryz.results154, go_sem]) rfl (by unfold BrPost; rw [HE.out]; exact ⟨rfl, ⟨k, by omega, hb9⟩, F2.drew.trans f9 (fun _ _ h => h)⟩)
      · have hkd : decide ((k : Int) < p.size) = true := decide_eq_true (by omega)
        have Hb5 : Hid _ := bt_at p k e1
        have t5 : (p[k].toNat == 125) = false := by have := Hb5.out; simp; omega
        have t5' : ((p[k].toNat : Int) == 125) = false := by have := Hb5.out; simp; omega
        have hE := hE0.trans <| brOf_no (p := p) (lo := lo) (hi := hi2) (k := k) (by rw [hc2]; simp)
        have HE : Hid _ := hE
        clear hE hE0
        go_wp2_with fail
        refine wp_region_text (by kernel_rfl) (by kernel_rfl) ?_
        go_wp2_with fail
        refine ⟨by kernel_rfl, ?_⟩
        go_wp2_with fail
        refine (failR_any hb2.drew 3 i).mono ?_
        rintro e w9 ⟨rfl, hb9, f9⟩
        go_wp2_with fail
        exact bodyPost_ret (v := .tuple #[.int .i64 0, .int .i64 0]) (by simp [results, Tryz.results154, go_sem]) rfl (by unfold BrPost; rw [HE.out]; exact ⟨rfl, ⟨k, by omega, hb9⟩, F2.drew.trans f9 (fun _ _ h => h)⟩)
    | true =>
      obtain ⟨e1, e2⟩ := isB_lt hc2
      have hkd : decide ((k : Int) < p.size) = true := decide_eq_true (by omega)
      have Hb5 : Hid _ := bt_at p k e1
      have t5 : (p[k].toNat == 125) = true := by have := Hb5.out; simp; omega
      have t5' : ((p[k].toNat : Int) == 125) = true := by have := Hb5.out; simp; omega
      by_cases q1 : lo < 0
      · have hE := hE0.trans <| brOf_no (p := p) (lo := lo) (hi := hi2) (k := k) (by omega)
        have HE : Hid _ := hE
        clear hE hE0
        go_wp2_with fail
        refine wp_region_text (by kernel_rfl) (by kernel_rfl) ?_
        go_wp2_with fail
        refine ⟨by kernel_rfl, ?_⟩
        go_wp2_with fail
        refine (failR_any hb2.drew 3 i).mono ?_
        rintro e w9 ⟨rfl, hb9, f9⟩
        go_wp2_with fail
        exact bodyPost_ret (v := .tuple #[.int .i64 0, .int .i64 0]) (by simp [results, Tryz.results154, go_sem]) rfl (by unfold BrPost; rw [HE.out]; exact ⟨rfl, ⟨k, by omega, hb9⟩, F2.drew.trans f9 (fun _ _ h => h)⟩)
      by_cases q2 : 3 < lo
      · have hE := hE0.trans <| brOf_no (p := p) (lo := lo) (hi := hi2) (k := k) (by omega)
        have HE : Hid _ := hE
        clear hE hE0
        go_wp2_with fail
        refine wp_region_text (by kernel_rfl) (by kernel_rfl) ?_
        go_wp2_with fail
        refine ⟨by kernel_rfl, ?_⟩
        go_wp2_with fail
        refine (failR_any hb2.drew 3 i).mono ?_
        rintro e w9 ⟨rfl, hb9, f9⟩
        go_wp2_with fail
        exact bodyPost_ret (v := .tuple #[.int .i64 0, .int .i64 0]) (by simp [results, Tryz.results154, go_sem]) rfl (by unfold BrPost; rw [HE.out]; exact ⟨rfl, ⟨k, by omega, hb9⟩, F2.drew.trans f9 (fun _ _ h => h)⟩)
      by_cases q3 : 3 < hi2
      · have hE := hE0.trans <| brOf_no (p := p) (lo := lo) (hi := hi2) (k := k) (by omega)
        have HE : Hid _ := hE
        clear hE hE0
        go_wp2_with fail
        refine wp_region_text (by kernel_rfl) (by kernel_rfl) ?_
        go_wp2_with fail
        refine ⟨by kernel_rfl, ?_⟩
        go_wp2_with fail
        refine (failR_any hb2.drew 3 i).mono ?_
        rintro e w9 ⟨rfl, hb9, f9⟩
        go_wp2_with fail
        exact bodyPost_ret (v := .tuple #[.int .i64 0, .int .i64 0]) (by simp [results, Tryz.results154, go_sem]) rfl (by unfold BrPost; rw [HE.out]; exact ⟨rfl, ⟨k, by omega, hb9⟩, F2.drew.trans f9 (fun _ _ h => h)⟩)
      by_cases q4 : hi2 < 0
      · have hE := hE0.trans <| brOf_yes (p := p) (lo := lo) (hi := hi2) (k := k) ⟨hc2, by omega, by omega, by omega, by omega⟩
        have HE : Hid _ := hE
        clear hE hE0
        go_wp2_with fail
        refine wp_region_text (by kernel_rfl) (by kernel_rfl) ?_
        go_wp2_with fail
        refine ⟨by kernel_rfl, ?_⟩
        go_wp2_with fail
        exact bodyPost_ret (v := .tuple #[.int .i64 lo, .int .i64 hi2]) (by simp [results, Tryz.results154, go_sem]) rfl (by unfold BrPost; rw [HE.out]; exact ⟨rfl, ((hb2.set 1 (.int .i64 ((k : Int) + 1))).drew).congr (fun o ho => upd_upd f 1 _ _ o 325 ho), (F2.setC x 1 (.int .i64 ((k : Int) + 1)) (fun _ => rfl)).drew⟩)
      by_cases q5 : hi2 < lo
      · have hE := hE0.trans <| brOf_no (p := p) (lo := lo) (hi := hi2) (k := k) (by omega)
        have HE : Hid _ := hE
        clear hE hE0
        go_wp2_with fail
        refine wp_region_text (by kernel_rfl) (by kernel_rfl) ?_
        go_wp2_with fail
        refine ⟨by kernel_rfl, ?_⟩
        go_wp2_with fail
        refine (failR_any hb2.drew 3 i).mono ?_
        rintro e w9 ⟨rfl, hb9, f9⟩
        go_wp2_with fail
        exact bodyPost_ret (v := .tuple #[.int .i64 0, .int .i64 0]) (by simp [results, Tryz.results154, go_sem]) rfl (by unfold BrPost; rw [HE.out]; exact ⟨rfl, ⟨k, by omega, hb9⟩, F2.drew.trans f9 (fun _ _ h => h)⟩)
      have hE := hE0.trans <| brOf_yes (p := p) (lo := lo) (hi := hi2) (k := k) ⟨hc2, by omega, by omega, by omega, by omega⟩
      have HE : Hid _ := hE
      clear hE hE0
      go_wp2_with fail
      refine wp_region_text (by kernel_rfl) (by kernel_rfl) ?_
      go_wp2_with fail
      refine ⟨by kernel_rfl, ?_⟩
      go_wp2_with fail
      exact bodyPost_ret (v := .tuple #[.int .i64 lo, .int .i64 hi2]) (by simp [results, Tryz.results154, go_sem]) rfl (by unfold BrPost; rw [HE.out]; exact ⟨rfl, ((hb2.set 1 (.int .i64 ((k : Int) + 1))).drew).congr (fun o ho => upd_upd f 1 _ _ o 325 ho), (F2.setC x 1 (.int .i64 ((k : Int) + 1)) (fun _ => rfl)).drew⟩)
  | false =>
    rw [hiOf_no hc] at hE0
    rcases isB_no hc with g1 | ⟨g1, g2⟩
    · have hjd : decide ((j : Int) < p.size) = false := decide_eq_false (by omega)
      cases hc2 : isB p j 125 with
      | false =>
        rcases isB_no hc2 with e1 | ⟨e1, e2⟩
        · have hkd : decide ((j : Int) < p.size) = false := decide_eq_false (by omega)
          have hE := hE0.trans <| brOf_no (p := p) (lo := lo) (hi := lo) (k := j) (by rw [hc2]; simp)
          have HE : Hid _ := hE
          clear hE hE0
          go_wp2_with fail
          refine wp_region_text (by kernel_rfl) (by kernel_rfl) ?_
          go_wp2_with fail
          refine ⟨by kernel_rfl, ?_⟩
          go_wp2_with fail
          refine wp_region_text (by kernel_rfl) (by kernel_rfl) ?_
          go_wp2_with fail
          refine ⟨by kernel_rfl, ?_⟩
          go_wp2_with fail
          refine (failR_any hb1.drew.drew 3 i).mono ?_
          rintro e w9 ⟨rfl, hb9, f9⟩
          go_wp2_with fail
          exact bodyPost_ret (v := .tuple #[.int .i64 0, .int .i64 0]) (by simp [results, Tryz.results154, go_sem]) rfl (by unfold BrPost; rw [HE.out]; exact ⟨rfl, ⟨j, by omega, hb9⟩, F1.drew.drew.trans f9 (fun _ _ h => h)⟩)
        · exfalso; omega
      | true =>
        exfalso
        have := isB_lt hc2
        omega
    · have hjd : decide ((j : Int) < p.size) = true := decide_eq_true (by omega)
      have Hbt : Hid _ := bt_at p j g1
      have t44 : (p[j].toNat == 44) = false := by have := Hbt.out; simp; omega
      have t44' : ((p[j].toNat : Int) == 44) = false := by have := Hbt.out; simp; omega
      cases hc2 : isB p j 125 with
      | false =>
        rcases isB_no hc2 with e1 | ⟨e1, e2⟩
        · have hkd : decide ((j : Int) < p.size) = false := decide_eq_false (by omega)
          exfalso; omega
        · have hkd : decide ((j : Int) < p.size) = true := decide_eq_true (by omega)
          have Hb5 : Hid _ := bt_at p j e1
          have t5 : (p[j].toNat == 125) = false := by have := Hb5.out; simp; omega
          have t5' : ((p[j].toNat : Int) == 125) = false := by have := Hb5.out; simp; omega
          have hE := hE0.trans <| brOf_no (p := p) (lo := lo) (hi := lo) (k := j) (by rw [hc2]; simp)
          have HE : Hid _ := hE
          clear hE hE0
          go_wp2_with fail
          refine wp_region_text (by kernel_rfl) (by kernel_rfl) ?_
          go_wp2_with fail
          refine ⟨by kernel_rfl, ?_⟩
          go_wp2_with fail
          refine wp_region_text (by kernel_rfl) (by kernel_rfl) ?_
          go_wp2_with fail
          refine ⟨by kernel_rfl, ?_⟩
          go_wp2_with fail
          refine (failR_any hb1.drew.drew 3 i).mono ?_
          rintro e w9 ⟨rfl, hb9, f9⟩
          go_wp2_with fail
          exact bodyPost_ret (v := .tuple #[.int .i64 0, .int .i64 0]) (by simp [results, Tryz.results154, go_sem]) rfl (by unfold BrPost; rw [HE.out]; exact ⟨rfl, ⟨j, by omega, hb9⟩, F1.drew.drew.trans f9 (fun _ _ h => h)⟩)
      | true =>
        obtain ⟨e1, e2⟩ := isB_lt hc2
        have hkd : decide ((j : Int) < p.size) = true := decide_eq_true (by omega)
        have Hb5 : Hid _ := bt_at p j e1
        have t5 : (p[j].toNat == 125) = true := by have := Hb5.out; simp; omega
        have t5' : ((p[j].toNat : Int) == 125) = true := by have := Hb5.out; simp; omega
        by_cases q1 : lo < 0
        · have hE := hE0.trans <| brOf_no (p := p) (lo := lo) (hi := lo) (k := j) (by omega)
          have HE : Hid _ := hE
          clear hE hE0
          go_wp2_with fail
          refine wp_region_text (by kernel_rfl) (by kernel_rfl) ?_
          go_wp2_with fail
          refine ⟨by kernel_rfl, ?_⟩
          go_wp2_with fail
          refine wp_region_text (by kernel_rfl) (by kernel_rfl) ?_
          go_wp2_with fail
          refine ⟨by kernel_rfl, ?_⟩
          go_wp2_with fail
          refine (failR_any hb1.drew.drew 3 i).mono ?_
          rintro e w9 ⟨rfl, hb9, f9⟩
          go_wp2_with fail
          exact bodyPost_ret (v := .tuple #[.int .i64 0, .int .i64 0]) (by simp [results, Tryz.results154, go_sem]) rfl (by unfold BrPost; rw [HE.out]; exact ⟨rfl, ⟨j, by omega, hb9⟩, F1.drew.drew.trans f9 (fun _ _ h => h)⟩)
        by_cases q2 : 3 < lo
        · have hE := hE0.trans <| brOf_no (p := p) (lo := lo) (hi := lo) (k := j) (by omega)
          have HE : Hid _ := hE
          clear hE hE0
          go_wp2_with fail
          refine wp_region_text (by kernel_rfl) (by kernel_rfl) ?_
          go_wp2_with fail
          refine ⟨by kernel_rfl, ?_⟩
          go_wp2_with fail
          refine wp_region_text (by kernel_rfl) (by kernel_rfl) ?_
          go_wp2_with fail
          refine ⟨by kernel_rfl, ?_⟩
          go_wp2_with fail
          refine (failR_any hb1.drew.drew 3 i).mono ?_
          rintro e w9 ⟨rfl, hb9, f9⟩
          go_wp2_with fail
          exact bodyPost_ret (v := .tuple #[.int .i64 0, .int .i64 0]) (by simp [results, Tryz.results154, go_sem]) rfl (by unfold BrPost; rw [HE.out]; exact ⟨rfl, ⟨j, by omega, hb9⟩, F1.drew.drew.trans f9 (fun _ _ h => h)⟩)
        have hE := hE0.trans <| brOf_yes (p := p) (lo := lo) (hi := lo) (k := j) ⟨hc2, by omega, by omega, by omega, by omega⟩
        have HE : Hid _ := hE
        clear hE hE0
        go_wp2_with fail
        refine wp_region_text (by kernel_rfl) (by kernel_rfl) ?_
        go_wp2_with fail
        refine ⟨by kernel_rfl, ?_⟩
        go_wp2_with fail
        refine wp_region_text (by kernel_rfl) (by kernel_rfl) ?_
        go_wp2_with fail
        refine ⟨by kernel_rfl, ?_⟩
        go_wp2_with fail
        exact bodyPost_ret (v := .tuple #[.int .i64 lo, .int .i64 lo]) (by simp [results, Tryz.results154, go_sem]) rfl (by unfold BrPost; rw [HE.out]; exact ⟨rfl, ((hb1.set 1 (.int .i64 ((j : Int) + 1))).drew.drew).congr (fun o ho => upd_upd f 1 _ _ o 325 ho), (F1.setC x 1 (.int .i64 ((j : Int) + 1)) (fun _ => rfl)).drew.drew⟩)
end Go.Proofs.Qxb6500283aGreat
