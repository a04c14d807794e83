/- Numbers: both sides. -/
import Derived.Test.Qxb6500283aGreatA6
namespace Go.Proofs.Qxb6500283aGreat
open Go Go.RowKit

theorem bt_out (s : ByteArray) (i : Nat) (h : s.size ≤ i) : bt s i = 0 := by simp [bt, show ¬ i < s.size by omega]
theorem numF_stop (p : ByteArray) (f i : Nat) (v : Int) (h : digB (bt p i) = false) : numF p f i v = (v, i) := by
  cases f with
  | zero => rfl
  | succ f => simp [numF, h]
theorem numF_dig (p : ByteArray) (i : Nat) (v : Int) (hi : i < p.size) (h : digB (bt p i) = true) : numF p (p.size - i) i v = numF p (p.size - (i + 1)) (i + 1) (clip ((if v < 0 then 0 else v) * 10 + ((bt p i : Int) - 48))) := by
  obtain ⟨f, hf⟩ : ∃ f, p.size - i = f + 1 := ⟨p.size - i - 1, by omega⟩
  rw [hf, show p.size - (i + 1) = f by omega]
  simp [numF, h]
theorem upd_id {f : Nat → Value} {o : Nat} {v : Value} (h : f o = v) (k : Nat) : f k = upd f o v k := by
  unfold upd; split
  · rename_i e; rw [e, h]
  · rfl
def RV (v vr : Int) : Prop := (vr = v ∧ -1 ≤ v ∧ v ≤ 3) ∨ (3 < vr ∧ vr ≤ 39 ∧ v = 4)
def RVm (v vr : Int) : Prop := vr = v ∧ -1 ≤ v ∧ v ≤ 4
theorem clip_lo {v : Int} (h : v ≤ 3) : clip v = v := by unfold clip; rw [if_neg (by omega)]
theorem clip_hi {v : Int} (h : 3 < v) : clip v = 4 := by unfold clip; rw [if_pos h]
theorem RV.next {v vr d : Int} (h : RV v vr) (h0 : vr ≤ 3) (hd : 0 ≤ d) (hd9 : d ≤ 9) : RV (clip ((if v < 0 then 0 else v) * 10 + d)) ((if vr < 0 then 0 else vr) * 10 + d) := by
  rcases h with ⟨rfl, h1, h2⟩ | ⟨h1, h2, h3⟩
  · have hb : 0 ≤ (if vr < 0 then 0 else vr) ∧ (if vr < 0 then 0 else vr) ≤ 3 := by split <;> omega
    generalize (if vr < 0 then 0 else vr) = u at *
    by_cases h4 : u * 10 + d ≤ 3
    · rw [clip_lo h4]; exact .inl ⟨rfl, by omega, h4⟩
    · rw [clip_hi (by omega)]; exact .inr ⟨by omega, by omega, rfl⟩
  · omega
theorem RV.stay {v vr d : Int} (h : RV v vr) (h0 : 3 < vr) (hd : 0 ≤ d) : RV (clip ((if v < 0 then 0 else v) * 10 + d)) vr := by
  rcases h with ⟨rfl, h1, h2⟩ | ⟨h1, h2, rfl⟩
  · omega
  · rw [if_neg (by omega), clip_hi (by omega)]; exact .inr ⟨h1, h2, rfl⟩
theorem RV.lo {v vr : Int} (h : RV v vr) (h0 : vr ≤ 3) : vr = v := by rcases h with ⟨h, _⟩ | ⟨h, _⟩ <;> omega
theorem RV.hi {v vr : Int} (h : RV v vr) (h0 : 3 < vr) : v = 4 := by rcases h with ⟨h, _⟩ | ⟨_, _, h⟩ <;> omega
theorem RV.bnd {v vr : Int} (h : RV v vr) : -1 ≤ vr ∧ vr ≤ 39 := by rcases h with ⟨h, _⟩ | ⟨h, _⟩ <;> omega
theorem RVm.next {v vr d : Int} (h : RVm v vr) (hd : 0 ≤ d) : RVm (clip ((if v < 0 then 0 else v) * 10 + d)) (clip ((if vr < 0 then 0 else vr) * 10 + d)) := by
  obtain ⟨rfl, h1, h2⟩ := h
  have hb : 0 ≤ (if vr < 0 then 0 else vr) := by split <;> omega
  generalize (if vr < 0 then 0 else vr) = u at *
  refine ⟨rfl, ?_⟩
  unfold clip
  split <;> omega
set_option maxRecDepth 100000 in
set_option maxHeartbeats 2000000 in
theorem numR_any {w : World} {x : Nat} {f : Nat → Value} {p : ByteArray} {i : Nat} (hb0 : Blk w x 325 f) (h0 : f 0 = .string p) (h1 : f 1 = .int .i64 (i : Nat)) (hsz : p.size ≤ 129) (hi : i ≤ p.size) :
    Calls Tryz.prog 166 #[.pointer (some ⟨x, 0, none⟩)] w fun e w' => e = .returned (.int .i64 (num p i).1) ∧ LexOk w w' x 325 f (num p i).2 := by
  go_enter Tryz.func166, Tryz.ntmps166
  go_wp2_with fail
  go_loopg [3] (p.size - i) (fun g vv wr => ∃ (j : Nat) (v vr : Int), vv = .int .i64 vr ∧ j + g = p.size ∧ numF p (p.size - j) j v = num p i ∧ RV v vr ∧ Blk wr x 325 (upd f 1 (.int .i64 (j : Nat))) ∧ Fr (fun b => b = x) w wr)
  case atStart => exact ⟨i, -1, -1, rfl, by omega, rfl, .inl ⟨rfl, by omega, by omega⟩, hb0.congr (fun o _ => upd_id h1 o), Fr.refl _ _⟩
  case round =>
    obtain ⟨j, v, vr, rfl, hjg, hnum, hrv, hb, hF⟩ := hrel
    have c0 := hb.cell (o := 0) (by omega)
    rw [upd_other _ _ _ _ (by omega), h0] at c0
    have c1 := hb.cell (o := 1) (by omega)
    rw [upd_same] at c1
    have z := hb.frozen
    have hjg' : j + gk = p.size := hjg
    clear hjg
    have Hnum : Hid _ := hnum
    have Hrv : Hid _ := hrv
    clear hnum hrv h1 h0 hb0
    have hbnd : -1 ≤ vr ∧ vr ≤ 39 := RV.bnd (v := v) Hrv.out
    obtain ⟨hv1, hv2⟩ := hbnd
    by_cases hjs : j < p.size
    · have Hbt : Hid _ := bt_at p j hjs
      have hjd : decide ((j : Int) < p.size) = true := decide_eq_true (by omega)
      by_cases hd : 48 ≤ p[j].toNat ∧ p[j].toNat ≤ 57
      · obtain ⟨d1, d2⟩ := hd
        have Hdig : Hid (digB (bt p j) = true) := by show digB (bt p j) = true; rw [Hbt.out]; simp [digB, d1, d2]
        have d1' : (48 : Int) ≤ p[j].toNat := by omega
        have d2' : (p[j].toNat : Int) ≤ 57 := by omega
        by_cases hneg : vr < 0
        · obtain rfl : vr = -1 := by omega
          go_wp2_with fail
          refine wp_region_text (by kernel_rfl) (by kernel_rfl) ?_
          go_wp2_with fail
          refine ⟨by kernel_rfl, ?_⟩
          go_wp2_with fail
          refine wp_region_text (by kernel_rfl) (by kernel_rfl) ?_
          go_wp2_with fail
          refine ⟨by kernel_rfl, ?_⟩
          go_wp2_with fail
          go_roundg (gk - 1)
          case measure => omega
          case rel => exact ⟨j + 1, _, _, rfl, by omega, (by rw [← Hnum.out, numF_dig p j v hjs Hdig.out, Hbt.out]), (by have := RV.next (v := v) (vr := -1) (d := (p[j].toNat : Int) - 48) Hrv.out (by omega) (by omega) (by omega); rwa [if_pos (show (-1 : Int) < 0 by omega), Int.zero_mul, Int.zero_add] at this), (hb.set 1 (.int .i64 ((j : Int) + 1))).drew.drew.congr (fun o ho => by unfold upd; split <;> rfl), (hF.setC x 1 (.int .i64 ((j : Int) + 1)) (fun _ => rfl)).drew.drew⟩
        · have hneg' : 0 ≤ vr := by omega
          by_cases h3 : vr ≤ 3
          · go_wp2_with fail
            refine wp_region_text (by kernel_rfl) (by kernel_rfl) ?_
            go_wp2_with fail
            refine ⟨by kernel_rfl, ?_⟩
            go_wp2_with fail
            refine wp_region_text (by kernel_rfl) (by kernel_rfl) ?_
            go_wp2_with fail
            refine ⟨by kernel_rfl, ?_⟩
            go_wp2_with fail
            go_roundg (gk - 1)
            case measure => omega
            case rel => exact ⟨j + 1, _, _, rfl, by omega, (by rw [← Hnum.out, numF_dig p j v hjs Hdig.out, Hbt.out]), (by have := RV.next (v := v) (vr := vr) (d := (p[j].toNat : Int) - 48) Hrv.out h3 (by omega) (by omega); rwa [if_neg (show ¬ vr < 0 by omega)] at this), (hb.set 1 (.int .i64 ((j : Int) + 1))).drew.drew.congr (fun o ho => by unfold upd; split <;> rfl), (hF.setC x 1 (.int .i64 ((j : Int) + 1)) (fun _ => rfl)).drew.drew⟩
          · have h3' : 3 < vr := by omega
            go_wp2_with fail
            refine wp_region_text (by kernel_rfl) (by kernel_rfl) ?_
            go_wp2_with fail
            refine ⟨by kernel_rfl, ?_⟩
            go_wp2_with fail
            go_roundg (gk - 1)
            case measure => omega
            case rel => exact ⟨j + 1, _, _, rfl, by omega, (by rw [← Hnum.out, numF_dig p j v hjs Hdig.out, Hbt.out]), RV.stay (v := v) (vr := vr) Hrv.out h3' (by omega), (hb.set 1 (.int .i64 ((j : Int) + 1))).drew.congr (fun o ho => by unfold upd; split <;> rfl), (hF.setC x 1 (.int .i64 ((j : Int) + 1)) (fun _ => rfl)).drew⟩
      · have Hdig : Hid (digB (bt p j) = false) := by
          show digB (bt p j) = false
          rw [Hbt.out]
          simp only [digB, Bool.and_eq_false_iff, decide_eq_false_iff_not]
          omega
        have hstop : num p i = (v, j) := by rw [← Hnum.out, numF_stop p _ j v Hdig.out]
        rcases (show p[j].toNat < 48 ∨ 57 < p[j].toNat by omega) with d1 | d1
        · have d2 : decide ((48 : Int) ≤ p[j].toNat) = false := decide_eq_false (by omega)
          by_cases h3 : vr ≤ 3
          · go_wp2_with fail
            refine wp_region_text (by kernel_rfl) (by kernel_rfl) ?_
            go_wp2_with fail
            refine ⟨by kernel_rfl, ?_⟩
            go_wp2_with fail
            go_ret
            rw [hstop]
            exact ⟨by rw [RV.lo (v := v) (vr := vr) Hrv.out h3]; rfl, hb.drew, hF.drew⟩
          · have h3' : 3 < vr := by omega
            go_wp2_with fail
            refine wp_region_text (by kernel_rfl) (by kernel_rfl) ?_
            go_wp2_with fail
            refine ⟨by kernel_rfl, ?_⟩
            go_wp2_with fail
            go_ret
            rw [hstop]
            exact ⟨by rw [RV.hi (v := v) (vr := vr) Hrv.out h3']; rfl, hb.drew, hF.drew⟩
        · have d2 : decide ((48 : Int) ≤ p[j].toNat) = true := decide_eq_true (by omega)
          have d3 : decide ((p[j].toNat : Int) ≤ 57) = false := decide_eq_false (by omega)
          by_cases h3 : vr ≤ 3
          · go_wp2_with fail
            refine wp_region_text (by kernel_rfl) (by kernel_rfl) ?_
            go_wp2_with fail
            refine ⟨by kernel_rfl, ?_⟩
            go_wp2_with fail
            go_ret
            rw [hstop]
            exact ⟨by rw [RV.lo (v := v) (vr := vr) Hrv.out h3]; rfl, hb.drew, hF.drew⟩
          · have h3' : 3 < vr := by omega
            go_wp2_with fail
            refine wp_region_text (by kernel_rfl) (by kernel_rfl) ?_
            go_wp2_with fail
            refine ⟨by kernel_rfl, ?_⟩
            go_wp2_with fail
            go_ret
            rw [hstop]
            exact ⟨by rw [RV.hi (v := v) (vr := vr) Hrv.out h3']; rfl, hb.drew, hF.drew⟩
    · have hjd : decide ((j : Int) < p.size) = false := decide_eq_false (by omega)
      have hstop : num p i = (v, j) := by rw [← Hnum.out, numF_stop p _ j v (by rw [bt_out p j (by omega)]; rfl)]
      by_cases h3 : vr ≤ 3
      · go_wp2_with fail
        refine wp_region_text (by kernel_rfl) (by kernel_rfl) ?_
        go_wp2_with fail
        refine ⟨by kernel_rfl, ?_⟩
        go_wp2_with fail
        go_ret
        rw [hstop]
        exact ⟨by rw [RV.lo (v := v) (vr := vr) Hrv.out h3]; rfl, hb.drew, hF.drew⟩
      · have h3' : 3 < vr := by omega
        go_wp2_with fail
        refine wp_region_text (by kernel_rfl) (by kernel_rfl) ?_
        go_wp2_with fail
        refine ⟨by kernel_rfl, ?_⟩
        go_wp2_with fail
        go_ret
        rw [hstop]
        exact ⟨by rw [RV.hi (v := v) (vr := vr) Hrv.out h3']; rfl, hb.drew, hF.drew⟩
set_option maxRecDepth 100000 in
set_option maxHeartbeats 2000000 in
theorem numM_any {w : World} {x : Nat} {f : Nat → Value} {p : ByteArray} {i : Nat} (hb0 : Blk w x 6 f) (h0 : f 0 = .string p) (h1 : f 1 = .int .i64 (i : Nat)) (hsz : p.size ≤ 129) (hi : i ≤ p.size) :
    Calls Tryz.prog 165 #[.pointer (some ⟨x, 0, none⟩)] w fun e w' => e = .returned (.int .i64 (num p i).1) ∧ LexOk w w' x 6 f (num p i).2 := by
  go_enter Tryz.func165, Tryz.ntmps165
  go_wp2_with fail
  go_loopg [3] (p.size - i) (fun g vv wr => ∃ (j : Nat) (v vr : Int), vv = .int .i64 vr ∧ j + g = p.size ∧ numF p (p.size - j) j v = num p i ∧ RVm v vr ∧ Blk wr x 6 (upd f 1 (.int .i64 (j : Nat))) ∧ Fr (fun b => b = x) w wr)
  case atStart => exact ⟨i, -1, -1, rfl, by omega, rfl, ⟨rfl, by omega, by omega⟩, hb0.congr (fun o _ => upd_id h1 o), Fr.refl _ _⟩
  case round =>
    obtain ⟨j, v, vr, rfl, hjg, hnum, hrv, hb, hF⟩ := hrel
    have c0 := hb.cell (o := 0) (by omega)
    rw [upd_other _ _ _ _ (by omega), h0] at c0
    have c1 := hb.cell (o := 1) (by omega)
    rw [upd_same] at c1
    have z := hb.frozen
    have hjg' : j + gk = p.size := hjg
    clear hjg
    have Hnum : Hid _ := hnum
    have Hrv : Hid _ := hrv
    clear hnum hrv h1 h0 hb0
    have hbnd : -1 ≤ vr ∧ vr ≤ 39 := ⟨by have := Hrv.out; unfold RVm at this; omega, by have := Hrv.out; unfold RVm at this; omega⟩
    obtain ⟨hv1, hv2⟩ := hbnd
    by_cases hjs : j < p.size
    · have Hbt : Hid _ := bt_at p j hjs
      have hjd : decide ((j : Int) < p.size) = true := decide_eq_true (by omega)
      by_cases hd : 48 ≤ p[j].toNat ∧ p[j].toNat ≤ 57
      · obtain ⟨d1, d2⟩ := hd
        have Hdig : Hid (digB (bt p j) = true) := by show digB (bt p j) = true; rw [Hbt.out]; simp [digB, d1, d2]
        have d1' : (48 : Int) ≤ p[j].toNat := by omega
        have d2' : (p[j].toNat : Int) ≤ 57 := by omega
        by_cases hneg : vr < 0
        · obtain rfl : vr = -1 := by omega
          by_cases h3 : (0 : Int) * 10 + ((p[j].toNat : Int) - 48) ≤ 3
          · go_wp2_with fail
            refine wp_region_text (by kernel_rfl) (by kernel_rfl) ?_
            go_wp2_with fail
            refine ⟨by kernel_rfl, ?_⟩
            go_wp2_with fail
            refine wp_region_text (by kernel_rfl) (by kernel_rfl) ?_
            go_wp2_with fail
            refine ⟨by kernel_rfl, ?_⟩
            go_wp2_with fail
            go_roundg (gk - 1)
            case measure => omega
            case rel => exact ⟨j + 1, _, _, rfl, by omega, (by rw [← Hnum.out, numF_dig p j v hjs Hdig.out, Hbt.out]), (by have := RVm.next (v := v) (d := (p[j].toNat : Int) - 48) Hrv.out (by omega); rwa [if_pos (show (-1 : Int) < 0 by omega), clip_lo (v := (0 : Int) * 10 + ((p[j].toNat : Int) - 48)) (by omega), Int.zero_mul, Int.zero_add] at this), (hb.set 1 (.int .i64 ((j : Int) + 1))).drew.drew.congr (fun o ho => by unfold upd; split <;> rfl), (hF.setC x 1 (.int .i64 ((j : Int) + 1)) (fun _ => rfl)).drew.drew⟩
          · have h3' : 3 < (0 : Int) * 10 + ((p[j].toNat : Int) - 48) := by omega
            go_wp2_with fail
            refine wp_region_text (by kernel_rfl) (by kernel_rfl) ?_
            go_wp2_with fail
            refine ⟨by kernel_rfl, ?_⟩
            go_wp2_with fail
            refine wp_region_text (by kernel_rfl) (by kernel_rfl) ?_
            go_wp2_with fail
            refine ⟨by kernel_rfl, ?_⟩
            go_wp2_with fail
            go_roundg (gk - 1)
            case measure => omega
            case rel => exact ⟨j + 1, _, _, rfl, by omega, (by rw [← Hnum.out, numF_dig p j v hjs Hdig.out, Hbt.out]), (by have := RVm.next (v := v) (d := (p[j].toNat : Int) - 48) Hrv.out (by omega); rwa [if_pos (show (-1 : Int) < 0 by omega), clip_hi (v := (0 : Int) * 10 + ((p[j].toNat : Int) - 48)) (by omega)] at this), (hb.set 1 (.int .i64 ((j : Int) + 1))).drew.drew.congr (fun o ho => by unfold upd; split <;> rfl), (hF.setC x 1 (.int .i64 ((j : Int) + 1)) (fun _ => rfl)).drew.drew⟩
        · have hneg' : 0 ≤ vr := by omega
          by_cases h3 : vr * 10 + ((p[j].toNat : Int) - 48) ≤ 3
          · go_wp2_with fail
            refine wp_region_text (by kernel_rfl) (by kernel_rfl) ?_
            go_wp2_with fail
            refine ⟨by kernel_rfl, ?_⟩
            go_wp2_with fail
            refine wp_region_text (by kernel_rfl) (by kernel_rfl) ?_
            go_wp2_with fail
            refine ⟨by kernel_rfl, ?_⟩
            go_wp2_with fail
            go_roundg (gk - 1)
            case measure => omega
            case rel => exact ⟨j + 1, _, _, rfl, by omega, (by rw [← Hnum.out, numF_dig p j v hjs Hdig.out, Hbt.out]), (by have := RVm.next (v := v) (d := (p[j].toNat : Int) - 48) Hrv.out (by omega); rwa [if_neg (show ¬ vr < 0 by omega), clip_lo (v := vr * 10 + ((p[j].toNat : Int) - 48)) (by omega)] at this), (hb.set 1 (.int .i64 ((j : Int) + 1))).drew.drew.congr (fun o ho => by unfold upd; split <;> rfl), (hF.setC x 1 (.int .i64 ((j : Int) + 1)) (fun _ => rfl)).drew.drew⟩
          · have h3' : 3 < vr * 10 + ((p[j].toNat : Int) - 48) := by omega
            go_wp2_with fail
            refine wp_region_text (by kernel_rfl) (by kernel_rfl) ?_
            go_wp2_with fail
            refine ⟨by kernel_rfl, ?_⟩
            go_wp2_with fail
            refine wp_region_text (by kernel_rfl) (by kernel_rfl) ?_
            go_wp2_with fail
            refine ⟨by kernel_rfl, ?_⟩
            go_wp2_with fail
            go_roundg (gk - 1)
            case measure => omega
            case rel => exact ⟨j + 1, _, _, rfl, by omega, (by rw [← Hnum.out, numF_dig p j v hjs Hdig.out, Hbt.out]), (by have := RVm.next (v := v) (d := (p[j].toNat : Int) - 48) Hrv.out (by omega); rwa [if_neg (show ¬ vr < 0 by omega), clip_hi (v := vr * 10 + ((p[j].toNat : Int) - 48)) (by omega)] at this), (hb.set 1 (.int .i64 ((j : Int) + 1))).drew.drew.congr (fun o ho => by unfold upd; split <;> rfl), (hF.setC x 1 (.int .i64 ((j : Int) + 1)) (fun _ => rfl)).drew.drew⟩
      · have Hdig : Hid (digB (bt p j) = false) := by
          show digB (bt p j) = false
          rw [Hbt.out]
          simp only [digB, Bool.and_eq_false_iff, decide_eq_false_iff_not]
          omega
        have hstop : num p i = (v, j) := by rw [← Hnum.out, numF_stop p _ j v Hdig.out]
        rcases (show p[j].toNat < 48 ∨ 57 < p[j].toNat by omega) with d1 | d1
        · have d2 : decide ((48 : Int) ≤ p[j].toNat) = false := decide_eq_false (by omega)
          go_wp2_with fail
          refine wp_region_text (by kernel_rfl) (by kernel_rfl) ?_
          go_wp2_with fail
          refine ⟨by kernel_rfl, ?_⟩
          go_wp2_with fail
          go_ret
          rw [hstop]
          exact ⟨by rw [Hrv.out.1]; rfl, hb.drew, hF.drew⟩
        · have d2 : decide ((48 : Int) ≤ p[j].toNat) = true := decide_eq_true (by omega)
          have d3 : decide ((p[j].toNat : Int) ≤ 57) = false := decide_eq_false (by omega)
          go_wp2_with fail
          refine wp_region_text (by kernel_rfl) (by kernel_rfl) ?_
          go_wp2_with fail
          refine ⟨by kernel_rfl, ?_⟩
          go_wp2_with fail
          go_ret
          rw [hstop]
          exact ⟨by rw [Hrv.out.1]; rfl, hb.drew, hF.drew⟩
    · have hjd : decide ((j : Int) < p.size) = false := decide_eq_false (by omega)
      have hstop : num p i = (v, j) := by rw [← Hnum.out, numF_stop p _ j v (by rw [bt_out p j (by omega)]; rfl)]
      go_wp2_with fail
      refine wp_region_text (by kernel_rfl) (by kernel_rfl) ?_
      go_wp2_with fail
      refine ⟨by kernel_rfl, ?_⟩
      go_wp2_with fail
      go_ret
      rw [hstop]
      exact ⟨by rw [Hrv.out.1]; rfl, hb.drew, hF.drew⟩
end Go.Proofs.Qxb6500283aGreat
