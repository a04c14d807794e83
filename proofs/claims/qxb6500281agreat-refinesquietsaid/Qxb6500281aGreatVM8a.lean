/- The model machine: pop with nothing new; operands and locals. -/
import Derived.Test.Qxb6500281aGreatVM8
namespace Go.Proofs.Qxb6500281aGreat
open Go Go.RowKit

section
variable {w w' w1 : World} {rn hm : Nat} {C : List Nat} {I : List Int} {V V' : Vs} {M M' : MS} {col col' : Nat → Nat} {P P' F : Nat → Prop} {cv iv ov fv : Value} {g : Nat → Value} {f : Fm} {r : List Fm}
set_option maxRecDepth 100000 in
set_option maxHeartbeats 600000 in
theorem vpopMS (H : MR w rn hm C I V M col P cv iv ov fv g) (hf : V.fs = f :: r) (h48 : r.length ≤ 48) (ho : 1 ≤ f.ops.length) (ho48 : f.ops.length ≤ 48) : Calls Tryz.prog 82 #[.pointer (some ⟨rn, 0, none⟩)] w fun e w' => e = .returned (.int .i64 (opn V 0)) ∧ (∃ col' cv' iv' ov' fv' g', MR w' rn hm C I (dropO V 1) M col' P cv' iv' ov' fv' g') ∧ Fr P w w' ∧ w'.heap.size = w.heap.size := by
  have hT := topMF H hf h48
  have c5 := H.cl' (o := 5) (by omega)
  simp only [rC] at c5
  obtain ⟨fb, cap, efv, q1, q2, q3, p0, p1, p2, p3, p4, kl, ko⟩ := H.tops hf
  rw [efv] at c5
  have hlt := H.rlt
  obtain ⟨n, hn⟩ : ∃ n, f.ops.length = n + 1 := ⟨f.ops.length - 1, by omega⟩
  obtain ⟨ob, oc, eo, l1, l2, l3⟩ := ko.get (i := n) (by omega)
  have hop : f.ops[n] = opn V 0 := by
    unfold opn
    rw [topO_c hf, show f.ops.length - 1 - 0 = n by omega]
    simp [show n < f.ops.length by omega]
  rw [hop] at l2
  rw [eo, hn] at p2
  have ko2 := ko
  rw [eo] at ko2
  have kt := ko2.take (k := n) (by omega)
  have hdr : dropO V 1 = { V with fs := { f with ops := f.ops.take n } :: r } := by rw [dropO_c hf, hn]; rfl
  have k1 : Fr (isB (g (r.length * 5 + 2))) w w.drew := (Fr.refl _ w).drew
  have key := H.opsT hf efv (z := r.length * 5 + 2) (by omega) k1 (kt.frame ((Fr.refl (fun _ => False) w).drew) (fun _ _ h => h)) (fun c hc => .inr (by rw [eo]; obtain ⟨_, _, e'⟩ := hc; cases e'; exact ⟨_, _, rfl⟩))
  have keyF := H.opsF hf efv (z := r.length * 5 + 2) (v' := .slice (some ⟨ob, 0, none⟩) n oc) (by omega) k1
  have hoc : n + 1 ≤ oc := by
    obtain ⟨a, c, e', h'⟩ := ko.sl
    rw [eo] at e'
    cases e'
    omega
  have HK : Hid _ := And.intro key (And.intro keyF hdr)
  have hlt0 := H.lt
  have hn48 : n ≤ 48 := by omega
  have hfr : fb ≠ rn := fun e => by
    have h1 := (H.cfs fb ⟨_, _, efv⟩).1
    rw [e, H.crn.1] at h1
    cases h1
  generalize opn V 0 = x at *
  obtain ⟨t, ht⟩ : ∃ t, t = r.length := ⟨_, rfl⟩
  rw [← ht] at c5 p2 q1 h48 hT
  have hti : (t : Int) < (t : Int) + 1 := by omega
  have Ht : Hid _ := And.intro ht hlt0
  clear H hf efv ko kl kt ko2 eo hop key keyF k1 p0 p1 p3 p4 hdr ht hn l3 ho hlt0
  rw [← Ht.out.1] at HK
  go_enter Tryz.func82, Tryz.ntmps82
  go_wp2_with fail
  refine hT.mono ?_
  rintro v w1 ⟨rfl, rfl⟩
  clear hT
  go_wp2_with fail
  refine wp_region_text (by kernel_rfl) (by kernel_rfl) ?_
  go_wp2_with fail
  refine ⟨by kernel_rfl, ?_⟩
  go_wp2_with fail
  go_ret
  refine ⟨rfl, ?_, HK.out.2.1, by simp⟩
  rw [HK.out.2.2]
  have hsz : w1.drew.heap.size = w1.heap.size := rfl
  exact ⟨_, _, _, _, _, _, HK.out.1.up (fun c hc => hc.elim id (fun h => by have h1 := h.1; have h2 := h.2; rw [hsz] at h2; omega)) (fun c hc => by have := Ht.out.2 c hc; simpa using this)⟩
theorem drop_zero (V : Vs) : dropO V 0 = V := by
  obtain ⟨fs, pc, fuel, ip, out, en, rt, steps, most⟩ := V
  cases fs with
  | nil => rfl
  | cons f r => simp [dropO, setO, topO]
theorem drop_succ (hf : V.fs = f :: r) (j : Nat) : dropO (dropO V j) 1 = dropO V (j + 1) := by
  rw [dropO_c (drop_fs hf j), dropO_c hf, dropO_c hf]
  simp only [List.length_take, List.take_take]
  rw [show min (min (f.ops.length - j) f.ops.length - 1) (f.ops.length - j) = f.ops.length - (j + 1) by omega]
theorem opn_dropj (hf : V.fs = f :: r) (j : Nat) (h : j < f.ops.length) : opn (dropO V j) 0 = opn V j := by
  unfold opn
  rw [topO_c (drop_fs hf j), topO_c hf]
  simp only [List.length_take]
  rw [show min (f.ops.length - j) f.ops.length - 1 - 0 = f.ops.length - 1 - j by omega]
  simp only [List.getD_eq_getElem?_getD]
  rw [List.getElem?_take_of_lt (by omega)]
/-- The locals of a new frame. -/
theorem loc_new {lb li pi : Nat} {fl : Nat → Value} (hB : Blk w lb li fl) (hp : pi ≤ li) (hp2 : pi ≤ (topO V).length) (hfl : ∀ q, q < li → fl q = if q < pi then .int .i64 (opn V (pi - 1 - q)) else .int .i64 0) : KiAt w (.slice (some ⟨lb, 0, none⟩) li li) ((topO V).drop ((topO V).length - pi) ++ List.replicate (li - pi) 0) := by
  have hlen : ((topO V).drop ((topO V).length - pi) ++ List.replicate (li - pi) (0 : Int)).length = li := by simp; omega
  refine .inr ⟨lb, li, fl, by rw [hlen], by omega, hB, fun i hi => ?_⟩
  rw [hlen] at hi
  rw [hfl i hi]
  by_cases h : i < pi
  · rw [if_pos h, List.getElem_append_left (by simp; omega), List.getElem_drop]
    unfold opn
    congr 1
    rw [show (topO V).length - 1 - (pi - 1 - i) = (topO V).length - pi + i by omega]
    simp only [List.getD_eq_getElem?_getD]
    rw [List.getElem?_eq_getElem (by omega)]
    rfl
  · rw [if_neg h, List.getElem_append_right (by simp; omega)]
    simp
end
end Go.Proofs.Qxb6500281aGreat
