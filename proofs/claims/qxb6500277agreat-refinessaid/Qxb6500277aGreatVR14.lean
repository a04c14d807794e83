/- The real machine: lengths. -/
import Derived.Test.Qxb6500277aGreatVR13
namespace Go.Proofs.Qxb6500277aGreat
open Go Go.RowKit

section
variable {w w' : World} {A : Va} {C : List Nat} {I : List Int} {V : Vs} {S S' : HS} {M : MS} {st st' : Nat → Int} {G : Gx} {nf : Nat} {cv iv ov : Value} {F : Nat → Prop} {f : Fm} {r : List Fm} {os : List Int}
theorem HInv.len (hI : HInv S os) (i : Int) : 0 ≤ (lenN S i).1 ∧ (lenN S i).1 ≤ 96 ∧ 0 ≤ (lenN S i).2.1 ∧ (lenN S i).2.1 ≤ 96 := by
  unfold lenN
  rcases hI.at i with ⟨h1, h2, hd⟩ | ⟨k, rfl, hk, ⟨h1, h2, hd⟩ | ⟨a, h1, h2, h3, h4, h5, h6, h7, h8⟩⟩
  · simp [h1]
  · simp [h1]
  · simp only [h1, h2, ne_eq, not_true, if_false]
    unfold wdO at h6
    have e : (((a : Nat) : Int)).toNat = a := by omega
    rw [e]
    refine ⟨by omega, by omega, by omega, by omega⟩
set_option maxRecDepth 100000 in
set_option maxHeartbeats 4000000 in
theorem length_no (H : RX w A C I V S st G nf cv iv ov) (hR : Rel S M) (he : (lenM M ((M.rt.length : Int) - 1)).2.2 ≠ 0) : Calls Tryz.prog 122 #[.pointer (some ⟨A.m, 0, none⟩)] w (RZ w A C I (V.die (endOf (lenM M ((M.rt.length : Int) - 1)).2.2)) M cv iv ov) := by
  have c2 := H.r_h
  have hlt := H.lt
  have hT := depthF H.hm
  have hL := hR.len
  rw [← hL] at hT
  have hL24 : M.rt.length ≤ 24 := by rw [hL]; exact hR.top
  obtain ⟨P, os, hI, _, _⟩ := hR.all
  have hA := lenFn H.hm hI ((M.rt.length : Int) - 1)
  rw [hR.lenF] at hA
  generalize (lenM M ((M.rt.length : Int) - 1)).2.2 = er at *
  generalize (lenM M ((M.rt.length : Int) - 1)).1 = va at *
  generalize (lenM M ((M.rt.length : Int) - 1)).2.1 = vb at *
  have hDid := heapDidF H er
  have hz : decide (er = 0) = false := decide_eq_false he
  have HE : Hid (did V er = V.die (endOf er)) := by unfold did; rw [if_neg he]; exact rfl
  rw [hz] at hDid
  clear H hL hI he hz
  generalize M.rt.length = n at *
  go_enter Tryz.func122, Tryz.ntmps122
  go_wp2_with fail
  refine hT.mono ?_
  rintro v w1 ⟨rfl, rfl⟩
  clear hT
  go_wp2_with fail
  refine hA.mono ?_
  rintro v w3 ⟨rfl, rfl⟩
  clear hA
  go_wp2_with fail
  refine hDid.mono ?_
  rintro v w4 ⟨rfl, R4, k4⟩
  clear hDid
  go_wp2_with fail
  first
    | exact bodyPost_ret (v := .tuple #[]) (by simp [results, Tryz.results122, go_sem]) rfl ⟨rfl, S, HE.out ▸ R4.y, hR, k4⟩
    | (go_end0; exact ⟨rfl, S, HE.out ▸ R4.y, hR, k4⟩)
set_option maxRecDepth 100000 in
set_option maxHeartbeats 4000000 in
theorem length_ok (H : RX w A C I V S st G nf cv iv ov) (hR : Rel S M) (hf : V.fs = f :: r) (he : (lenM M ((M.rt.length : Int) - 1)).2.2 = 0) : Calls Tryz.prog 122 #[.pointer (some ⟨A.m, 0, none⟩)] w (RZ w A C I (pushV V ((lenM M ((M.rt.length : Int) - 1)).1 + (lenM M ((M.rt.length : Int) - 1)).2.1)) (popM M 1).2 cv iv ov) := by
  have c2 := H.r_h
  have hlt := H.lt
  have hT := depthF H.hm
  have hL := hR.len
  rw [← hL] at hT
  have hL24 : M.rt.length ≤ 24 := by rw [hL]; exact hR.top
  obtain ⟨P, os, hI, _, _⟩ := hR.all
  have hA := lenFn H.hm hI ((M.rt.length : Int) - 1)
  obtain ⟨b1, b2, b3, b4⟩ := hI.len ((M.rt.length : Int) - 1)
  rw [hR.lenF] at hA b1 b2 b3 b4
  generalize (lenM M ((M.rt.length : Int) - 1)).2.2 = er at *
  generalize (lenM M ((M.rt.length : Int) - 1)).1 = va at *
  generalize (lenM M ((M.rt.length : Int) - 1)).2.1 = vb at *
  have hDid := heapDidF H er
  have hz : decide (er = 0) = true := decide_eq_true he
  have HE : Hid (did V er = V) := by unfold did; rw [if_pos he]; exact rfl
  rw [hz] at hDid
  have HF : Hid (_ ∧ _) := ⟨hf, hR⟩
  have HJ : Hid (∃ V', V' = pushV V (va + vb)) := ⟨_, rfl⟩
  obtain ⟨V', hV'⟩ := HJ.out
  rw [← hV']
  have HV : Hid _ := hV'
  clear H hL hI he hz hf hR hV' HJ
  generalize M.rt.length = n at *
  go_enter Tryz.func122, Tryz.ntmps122
  go_wp2_with fail
  refine hT.mono ?_
  rintro v w1 ⟨rfl, rfl⟩
  clear hT
  go_wp2_with fail
  refine hA.mono ?_
  rintro v w3 ⟨rfl, rfl⟩
  clear hA
  go_wp2_with fail
  refine hDid.mono ?_
  rintro v w4 ⟨rfl, R4, k4⟩
  clear hDid
  rw [HE.out] at R4
  obtain ⟨q1, q2⟩ := HF.out.2.pop 1
  have hP := popF R4.hm HF.out.2.top 1
  have d3 := R4.r_h
  have dlt3 := R4.lt
  have HR4 : Hid (_ ∧ _ ∧ _) := ⟨R4, k4, q2⟩
  generalize (popN S 1).1 = pe at *
  clear R4 k4 q1 q2 c2 hlt
  go_wp2_with fail
  refine hP.mono ?_
  rintro v w5 ⟨rfl, hm5, k5⟩
  clear hP
  have R5 := HR4.out.1.heap k5 hm5
  have hPu := vpushF R5 HF.out.1 (va + vb)
  rw [← HV.out] at hPu
  have HR6 : Hid _ := k5
  clear R5 k5 hm5 d3 dlt3
  go_wp2_with fail
  refine hPu.mono ?_
  rintro v w6 ⟨rfl, Y6, k6⟩
  clear hPu
  go_wp2_with fail
  go_end0
  exact ⟨rfl, _, Y6, HR4.out.2.2, (HR4.out.2.1.trans (HR6.out.mono (fun b _ h => .inr h)) (fun _ _ h => h)).trans k6 (fun _ _ h => h)⟩
end
end Go.Proofs.Qxb6500277aGreat
