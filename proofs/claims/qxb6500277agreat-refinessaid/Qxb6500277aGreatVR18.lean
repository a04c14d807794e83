/- The real machine: returns with a ref. -/
import Derived.Test.Qxb6500277aGreatVR17
namespace Go.Proofs.Qxb6500277aGreat
open Go Go.RowKit

section
variable {w w' : World} {A : Va} {C : List Nat} {I : List Int} {V : Vs} {S S' : HS} {M : MS} {st st' : Nat → Int} {G : Gx} {nf : Nat} {cv iv ov : Value} {F : Nat → Prop} {f : Fm} {r : List Fm} {os : List Int}
set_option maxRecDepth 100000 in
set_option maxHeartbeats 600000 in
theorem retR_no (H : RX w A C I V S st G nf cv iv ov) (hR : Rel S M) (h1 : V.fs.length = 1) : Calls Tryz.prog 118 #[.pointer (some ⟨A.m, 0, none⟩)] w (RZ w A C I (V.die 24) M cv iv ov) := by
  have c1 := H.r_nf
  rw [H.nfe, h1] at c1
  have c3 := H.r_en
  have hlt := H.lt
  have hz := H.blk.frozen
  have K := (H.s_en 24).y
  have HK : Hid (_ ∧ _) := ⟨K, (Fr.refl (VS A) w).setC A.m 61 (.int .i64 24) (fun _ => .inl rfl)⟩
  clear H K h1
  go_enter Tryz.func118, Tryz.ntmps118
  go_wp2_with fail
  exact bodyPost_ret (v := .tuple #[]) (by simp [results, Tryz.results118, go_sem]) rfl ⟨rfl, S, HK.out.1, hR, HK.out.2⟩
set_option maxRecDepth 100000 in
set_option maxHeartbeats 600000 in
theorem retR_ok (H : RX w A C I V S st G nf cv iv ov) (hR : Rel S M) (hf : V.fs = f :: r) (hr : r ≠ []) (hb : f.rb ≤ 24) : Calls Tryz.prog 118 #[.pointer (some ⟨A.m, 0, none⟩)] w (RZ w A C I (leaveV V) (slideM M ((M.rt.length : Int) - f.rb - 1)).2 cv iv ov) := by
  have c1 := H.r_nf
  have hn : nf ≠ 1 := by rw [H.nfe, hf]; cases r with | nil => exact absurd rfl hr | cons a b => simp
  have hni : ¬ ((nf : Int) = 1) := by omega
  have z : decide ((nf : Int) = 1) = false := decide_eq_false hni
  have z2 : decide (nf = 1) = false := decide_eq_false hn
  have c2 := H.r_rb
  have c3 := H.r_h
  have hlt := H.lt
  obtain ⟨_, _, h3, _⟩ := H.lays hf
  rw [h3] at c2
  have hT := depthF H.hm
  have hL := hR.len
  rw [← hL] at hT
  have hL24 : M.rt.length ≤ 24 := by rw [hL]; exact hR.top
  generalize M.rt.length = n at *
  have hD := slideF (H.same ((Fr.refl _ _).drew)).hm hR.top ((n : Int) - f.rb - 1)
  obtain ⟨q1, q2⟩ := hR.slide ((n : Int) - f.rb - 1)
  have HH : Hid _ := And.intro (H.same ((Fr.refl (fun _ => False) w).drew)) (And.intro q2 hf)
  generalize (slideN S ((n : Int) - f.rb - 1)).1 = er at *
  generalize (slideN S ((n : Int) - f.rb - 1)).2 = S1 at *
  clear H h3 hf hr q1 q2 hR hL hn
  go_enter Tryz.func118, Tryz.ntmps118
  go_wp2_with fail
  refine hT.mono ?_
  rintro v w1 ⟨rfl, rfl⟩
  clear hT
  go_wp2_with fail
  refine wp_region_text (by kernel_rfl) (by kernel_rfl) ?_
  go_wp2_with fail
  refine hD.mono ?_
  rintro v w3 ⟨rfl, hm3, k3⟩
  clear hD
  have R3 := HH.out.1.heap k3 hm3
  have hLv := leaveF R3 HH.out.2.2
  have HR3 : Hid _ := k3
  clear R3 k3 hm3
  go_wp2_with fail
  refine ⟨by kernel_rfl, ?_⟩
  go_wp2_with fail
  refine hLv.mono ?_
  rintro v w4 ⟨rfl, ⟨G4, R4⟩, k4⟩
  clear hLv
  go_wp2_with fail
  go_end0
  exact ⟨rfl, _, R4.y, HH.out.2.1, (((Fr.refl (VS A) w1).drew).trans (HR3.out.mono (fun b _ h => .inr h)) (fun _ _ h => h)).trans k4 (fun _ _ h => h)⟩
end
end Go.Proofs.Qxb6500277aGreat
