/- The real machine: int locals. -/
import Derived.Test.Qxb6500277aGreatVR8
namespace Go.Proofs.Qxb6500277aGreat
open Go Go.RowKit

section
variable {w w' : World} {A : Va} {C : List Nat} {I : List Int} {V : Vs} {S S' : HS} {st st' : Nat → Int} {G : Gx} {nf : Nat} {cv iv ov : Value} {F : Nat → Prop} {f : Fm} {r : List Fm}
set_option maxRecDepth 100000 in
set_option maxHeartbeats 4000000 in
theorem local_no (H : RX w A C I V S st G nf cv iv ov) (hf : V.fs = f :: r) {op : Int} (s : Nat) (hs : f.loc.length ≤ s) : Calls Tryz.prog 110 #[.pointer (some ⟨A.m, 0, none⟩), .int .i64 op, .int .i64 (s : Nat)] w fun e w' => e = .returned (.tuple #[]) ∧ RY w' A C I (V.die 24) S cv iv ov ∧ Fr (VS A) w w' := by
  have c1 := H.r_li
  have c2 := H.r_en
  have hlt := H.lt
  have hz := H.blk.frozen
  obtain ⟨h1, _⟩ := H.lays hf
  rw [h1] at c1
  have z : decide ((s : Int) ≥ (f.loc.length : Int)) = true := decide_eq_true (by omega)
  have z2 : decide (f.loc.length ≤ s) = true := decide_eq_true hs
  have K := (H.s_en 24).y
  have HK : Hid (_ ∧ _) := ⟨K, (Fr.refl (VS A) w).setC A.m 61 (.int .i64 24) (fun _ => .inl rfl)⟩
  clear H K h1 hf
  go_enter Tryz.func110, Tryz.ntmps110
  go_wp2_with fail
  exact bodyPost_ret (v := .tuple #[]) (by simp [results, Tryz.results110, go_sem]) rfl ⟨rfl, HK.out.1, HK.out.2⟩
set_option maxRecDepth 100000 in
set_option maxHeartbeats 4000000 in
theorem local_ld (H : RX w A C I V S st G nf cv iv ov) (hf : V.fs = f :: r) (s : Nat) (hs : s < f.loc.length) : Calls Tryz.prog 110 #[.pointer (some ⟨A.m, 0, none⟩), .int .i64 2, .int .i64 (s : Nat)] w fun e w' => e = .returned (.tuple #[]) ∧ RY w' A C I (pushV V (f.loc.getD s 0)) S cv iv ov ∧ Fr (VS A) w w' := by
  have c1 := H.r_li
  have c2 := H.r_fp
  have hlt := H.lt
  have hz := H.blk.frozen
  obtain ⟨h1, _, _, h4, h5, _, _⟩ := H.lays hf
  have h48 := H.s48
  have c3 := H.r_st (k := G.fp + s) (by omega)
  rw [h5 s (by omega)] at c3
  rw [h1] at c1
  have z : decide ((s : Int) ≥ (f.loc.length : Int)) = false := decide_eq_false (by omega)
  have z2 : decide (f.loc.length ≤ s) = false := decide_eq_false (by omega)
  have hfp : G.fp ≤ 48 := by omega
  have hs48 : s ≤ 48 := by omega
  have hsum : (G.fp : Int) + (s : Int) < 48 := by omega
  have hsum0 : 0 ≤ (G.fp : Int) + (s : Int) := by omega
  have hP := vpushF (H.same ((Fr.refl _ _).drew)) hf (f.loc.getD s 0)
  generalize f.loc.getD s 0 = x at *
  clear H h1 h4 h5 hf h48 hs
  go_enter Tryz.func110, Tryz.ntmps110
  go_wp2_with fail
  refine wp_region_text (by kernel_rfl) (by kernel_rfl) ?_
  go_wp2_with fail
  refine hP.mono ?_
  rintro v w1 ⟨rfl, R1, k1⟩
  clear hP
  go_wp2_with fail
  refine ⟨by kernel_rfl, ?_⟩
  go_wp2_with fail
  exact bodyPost_ret (v := .tuple #[]) (by simp [results, Tryz.results110, go_sem]) rfl ⟨rfl, R1, ((Fr.refl (VS A) w).drew).trans k1 (fun _ _ h => h)⟩
theorem Lay.loc (h : Lay st (f :: r) G) (s : Nat) (x : Int) (hs : s < G.li) : Lay (upd st (G.fp + s) x) ({ f with loc := f.loc.set s x } :: r) G := by
  simp only [Lay] at h ⊢
  obtain ⟨h1, h2, h3, h4, h5, h6, h7, G', g1, g2, g3, g4, g5, g6, g7⟩ := h
  have far : ∀ i, i ≠ G.fp + s → upd st (G.fp + s) x i = st i := fun i hi => upd_other _ _ _ _ hi
  refine ⟨by simpa using h1, h2, h3, h4, fun i hi => ?_, by rw [far _ (by omega)]; exact h6, fun i hi => by rw [far _ (by omega)]; exact h7 i hi, G', g1, g2, g3, g4, by rw [far _ (by omega)]; exact g5, by rw [far _ (by omega)]; exact g6, g7.congr (fun i hi => far i (by omega))⟩
  by_cases e : i = s
  · subst e; rw [upd_same]; simp [List.getD_eq_getElem?_getD, ← h1, hs]
  · rw [far _ (by omega), h5 i hi]; simp [List.getD_eq_getElem?_getD, List.getElem?_set_ne (fun h => e h.symm)]
set_option maxRecDepth 100000 in
set_option maxHeartbeats 4000000 in
theorem local_st (H : RX w A C I V S st G nf cv iv ov) (hf : V.fs = f :: r) (ho : 1 ≤ f.ops.length) (s : Nat) (hs : s < f.loc.length) : Calls Tryz.prog 110 #[.pointer (some ⟨A.m, 0, none⟩), .int .i64 3, .int .i64 (s : Nat)] w fun e w' => e = .returned (.tuple #[]) ∧ RY w' A C I (setLoc (dropO V 1) s (opn V 0)) S cv iv ov ∧ Fr (VS A) w w' := by
  obtain ⟨k, hk, hk48, -, s0⟩ := H.one hf ho
  have c0 := H.r_sp
  rw [hk] at c0
  have c1 := H.r_li
  have c2 := H.r_fp
  have hlt := H.lt
  have hz := H.blk.frozen
  obtain ⟨h1, _, _, h4, h5, _, _⟩ := H.lays hf
  have c3 := H.r_st (k := G.fp + s) (by omega)
  have c4 := H.r_st (k := k) (by omega)
  rw [s0] at c4
  have D := H.drop hf 1 ho (k := k) hk
  have hd := dropO_c hf 1
  have hdf : (dropO V 1).fs = { f with ops := f.ops.take (f.ops.length - 1) } :: r := by rw [hd]
  have hl := D.lay
  rw [hdf] at hl
  have B := (D.blk.set (1 + (G.fp + s)) (.int .i64 (opn V 0))).congr (vC_st (G.fp + s) (by omega) (opn V 0))
  have R : ∀ w', Fr (fun b => b = A.m) (w.setCell ⟨A.m, 49, none⟩ (.int .i64 (k : Nat))) w' → Blk w' A.m 65 (vC A (upd st (G.fp + s) (opn V 0)) { G with sp := k } nf (dropO V 1) cv iv ov) → RY w' A C I (setLoc (dropO V 1) s (opn V 0)) S cv iv ov := fun w' kk bb => by
    have hll := hl.loc s (opn V 0) (by show s < G.li; omega)
    have hnn := D.nfe
    rw [hdf] at hnn
    rw [setLoc_c hdf]
    exact (D.turn (V' := { dropO V 1 with fs := { f with loc := f.loc.set s (opn V 0), ops := f.ops.take (f.ops.length - 1) } :: r }) kk bb hll hnn rfl D.s48).y
  have HR : Hid (_ ∧ _) := ⟨R, B⟩
  have HF : Hid (Fr (fun b => b = A.m) w (w.setCell ⟨A.m, 49, none⟩ (.int .i64 (k : Nat)))) := (Fr.refl (fun b => b = A.m) w).setC A.m 49 _ (fun _ => rfl)
  rw [h1] at c1
  have z : decide ((s : Int) ≥ (f.loc.length : Int)) = false := decide_eq_false (by omega)
  have z2 : decide (f.loc.length ≤ s) = false := decide_eq_false (by omega)
  have hfp : G.fp ≤ 48 := by omega
  have hs48 : s ≤ 48 := by omega
  have hsum : (G.fp : Int) + (s : Int) < 48 := by omega
  have hsum0 : 0 ≤ (G.fp : Int) + (s : Int) := by omega
  have hki : (k : Int) < 48 := by omega
  have e1 : ((k + 1 : Nat) : Int) - 1 = (k : Int) := by omega
  have hne : 1 + k ≠ 49 := by omega
  generalize opn V 0 = x at *
  clear H h1 h4 h5 hf hs hk hk48 s0 D hd hdf hl B R ho
  go_enter Tryz.func110, Tryz.ntmps110
  go_wp2_with fail
  refine wp_region_text (by kernel_rfl) (by kernel_rfl) ?_
  go_wp2_with fail
  refine ⟨by kernel_rfl, ?_⟩
  go_wp2_with fail
  go_end0
  have k2 := ((Fr.refl (fun b => b = A.m) (w.setCell ⟨A.m, 49, none⟩ (.int .i64 (k : Nat)))).setC A.m (1 + (G.fp + s)) (.int .i64 x) (fun _ => rfl)).drew
  exact ⟨rfl, HR.out.1 _ k2 HR.out.2.drew, (HF.out.trans k2 (fun _ _ h => h)).mono (fun b _ h => .inl h)⟩
end
end Go.Proofs.Qxb6500277aGreat
