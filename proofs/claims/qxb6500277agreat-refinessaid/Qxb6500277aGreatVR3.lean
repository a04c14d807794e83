/- The real machine: push. -/
import Derived.Test.Qxb6500277aGreatVR2
namespace Go.Proofs.Qxb6500277aGreat
open Go Go.RowKit

section
variable {w w' : World} {A : Va} {C : List Nat} {I : List Int} {V : Vs} {S S' : HS} {st st' : Nat → Int} {G : Gx} {nf : Nat} {cv iv ov : Value} {F : Nat → Prop} {f : Fm} {r : List Fm}
theorem Lay.ops (h : Lay st (f :: r) G) (o : List Int) (hb : ∀ i, i < G.fp + G.li + 3 → st' i = st i) (ho : ∀ i, i < o.length → st' (G.fp + G.li + 3 + i) = o.getD i 0) : Lay st' ({ f with ops := o } :: r) { G with sp := G.fp + G.li + 3 + o.length } := by
  simp only [Lay] at h ⊢
  obtain ⟨h1, h2, h3, h4, h5, h6, h7, G', g1, g2, g3, g4, g5, g6, g7⟩ := h
  exact ⟨h1, h2, h3, trivial, fun i hi => by rw [hb _ (by omega)]; exact h5 i hi, by rw [hb _ (by omega)]; exact h6, ho, G', g1, g2, g3, g4, by rw [hb _ (by omega)]; exact g5, by rw [hb _ (by omega)]; exact g6, g7.congr (fun i hi => hb i (by omega))⟩
theorem getD_app (l : List Int) (v : Int) (i : Nat) : (l ++ [v]).getD i 0 = if i < l.length then l.getD i 0 else if i = l.length then v else 0 := by
  by_cases h : i < l.length
  · rw [if_pos h]; simp [List.getD_eq_getElem?_getD, List.getElem?_append_left h]
  · rw [if_neg h]
    by_cases e : i = l.length
    · rw [if_pos e]; subst e; simp [List.getD_eq_getElem?_getD]
    · rw [if_neg e, List.getD_eq_getElem?_getD, List.getElem?_eq_none (by simp; omega)]; rfl
theorem getD_take (l : List Int) (n i : Nat) (h : i < n) : (l.take n).getD i 0 = l.getD i 0 := by
  simp [List.getD_eq_getElem?_getD, h]
/-- The same machine, its top frame's operands turned. -/
theorem RX.ops (H : RX w A C I V S st G nf cv iv ov) (hf : V.fs = f :: r) (k : Fr (fun b => b = A.m) w w') (o : List Int) {V' : Vs} (b : Blk w' A.m 65 (vC A st' { G with sp := G.fp + G.li + 3 + o.length } nf V' cv iv ov)) (e1 : V'.fs = { f with ops := o } :: r) (e2 : V'.out = V.out) (hb : ∀ i, i < G.fp + G.li + 3 → st' i = st i) (ho : ∀ i, i < o.length → st' (G.fp + G.li + 3 + i) = o.getD i 0) (hs : G.fp + G.li + 3 + o.length ≤ 48) : RX w' A C I V' S st' { G with sp := G.fp + G.li + 3 + o.length } nf cv iv ov := by
  have hl := H.lay
  rw [hf] at hl
  have hn := H.nfe
  rw [hf] at hn
  exact H.turn k b (by rw [e1]; exact hl.ops o hb ho) (by rw [hn, e1]; rfl) e2 hs
set_option maxRecDepth 100000 in
set_option maxHeartbeats 2000000 in
theorem vpushF (H : RX w A C I V S st G nf cv iv ov) (hf : V.fs = f :: r) (v : Int) : Calls Tryz.prog 109 #[.pointer (some ⟨A.m, 0, none⟩), .int .i64 v] w fun e w' => e = .returned (.tuple #[]) ∧ RY w' A C I (pushV V v) S cv iv ov ∧ Fr (VS A) w w' := by
  have c1 := H.r_sp
  have c2 := H.r_en
  have c3 := H.r_most
  have hlt := H.lt
  have hz := H.blk.frozen
  have hs := H.s48
  have hu := H.lay.used
  obtain ⟨h1, h2, h3, h4, h5, h6, h7⟩ := H.lays hf
  by_cases h48 : 48 ≤ G.sp
  · have K := (H.s_en 29).y
    have e0 : pushV V v = V.die 29 := by unfold pushV; rw [if_pos (by omega)]
    have HK : Hid (_ ∧ _) := ⟨K, (Fr.refl (VS A) w).setC A.m 61 (.int .i64 29) (fun _ => .inl rfl)⟩
    have z : decide ((G.sp : Int) ≥ 48) = true := decide_eq_true (by omega)
    clear H K h1 h2 h3 h4 h5 h6 h7 hu
    go_enter Tryz.func109, Tryz.ntmps109
    go_wp2_with fail
    exact bodyPost_ret (v := .tuple #[]) (by simp [results, Tryz.results109, go_sem]) rfl ⟨rfl, by rw [e0]; exact HK.out.1, HK.out.2⟩
  · have z : decide ((G.sp : Int) ≥ 48) = false := decide_eq_false (by omega)
    have hsp : (G.sp : Int) < 48 := by omega
    have cs := H.r_st (k := G.sp) (by omega)
    have kF : Fr (fun b => b = A.m) w ((w.setCell ⟨A.m, 1 + G.sp, none⟩ (.int .i64 v)).setCell ⟨A.m, 49, none⟩ (.int .i64 ((G.sp : Int) + 1))) := ((((Fr.refl (fun b => b = A.m) w).setC A.m (1 + G.sp) _ (fun _ => rfl))).setC A.m 49 _ (fun _ => rfl))
    have B1 := (((H.blk.set (1 + G.sp) (.int .i64 v)).congr (vC_st G.sp (by omega) v)).set 49 (.int .i64 ((G.sp + 1 : Nat) : Int))).congr (vC_sp (G.sp + 1))
    have e1 : G.sp + 1 = G.fp + G.li + 3 + (f.ops ++ [v]).length := by simp; omega
    rw [e1] at B1
    have eI : (((G.fp + G.li + 3 + (f.ops ++ [v]).length : Nat) : Int)) = (G.sp : Int) + 1 := by omega
    rw [eI] at B1
    have hb : ∀ i, i < G.fp + G.li + 3 → upd st G.sp v i = st i := fun i hi => upd_other _ _ _ _ (by omega)
    have ho : ∀ i, i < (f.ops ++ [v]).length → upd st G.sp v (G.fp + G.li + 3 + i) = (f.ops ++ [v]).getD i 0 := fun i hi => by
      simp only [List.length_append, List.length_singleton] at hi
      rw [getD_app]
      by_cases e : i < f.ops.length
      · rw [if_pos e, upd_other _ _ _ _ (by omega)]; exact h7 i e
      · rw [if_neg e, if_pos (by omega), show G.fp + G.li + 3 + i = G.sp by omega, upd_same]
    have hsl : G.fp + G.li + 3 + (f.ops ++ [v]).length ≤ 48 := by omega
    have HR : Hid (∀ (w' : World) (V' : Vs), Fr (fun b => b = A.m) w w' → Blk w' A.m 65 (vC A (upd st G.sp v) { G with sp := G.fp + G.li + 3 + (f.ops ++ [v]).length } nf V' cv iv ov) → V'.fs = { f with ops := f.ops ++ [v] } :: r → V'.out = V.out → RY w' A C I V' S cv iv ov) := fun w' V' k b x1 x2 => (H.ops hf k (f.ops ++ [v]) b x1 x2 hb ho hsl).y
    have HB1 : Hid (_ ∧ _) := ⟨B1, kF⟩
    have e0 : pushV V v = { V with fs := { f with ops := f.ops ++ [v] } :: r, most := max V.most (usedF V.fs + 1) } := by rw [pushV_c hf, if_neg (by rw [← hf]; omega), hf]
    have hu' : Hid (usedF V.fs = G.sp) := hu.symm
    clear H h1 h2 h3 h4 h5 h6 h7 hu B1 kF hb ho e1 eI hsl
    by_cases hmx : V.most < G.sp + 1
    · have z2 : decide ((G.sp : Int) + 1 > V.most) = true := decide_eq_true (by omega)
      have z3 : decide ((V.most : Int) < (G.sp : Int) + 1) = true := decide_eq_true (by omega)
      go_enter Tryz.func109, Tryz.ntmps109
      go_wp2_with fail
      refine wp_region_text (by kernel_rfl) (by kernel_rfl) ?_
      go_wp2_with fail
      refine ⟨by kernel_rfl, ?_⟩
      go_wp2_with fail
      go_quiet (fail)
      go_wp2_with fail
      go_end0
      have B2 := ((HB1.out.1.drewN (1 + nq)).set 64 (.int .i64 ((G.sp + 1 : Nat) : Int))).congr (vC_most (V := { V with fs := { f with ops := f.ops ++ [v] } :: r }) (G.sp + 1))
      refine ⟨rfl, ?_, ((HB1.out.2.drewN (1 + nq)).setC A.m 64 _ (fun _ => rfl)).mono (fun b _ h => .inl h)⟩
      rw [e0, hu'.out, show max V.most (G.sp + 1) = G.sp + 1 by omega]
      exact HR.out _ _ ((HB1.out.2.drewN (1 + nq)).setC A.m 64 _ (fun _ => rfl)) B2 rfl rfl
    · have z2 : decide ((G.sp : Int) + 1 > V.most) = false := decide_eq_false (by omega)
      have z3 : decide ((V.most : Int) < (G.sp : Int) + 1) = false := decide_eq_false (by omega)
      go_enter Tryz.func109, Tryz.ntmps109
      go_wp2_with fail
      refine wp_region_text (by kernel_rfl) (by kernel_rfl) ?_
      go_wp2_with fail
      refine ⟨by kernel_rfl, ?_⟩
      go_wp2_with fail
      go_quiet (fail)
      go_wp2_with fail
      go_end0
      refine ⟨rfl, ?_, (HB1.out.2.drew.drewN nq).mono (fun b _ h => .inl h)⟩
      rw [e0, hu'.out, show max V.most (G.sp + 1) = V.most by omega]
      exact HR.out _ _ (HB1.out.2.drew.drewN nq) (HB1.out.1.drew.drewN nq) rfl rfl
end
end Go.Proofs.Qxb6500277aGreat
