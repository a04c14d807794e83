/- The real machine: two operands. -/
import Derived.Test.Qxb6500277aGreatVR6
namespace Go.Proofs.Qxb6500277aGreat
open Go Go.RowKit

section
variable {w w' : World} {A : Va} {C : List Nat} {I : List Int} {V : Vs} {S S' : HS} {st st' : Nat → Int} {G : Gx} {nf : Nat} {cv iv ov : Value} {F : Nat → Prop} {f : Fm} {r : List Fm}
/-- The two top words. -/
theorem RX.two (H : RX w A C I V S st G nf cv iv ov) (hf : V.fs = f :: r) (h2 : 2 ≤ f.ops.length) : ∃ k, G.sp = k + 2 ∧ k + 2 ≤ 48 ∧ k = G.fp + G.li + 3 + (f.ops.length - 2) ∧ st k = opn V 1 ∧ st (k + 1) = opn V 0 := by
  obtain ⟨h1, _, _, h4, _, _, h7⟩ := H.lays hf
  have hs := H.s48
  refine ⟨G.fp + G.li + 3 + (f.ops.length - 2), by omega, by omega, rfl, ?_, ?_⟩
  · rw [h7 _ (by omega)]; unfold opn; rw [topO_c hf]; congr 1
  · rw [show G.fp + G.li + 3 + (f.ops.length - 2) + 1 = G.fp + G.li + 3 + (f.ops.length - 1) by omega, h7 _ (by omega)]; unfold opn; rw [topO_c hf]; congr 1
theorem RX.one (H : RX w A C I V S st G nf cv iv ov) (hf : V.fs = f :: r) (h2 : 1 ≤ f.ops.length) : ∃ k, G.sp = k + 1 ∧ k + 1 ≤ 48 ∧ k = G.fp + G.li + 3 + (f.ops.length - 1) ∧ st k = opn V 0 := by
  obtain ⟨h1, _, _, h4, _, _, h7⟩ := H.lays hf
  have hs := H.s48
  refine ⟨G.fp + G.li + 3 + (f.ops.length - 1), by omega, by omega, rfl, ?_⟩
  rw [h7 _ (by omega)]; unfold opn; rw [topO_c hf]; congr 1
/-- n operands go: the stack pointer falls. -/
theorem RX.drop (H : RX w A C I V S st G nf cv iv ov) (hf : V.fs = f :: r) (n : Nat) (hn : n ≤ f.ops.length) {k : Nat} (hk : G.sp = k + n) : RX (w.setCell ⟨A.m, 49, none⟩ (.int .i64 (k : Nat))) A C I (dropO V n) S st { G with sp := k } nf cv iv ov := by
  obtain ⟨h1, _, _, h4, _, _, h7⟩ := H.lays hf
  have hs := H.s48
  have e : k = G.fp + G.li + 3 + (f.ops.take (f.ops.length - n)).length := by simp; omega
  rw [dropO_c hf]
  have B := (H.blk.set 49 (.int .i64 (k : Nat))).congr (vC_sp k)
  rw [e] at B ⊢
  exact H.ops hf ((Fr.refl (fun b => b = A.m) w).setC A.m 49 _ (fun _ => rfl)) _ B rfl rfl (fun _ _ => rfl) (fun i hi => by
    have hi' : i < f.ops.length - n := by simp at hi; omega
    rw [getD_take _ _ _ hi']; exact h7 i (by omega)) (by omega)
/-- .. and the last of those that stay is overwritten. -/
theorem RX.put (H : RX w A C I V S st G nf cv iv ov) (hf : V.fs = f :: r) (n : Nat) (hn : n ≤ f.ops.length) (h0 : 0 < n) {k : Nat} (hk : G.sp = k + n) (v : Int) (hfr : Fr (fun b => b = A.m) w w') (hB : Blk w' A.m 65 (vC A (upd st k v) { G with sp := k + 1 } nf V cv iv ov)) : RX w' A C I (putO V n v) S (upd st k v) { G with sp := k + 1 } nf cv iv ov := by
  obtain ⟨h1, _, _, h4, _, _, h7⟩ := H.lays hf
  have hs := H.s48
  have e : k + 1 = G.fp + G.li + 3 + (f.ops.take (f.ops.length - n) ++ [v]).length := by simp; omega
  rw [putO_c hf]
  rw [e] at hB ⊢
  refine H.ops hf hfr _ hB rfl rfl (fun i hi => upd_other _ _ _ _ (by omega)) (fun i hi => ?_) (by omega)
  have hl : (f.ops.take (f.ops.length - n)).length = f.ops.length - n := by simp
  rw [getD_app, hl]
  by_cases c : i < f.ops.length - n
  · rw [if_pos c, upd_other _ _ _ _ (by omega), getD_take _ _ _ c]; exact h7 i (by omega)
  · have hi' : i < f.ops.length - n + 1 := by simp at hi; omega
    rw [if_neg c, if_pos (by omega), show G.fp + G.li + 3 + i = k by omega, upd_same]
set_option maxRecDepth 100000 in
set_option maxHeartbeats 4000000 in
theorem arith8 (H : RX w A C I V S st G nf cv iv ov) (hf : V.fs = f :: r) (h2 : 2 ≤ f.ops.length) : Calls Tryz.prog 113 #[.pointer (some ⟨A.m, 0, none⟩), .int .i64 8] w fun e w' => e = .returned (.tuple #[]) ∧ RY w' A C I (putO V 2 (arithI 8 (opn V 1) (opn V 0))) S cv iv ov ∧ Fr (VS A) w w' := by
  obtain ⟨k, hk, hk48, -, s0, s1⟩ := H.two hf h2
  have c1 := H.r_sp
  rw [hk] at c1
  have Hk : Hid _ := hk
  have ca := H.r_st (k := k) (by omega)
  have cb := H.r_st (k := k + 1) (by omega)
  rw [s0] at ca
  rw [s1] at cb
  have hlt := H.lt
  have hz := H.blk.frozen
  have e1 : ((k + 2 : Nat) : Int) - 1 = ((k + 1 : Nat) : Int) := by omega
  have e2 : ((k + 1 : Nat) : Int) - 1 = (k : Int) := by omega
  have hki : ((k + 1 : Nat) : Int) < 48 := by omega
  have HH : Hid (RX w A C I V S st G nf cv iv ov) := H
  clear H hk s0 s1
  have ek : ((k : Int) + 2 - 1) = ((k + 1 : Nat) : Int) := by omega
  have Hek : Hid _ := ek
  clear ek
  go_enter Tryz.func113, Tryz.ntmps113
  go_wp2_with fail
  go_quiet (fail)
  go_wp2_with fail
  generalize hw2 : World.drewN _ _ = w2
  have D2 : RX w2 A C I (dropO V 1) S st { G with sp := k + 1 } nf cv iv ov := by
    rw [← hw2, Hek.out]
    exact (HH.out.drop hf 1 (by omega) (k := k + 1) Hk.out).drewN _
  have F2 : Fr (fun b => b = A.m) w w2 := by
    rw [← hw2]
    exact ((Fr.refl (fun b => b = A.m) w).setC A.m 49 _ (fun _ => rfl)).drewN _
  have d1 := D2.r_sp
  have d2 := D2.r_st (k := k) (by omega)
  have d3 := D2.r_en
  have dlt := D2.lt
  have dz := D2.blk.frozen
  simp only at d1
  have B2 : Blk w2 A.m 65 (vC A st { G with sp := k + 1 } nf V cv iv ov) := by
    refine D2.blk.congr fun o ho => ?_
    rw [dropO_c hf]
    rfl
  have HB : Hid (_ ∧ _) := ⟨B2, F2⟩
  clear D2 B2 F2 hw2 c1 ca cb hlt hz e1
  refine wp_region_text (by kernel_rfl) (by kernel_rfl) ?_
  go_wp2_with fail
  refine ⟨by kernel_rfl, ?_⟩
  go_wp2_with fail
  go_end0
  exact ⟨rfl, (HH.out.put hf 2 h2 (by omega) Hk.out _ (HB.out.2.setC A.m (1 + k) _ (fun _ => rfl)).drew ((HB.out.1.set (1 + k) (.int .i64 (wrap64 (opn V 1 + opn V 0)))).congr (vC_st k (by omega) _)).drew).y, ((HB.out.2.setC A.m (1 + k) _ (fun _ => rfl)).drew).mono (fun b _ h => .inl h)⟩
set_option maxRecDepth 100000 in
set_option maxHeartbeats 4000000 in
theorem arith9 (H : RX w A C I V S st G nf cv iv ov) (hf : V.fs = f :: r) (h2 : 2 ≤ f.ops.length) : Calls Tryz.prog 113 #[.pointer (some ⟨A.m, 0, none⟩), .int .i64 9] w fun e w' => e = .returned (.tuple #[]) ∧ RY w' A C I (putO V 2 (arithI 9 (opn V 1) (opn V 0))) S cv iv ov ∧ Fr (VS A) w w' := by
  obtain ⟨k, hk, hk48, -, s0, s1⟩ := H.two hf h2
  have c1 := H.r_sp
  rw [hk] at c1
  have Hk : Hid _ := hk
  have ca := H.r_st (k := k) (by omega)
  have cb := H.r_st (k := k + 1) (by omega)
  rw [s0] at ca
  rw [s1] at cb
  have hlt := H.lt
  have hz := H.blk.frozen
  have e1 : ((k + 2 : Nat) : Int) - 1 = ((k + 1 : Nat) : Int) := by omega
  have e2 : ((k + 1 : Nat) : Int) - 1 = (k : Int) := by omega
  have hki : ((k + 1 : Nat) : Int) < 48 := by omega
  have HH : Hid (RX w A C I V S st G nf cv iv ov) := H
  clear H hk s0 s1
  have ek : ((k : Int) + 2 - 1) = ((k + 1 : Nat) : Int) := by omega
  have Hek : Hid _ := ek
  clear ek
  go_enter Tryz.func113, Tryz.ntmps113
  go_wp2_with fail
  go_quiet (fail)
  go_wp2_with fail
  generalize hw2 : World.drewN _ _ = w2
  have D2 : RX w2 A C I (dropO V 1) S st { G with sp := k + 1 } nf cv iv ov := by
    rw [← hw2, Hek.out]
    exact (HH.out.drop hf 1 (by omega) (k := k + 1) Hk.out).drewN _
  have F2 : Fr (fun b => b = A.m) w w2 := by
    rw [← hw2]
    exact ((Fr.refl (fun b => b = A.m) w).setC A.m 49 _ (fun _ => rfl)).drewN _
  have d1 := D2.r_sp
  have d2 := D2.r_st (k := k) (by omega)
  have d3 := D2.r_en
  have dlt := D2.lt
  have dz := D2.blk.frozen
  simp only at d1
  have B2 : Blk w2 A.m 65 (vC A st { G with sp := k + 1 } nf V cv iv ov) := by
    refine D2.blk.congr fun o ho => ?_
    rw [dropO_c hf]
    rfl
  have HB : Hid (_ ∧ _) := ⟨B2, F2⟩
  clear D2 B2 F2 hw2 c1 ca cb hlt hz e1
  refine wp_region_text (by kernel_rfl) (by kernel_rfl) ?_
  go_wp2_with fail
  refine ⟨by kernel_rfl, ?_⟩
  go_wp2_with fail
  go_end0
  exact ⟨rfl, (HH.out.put hf 2 h2 (by omega) Hk.out _ (HB.out.2.setC A.m (1 + k) _ (fun _ => rfl)).drew ((HB.out.1.set (1 + k) (.int .i64 (wrap64 (opn V 1 - opn V 0)))).congr (vC_st k (by omega) _)).drew).y, ((HB.out.2.setC A.m (1 + k) _ (fun _ => rfl)).drew).mono (fun b _ h => .inl h)⟩
set_option maxRecDepth 100000 in
set_option maxHeartbeats 4000000 in
theorem arith10 (H : RX w A C I V S st G nf cv iv ov) (hf : V.fs = f :: r) (h2 : 2 ≤ f.ops.length) : Calls Tryz.prog 113 #[.pointer (some ⟨A.m, 0, none⟩), .int .i64 10] w fun e w' => e = .returned (.tuple #[]) ∧ RY w' A C I (putO V 2 (arithI 10 (opn V 1) (opn V 0))) S cv iv ov ∧ Fr (VS A) w w' := by
  obtain ⟨k, hk, hk48, -, s0, s1⟩ := H.two hf h2
  have c1 := H.r_sp
  rw [hk] at c1
  have Hk : Hid _ := hk
  have ca := H.r_st (k := k) (by omega)
  have cb := H.r_st (k := k + 1) (by omega)
  rw [s0] at ca
  rw [s1] at cb
  have hlt := H.lt
  have hz := H.blk.frozen
  have e1 : ((k + 2 : Nat) : Int) - 1 = ((k + 1 : Nat) : Int) := by omega
  have e2 : ((k + 1 : Nat) : Int) - 1 = (k : Int) := by omega
  have hki : ((k + 1 : Nat) : Int) < 48 := by omega
  have HH : Hid (RX w A C I V S st G nf cv iv ov) := H
  clear H hk s0 s1
  have ek : ((k : Int) + 2 - 1) = ((k + 1 : Nat) : Int) := by omega
  have Hek : Hid _ := ek
  clear ek
  go_enter Tryz.func113, Tryz.ntmps113
  go_wp2_with fail
  go_quiet (fail)
  go_wp2_with fail
  generalize hw2 : World.drewN _ _ = w2
  have D2 : RX w2 A C I (dropO V 1) S st { G with sp := k + 1 } nf cv iv ov := by
    rw [← hw2, Hek.out]
    exact (HH.out.drop hf 1 (by omega) (k := k + 1) Hk.out).drewN _
  have F2 : Fr (fun b => b = A.m) w w2 := by
    rw [← hw2]
    exact ((Fr.refl (fun b => b = A.m) w).setC A.m 49 _ (fun _ => rfl)).drewN _
  have d1 := D2.r_sp
  have d2 := D2.r_st (k := k) (by omega)
  have d3 := D2.r_en
  have dlt := D2.lt
  have dz := D2.blk.frozen
  simp only at d1
  have B2 : Blk w2 A.m 65 (vC A st { G with sp := k + 1 } nf V cv iv ov) := by
    refine D2.blk.congr fun o ho => ?_
    rw [dropO_c hf]
    rfl
  have HB : Hid (_ ∧ _) := ⟨B2, F2⟩
  clear D2 B2 F2 hw2 c1 ca cb hlt hz e1
  refine wp_region_text (by kernel_rfl) (by kernel_rfl) ?_
  go_wp2_with fail
  refine ⟨by kernel_rfl, ?_⟩
  go_wp2_with fail
  go_end0
  exact ⟨rfl, (HH.out.put hf 2 h2 (by omega) Hk.out _ (HB.out.2.setC A.m (1 + k) _ (fun _ => rfl)).drew ((HB.out.1.set (1 + k) (.int .i64 (wrap64 (opn V 1 * opn V 0)))).congr (vC_st k (by omega) _)).drew).y, ((HB.out.2.setC A.m (1 + k) _ (fun _ => rfl)).drew).mono (fun b _ h => .inl h)⟩
set_option maxRecDepth 100000 in
set_option maxHeartbeats 4000000 in
theorem arith11 (H : RX w A C I V S st G nf cv iv ov) (hf : V.fs = f :: r) (h2 : 2 ≤ f.ops.length) (hb0 : opn V 0 ≠ 0) : Calls Tryz.prog 113 #[.pointer (some ⟨A.m, 0, none⟩), .int .i64 11] w fun e w' => e = .returned (.tuple #[]) ∧ RY w' A C I (putO V 2 (arithI 11 (opn V 1) (opn V 0))) S cv iv ov ∧ Fr (VS A) w w' := by
  obtain ⟨k, hk, hk48, -, s0, s1⟩ := H.two hf h2
  have c1 := H.r_sp
  rw [hk] at c1
  have Hk : Hid _ := hk
  have ca := H.r_st (k := k) (by omega)
  have cb := H.r_st (k := k + 1) (by omega)
  rw [s0] at ca
  rw [s1] at cb
  have hlt := H.lt
  have hz := H.blk.frozen
  have e1 : ((k + 2 : Nat) : Int) - 1 = ((k + 1 : Nat) : Int) := by omega
  have e2 : ((k + 1 : Nat) : Int) - 1 = (k : Int) := by omega
  have hki : ((k + 1 : Nat) : Int) < 48 := by omega
  have HH : Hid (RX w A C I V S st G nf cv iv ov) := H
  clear H hk s0 s1
  have ek : ((k : Int) + 2 - 1) = ((k + 1 : Nat) : Int) := by omega
  have Hek : Hid _ := ek
  clear ek
  have zb : (opn V 0 == 0) = false := by simpa using hb0
  have hQ := quoF (opn V 1) (opn V 0) hb0
  have HQ : Hid _ := hQ
  clear hQ hb0
  go_enter Tryz.func113, Tryz.ntmps113
  go_wp2_with fail
  go_quiet (fail)
  go_wp2_with fail
  generalize hw2 : World.drewN _ _ = w2
  have D2 : RX w2 A C I (dropO V 1) S st { G with sp := k + 1 } nf cv iv ov := by
    rw [← hw2, Hek.out]
    exact (HH.out.drop hf 1 (by omega) (k := k + 1) Hk.out).drewN _
  have F2 : Fr (fun b => b = A.m) w w2 := by
    rw [← hw2]
    exact ((Fr.refl (fun b => b = A.m) w).setC A.m 49 _ (fun _ => rfl)).drewN _
  have d1 := D2.r_sp
  have d2 := D2.r_st (k := k) (by omega)
  have d3 := D2.r_en
  have dlt := D2.lt
  have dz := D2.blk.frozen
  simp only at d1
  have B2 : Blk w2 A.m 65 (vC A st { G with sp := k + 1 } nf V cv iv ov) := by
    refine D2.blk.congr fun o ho => ?_
    rw [dropO_c hf]
    rfl
  have HB : Hid (_ ∧ _) := ⟨B2, F2⟩
  clear D2 B2 F2 hw2 c1 ca cb hlt hz e1
  refine (HQ.out _).mono ?_
  rintro v w3 ⟨rfl, rfl⟩
  go_wp2_with fail
  refine wp_region_text (by kernel_rfl) (by kernel_rfl) ?_
  go_wp2_with fail
  refine ⟨by kernel_rfl, ?_⟩
  go_wp2_with fail
  go_end0
  exact ⟨rfl, (HH.out.put hf 2 h2 (by omega) Hk.out _ (HB.out.2.setC A.m (1 + k) _ (fun _ => rfl)).drew ((HB.out.1.set (1 + k) (.int .i64 (quoI (opn V 1) (opn V 0)))).congr (vC_st k (by omega) _)).drew).y, ((HB.out.2.setC A.m (1 + k) _ (fun _ => rfl)).drew).mono (fun b _ h => .inl h)⟩
set_option maxRecDepth 100000 in
set_option maxHeartbeats 4000000 in
theorem arith11z (H : RX w A C I V S st G nf cv iv ov) (hf : V.fs = f :: r) (h2 : 2 ≤ f.ops.length) (hb0 : opn V 0 = 0) : Calls Tryz.prog 113 #[.pointer (some ⟨A.m, 0, none⟩), .int .i64 11] w fun e w' => e = .returned (.tuple #[]) ∧ RY w' A C I ((dropO V 1).die 25) S cv iv ov ∧ Fr (VS A) w w' := by
  obtain ⟨k, hk, hk48, -, s0, s1⟩ := H.two hf h2
  have c1 := H.r_sp
  rw [hk] at c1
  have Hk : Hid _ := hk
  have ca := H.r_st (k := k) (by omega)
  have cb := H.r_st (k := k + 1) (by omega)
  rw [s0] at ca
  rw [s1] at cb
  have hlt := H.lt
  have hz := H.blk.frozen
  have e1 : ((k + 2 : Nat) : Int) - 1 = ((k + 1 : Nat) : Int) := by omega
  have e2 : ((k + 1 : Nat) : Int) - 1 = (k : Int) := by omega
  have hki : ((k + 1 : Nat) : Int) < 48 := by omega
  have HH : Hid (RX w A C I V S st G nf cv iv ov) := H
  clear H hk s0 s1
  have ek : ((k : Int) + 2 - 1) = ((k + 1 : Nat) : Int) := by omega
  have Hek : Hid _ := ek
  clear ek
  rw [hb0] at cb
  clear hb0
  go_enter Tryz.func113, Tryz.ntmps113
  go_wp2_with fail
  go_quiet (fail)
  generalize hw2 : World.drewN _ _ = w2
  have D2 : RX w2 A C I (dropO V 1) S st { G with sp := k + 1 } nf cv iv ov := by
    rw [← hw2, Hek.out]
    exact (HH.out.drop hf 1 (by omega) (k := k + 1) Hk.out).drewN _
  have F2 : Fr (fun b => b = A.m) w w2 := by
    rw [← hw2]
    exact ((Fr.refl (fun b => b = A.m) w).setC A.m 49 _ (fun _ => rfl)).drewN _
  have d1 := D2.r_sp
  have d2 := D2.r_st (k := k) (by omega)
  have d3 := D2.r_en
  have dlt := D2.lt
  have dz := D2.blk.frozen
  simp only at d1
  have B2 : Blk w2 A.m 65 (vC A st { G with sp := k + 1 } nf V cv iv ov) := by
    refine D2.blk.congr fun o ho => ?_
    rw [dropO_c hf]
    rfl
  have HB : Hid (_ ∧ _) := ⟨B2, F2⟩
  have K := (D2.s_en 25).y
  have HK : Hid (_ ∧ _) := ⟨K, (F2.mono (S' := VS A) (fun b _ h => .inl h)).setC A.m 61 (.int .i64 25) (fun _ => .inl rfl)⟩
  clear D2 B2 F2 hw2 c1 ca cb hlt hz e1 K
  go_wp2_with fail
  exact bodyPost_ret (v := .tuple #[]) (by simp [results, Tryz.results113, go_sem]) rfl ⟨rfl, HK.out.1, HK.out.2⟩
set_option maxRecDepth 100000 in
set_option maxHeartbeats 4000000 in
theorem arith12 (H : RX w A C I V S st G nf cv iv ov) (hf : V.fs = f :: r) (h2 : 2 ≤ f.ops.length) (hb0 : opn V 0 ≠ 0) : Calls Tryz.prog 113 #[.pointer (some ⟨A.m, 0, none⟩), .int .i64 12] w fun e w' => e = .returned (.tuple #[]) ∧ RY w' A C I (putO V 2 (arithI 12 (opn V 1) (opn V 0))) S cv iv ov ∧ Fr (VS A) w w' := by
  obtain ⟨k, hk, hk48, -, s0, s1⟩ := H.two hf h2
  have c1 := H.r_sp
  rw [hk] at c1
  have Hk : Hid _ := hk
  have ca := H.r_st (k := k) (by omega)
  have cb := H.r_st (k := k + 1) (by omega)
  rw [s0] at ca
  rw [s1] at cb
  have hlt := H.lt
  have hz := H.blk.frozen
  have e1 : ((k + 2 : Nat) : Int) - 1 = ((k + 1 : Nat) : Int) := by omega
  have e2 : ((k + 1 : Nat) : Int) - 1 = (k : Int) := by omega
  have hki : ((k + 1 : Nat) : Int) < 48 := by omega
  have HH : Hid (RX w A C I V S st G nf cv iv ov) := H
  clear H hk s0 s1
  have ek : ((k : Int) + 2 - 1) = ((k + 1 : Nat) : Int) := by omega
  have Hek : Hid _ := ek
  clear ek
  have zb : (opn V 0 == 0) = false := by simpa using hb0
  have hQ := remF (opn V 1) (opn V 0) hb0
  have HQ : Hid _ := hQ
  clear hQ hb0
  go_enter Tryz.func113, Tryz.ntmps113
  go_wp2_with fail
  go_quiet (fail)
  go_wp2_with fail
  generalize hw2 : World.drewN _ _ = w2
  have D2 : RX w2 A C I (dropO V 1) S st { G with sp := k + 1 } nf cv iv ov := by
    rw [← hw2, Hek.out]
    exact (HH.out.drop hf 1 (by omega) (k := k + 1) Hk.out).drewN _
  have F2 : Fr (fun b => b = A.m) w w2 := by
    rw [← hw2]
    exact ((Fr.refl (fun b => b = A.m) w).setC A.m 49 _ (fun _ => rfl)).drewN _
  have d1 := D2.r_sp
  have d2 := D2.r_st (k := k) (by omega)
  have d3 := D2.r_en
  have dlt := D2.lt
  have dz := D2.blk.frozen
  simp only at d1
  have B2 : Blk w2 A.m 65 (vC A st { G with sp := k + 1 } nf V cv iv ov) := by
    refine D2.blk.congr fun o ho => ?_
    rw [dropO_c hf]
    rfl
  have HB : Hid (_ ∧ _) := ⟨B2, F2⟩
  clear D2 B2 F2 hw2 c1 ca cb hlt hz e1
  refine (HQ.out _).mono ?_
  rintro v w3 ⟨rfl, rfl⟩
  go_wp2_with fail
  refine wp_region_text (by kernel_rfl) (by kernel_rfl) ?_
  go_wp2_with fail
  refine ⟨by kernel_rfl, ?_⟩
  go_wp2_with fail
  go_end0
  exact ⟨rfl, (HH.out.put hf 2 h2 (by omega) Hk.out _ (HB.out.2.setC A.m (1 + k) _ (fun _ => rfl)).drew ((HB.out.1.set (1 + k) (.int .i64 (remI (opn V 1) (opn V 0)))).congr (vC_st k (by omega) _)).drew).y, ((HB.out.2.setC A.m (1 + k) _ (fun _ => rfl)).drew).mono (fun b _ h => .inl h)⟩
set_option maxRecDepth 100000 in
set_option maxHeartbeats 4000000 in
theorem arith12z (H : RX w A C I V S st G nf cv iv ov) (hf : V.fs = f :: r) (h2 : 2 ≤ f.ops.length) (hb0 : opn V 0 = 0) : Calls Tryz.prog 113 #[.pointer (some ⟨A.m, 0, none⟩), .int .i64 12] w fun e w' => e = .returned (.tuple #[]) ∧ RY w' A C I ((dropO V 1).die 25) S cv iv ov ∧ Fr (VS A) w w' := by
  obtain ⟨k, hk, hk48, -, s0, s1⟩ := H.two hf h2
  have c1 := H.r_sp
  rw [hk] at c1
  have Hk : Hid _ := hk
  have ca := H.r_st (k := k) (by omega)
  have cb := H.r_st (k := k + 1) (by omega)
  rw [s0] at ca
  rw [s1] at cb
  have hlt := H.lt
  have hz := H.blk.frozen
  have e1 : ((k + 2 : Nat) : Int) - 1 = ((k + 1 : Nat) : Int) := by omega
  have e2 : ((k + 1 : Nat) : Int) - 1 = (k : Int) := by omega
  have hki : ((k + 1 : Nat) : Int) < 48 := by omega
  have HH : Hid (RX w A C I V S st G nf cv iv ov) := H
  clear H hk s0 s1
  have ek : ((k : Int) + 2 - 1) = ((k + 1 : Nat) : Int) := by omega
  have Hek : Hid _ := ek
  clear ek
  rw [hb0] at cb
  clear hb0
  go_enter Tryz.func113, Tryz.ntmps113
  go_wp2_with fail
  go_quiet (fail)
  generalize hw2 : World.drewN _ _ = w2
  have D2 : RX w2 A C I (dropO V 1) S st { G with sp := k + 1 } nf cv iv ov := by
    rw [← hw2, Hek.out]
    exact (HH.out.drop hf 1 (by omega) (k := k + 1) Hk.out).drewN _
  have F2 : Fr (fun b => b = A.m) w w2 := by
    rw [← hw2]
    exact ((Fr.refl (fun b => b = A.m) w).setC A.m 49 _ (fun _ => rfl)).drewN _
  have d1 := D2.r_sp
  have d2 := D2.r_st (k := k) (by omega)
  have d3 := D2.r_en
  have dlt := D2.lt
  have dz := D2.blk.frozen
  simp only at d1
  have B2 : Blk w2 A.m 65 (vC A st { G with sp := k + 1 } nf V cv iv ov) := by
    refine D2.blk.congr fun o ho => ?_
    rw [dropO_c hf]
    rfl
  have HB : Hid (_ ∧ _) := ⟨B2, F2⟩
  have K := (D2.s_en 25).y
  have HK : Hid (_ ∧ _) := ⟨K, (F2.mono (S' := VS A) (fun b _ h => .inl h)).setC A.m 61 (.int .i64 25) (fun _ => .inl rfl)⟩
  clear D2 B2 F2 hw2 c1 ca cb hlt hz e1 K
  go_wp2_with fail
  exact bodyPost_ret (v := .tuple #[]) (by simp [results, Tryz.results113, go_sem]) rfl ⟨rfl, HK.out.1, HK.out.2⟩
end
end Go.Proofs.Qxb6500277aGreat
