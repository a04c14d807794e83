/- The real machine: comparisons. -/
import Derived.Test.Qxb6500277aGreatVR7
import Derived.Test.Qxb6500277aGreatText6
namespace Go.Proofs.Qxb6500277aGreat
open Go Go.RowKit

section
variable {w w' : World} {A : Va} {C : List Nat} {I : List Int} {V : Vs} {S S' : HS} {st st' : Nat → Int} {G : Gx} {nf : Nat} {cv iv ov : Value} {F : Nat → Prop} {f : Fm} {r : List Fm}
set_option maxRecDepth 100000 in
set_option maxHeartbeats 4000000 in
theorem comp15 (H : RX w A C I V S st G nf cv iv ov) (hf : V.fs = f :: r) (h2 : 2 ≤ f.ops.length) : Calls Tryz.prog 114 #[.pointer (some ⟨A.m, 0, none⟩), .int .i64 15] w fun e w' => e = .returned (.tuple #[]) ∧ RY w' A C I (putO V 2 (compI 15 (opn V 1) (opn V 0))) S cv iv ov ∧ Fr (VS A) w w' := by
  obtain ⟨k, hk, hk48, -, s0, s1⟩ := H.two hf h2
  have c1 := H.r_sp
  rw [hk] at c1
  have Hk : Hid _ := hk
  have ca := H.r_st (k := k) (by omega)
  have cb := H.r_st (k := k + 1) (by omega)
  rw [s0] at ca
  rw [s1] at cb
  have hlt := H.lt
  have hz := H.blk.frozen
  have e1 : ((k + 2 : Nat) : Int) - 1 = ((k + 1 : Nat) : Int) := by omega
  have e2 : ((k + 1 : Nat) : Int) - 1 = (k : Int) := by omega
  have hki : ((k + 1 : Nat) : Int) < 48 := by omega
  have HH : Hid (RX w A C I V S st G nf cv iv ov) := H
  clear H hk s0 s1
  have ek : ((k : Int) + 2 - 1) = ((k + 1 : Nat) : Int) := by omega
  have Hek : Hid _ := ek
  clear ek
  obtain ⟨tb, htb⟩ : ∃ tb : Bool, decide (opn V 1 = opn V 0) = tb := ⟨_, rfl⟩
  have Htb : Hid (compI 15 (opn V 1) (opn V 0) = flagI tb) := by show _ = _; rw [← htb]; rfl
  have t1 : (opn V 1 == opn V 0) = tb := by rw [← htb]; by_cases h : opn V 1 = opn V 0 <;> simp [h]
  clear htb
  obtain ⟨fl, hfl⟩ : ∃ fl, fl = flagI tb := ⟨_, rfl⟩
  have HQ : Hid (∀ w : World, Calls Tryz.prog 115 #[.bool tb] w fun e w' => e = .returned (.int .i64 fl) ∧ w' = w) := by
    show ∀ w : World, _
    rw [hfl]; exact flagF tb
  rw [← hfl] at Htb
  clear hfl
  go_enter Tryz.func114, Tryz.ntmps114
  go_wp2_with fail
  go_quiet (fail)
  go_wp2_with fail
  generalize hw2 : World.drewN _ _ = w2
  have D2 : RX w2 A C I (dropO V 1) S st { G with sp := k + 1 } nf cv iv ov := by
    rw [← hw2, Hek.out]
    exact (HH.out.drop hf 1 (by omega) (k := k + 1) Hk.out).drewN _
  have F2 : Fr (fun b => b = A.m) w w2 := by
    rw [← hw2]
    exact ((Fr.refl (fun b => b = A.m) w).setC A.m 49 _ (fun _ => rfl)).drewN _
  have d1 := D2.r_sp
  have d2 := D2.r_st (k := k) (by omega)
  have d3 := D2.r_en
  have dlt := D2.lt
  have dz := D2.blk.frozen
  simp only at d1
  have B2 : Blk w2 A.m 65 (vC A st { G with sp := k + 1 } nf V cv iv ov) := by
    refine D2.blk.congr fun o ho => ?_
    rw [dropO_c hf]
    rfl
  have HB : Hid (_ ∧ _) := ⟨B2, F2⟩
  clear D2 B2 F2 hw2 c1 ca cb hlt hz e1
  refine wp_region_twoK [0, 1, 2, 3, 6, 8, 9] [4, 5, 7, 10, 11] [7, 4, 5, 10, 11] (by kernel_rfl) (by kernel_rfl) ?_
  simp only [pick, List.filterMap_cons, List.filterMap_nil, List.getElem?_cons_zero, List.getElem?_cons_succ]
  go_wp2_with fail
  refine ⟨?_, ?_⟩
  · go_wp2_with fail
    refine (HQ.out _).mono ?_
    rintro v w3 ⟨rfl, rfl⟩
    have hk1 : (k : Int) < 48 := by omega
    have Hk48 : Hid _ := hk48
    have Hhf : Hid (V.fs = f :: r ∧ 2 ≤ f.ops.length) := ⟨hf, h2⟩
    clear t1 HQ hk48 hf h2
    go_wp2_with fail
    refine ⟨by kernel_rfl, ?_⟩
    go_wp2_with fail
    rw [Htb.out]
    have hf := Hhf.out.1
    have h2 := Hhf.out.2
    have hk48 := Hk48.out
    go_end0
    exact ⟨rfl, (HH.out.put hf 2 h2 (by omega) Hk.out _ (HB.out.2.setC A.m (1 + k) _ (fun _ => rfl)).drew ((HB.out.1.set (1 + k) (.int .i64 (fl))).congr (vC_st k (by omega) _)).drew).y, ((HB.out.2.setC A.m (1 + k) _ (fun _ => rfl)).drew).mono (fun b _ h => .inl h)⟩
  · go_wp2_with fail
    refine (HQ.out _).mono ?_
    rintro v w3 ⟨rfl, rfl⟩
    have hk1 : (k : Int) < 48 := by omega
    have Hk48 : Hid _ := hk48
    have Hhf : Hid (V.fs = f :: r ∧ 2 ≤ f.ops.length) := ⟨hf, h2⟩
    clear t1 HQ hk48 hf h2
    go_wp2_with fail
    refine ⟨by kernel_rfl, ?_⟩
    go_wp2_with fail
    rw [Htb.out]
    have hf := Hhf.out.1
    have h2 := Hhf.out.2
    have hk48 := Hk48.out
    go_end0
    exact ⟨rfl, (HH.out.put hf 2 h2 (by omega) Hk.out _ (HB.out.2.setC A.m (1 + k) _ (fun _ => rfl)).drew ((HB.out.1.set (1 + k) (.int .i64 (fl))).congr (vC_st k (by omega) _)).drew).y, ((HB.out.2.setC A.m (1 + k) _ (fun _ => rfl)).drew).mono (fun b _ h => .inl h)⟩
set_option maxRecDepth 100000 in
set_option maxHeartbeats 4000000 in
theorem comp16 (H : RX w A C I V S st G nf cv iv ov) (hf : V.fs = f :: r) (h2 : 2 ≤ f.ops.length) : Calls Tryz.prog 114 #[.pointer (some ⟨A.m, 0, none⟩), .int .i64 16] w fun e w' => e = .returned (.tuple #[]) ∧ RY w' A C I (putO V 2 (compI 16 (opn V 1) (opn V 0))) S cv iv ov ∧ Fr (VS A) w w' := by
  obtain ⟨k, hk, hk48, -, s0, s1⟩ := H.two hf h2
  have c1 := H.r_sp
  rw [hk] at c1
  have Hk : Hid _ := hk
  have ca := H.r_st (k := k) (by omega)
  have cb := H.r_st (k := k + 1) (by omega)
  rw [s0] at ca
  rw [s1] at cb
  have hlt := H.lt
  have hz := H.blk.frozen
  have e1 : ((k + 2 : Nat) : Int) - 1 = ((k + 1 : Nat) : Int) := by omega
  have e2 : ((k + 1 : Nat) : Int) - 1 = (k : Int) := by omega
  have hki : ((k + 1 : Nat) : Int) < 48 := by omega
  have HH : Hid (RX w A C I V S st G nf cv iv ov) := H
  clear H hk s0 s1
  have ek : ((k : Int) + 2 - 1) = ((k + 1 : Nat) : Int) := by omega
  have Hek : Hid _ := ek
  clear ek
  obtain ⟨tb, htb⟩ : ∃ tb : Bool, decide (opn V 1 ≠ opn V 0) = tb := ⟨_, rfl⟩
  have Htb : Hid (compI 16 (opn V 1) (opn V 0) = flagI tb) := by show _ = _; rw [← htb]; rfl
  have t1 : (opn V 1 != opn V 0) = tb := by rw [← htb]; by_cases h : opn V 1 = opn V 0 <;> simp [h]
  clear htb
  obtain ⟨fl, hfl⟩ : ∃ fl, fl = flagI tb := ⟨_, rfl⟩
  have HQ : Hid (∀ w : World, Calls Tryz.prog 115 #[.bool tb] w fun e w' => e = .returned (.int .i64 fl) ∧ w' = w) := by
    show ∀ w : World, _
    rw [hfl]; exact flagF tb
  rw [← hfl] at Htb
  clear hfl
  go_enter Tryz.func114, Tryz.ntmps114
  go_wp2_with fail
  go_quiet (fail)
  go_wp2_with fail
  generalize hw2 : World.drewN _ _ = w2
  have D2 : RX w2 A C I (dropO V 1) S st { G with sp := k + 1 } nf cv iv ov := by
    rw [← hw2, Hek.out]
    exact (HH.out.drop hf 1 (by omega) (k := k + 1) Hk.out).drewN _
  have F2 : Fr (fun b => b = A.m) w w2 := by
    rw [← hw2]
    exact ((Fr.refl (fun b => b = A.m) w).setC A.m 49 _ (fun _ => rfl)).drewN _
  have d1 := D2.r_sp
  have d2 := D2.r_st (k := k) (by omega)
  have d3 := D2.r_en
  have dlt := D2.lt
  have dz := D2.blk.frozen
  simp only at d1
  have B2 : Blk w2 A.m 65 (vC A st { G with sp := k + 1 } nf V cv iv ov) := by
    refine D2.blk.congr fun o ho => ?_
    rw [dropO_c hf]
    rfl
  have HB : Hid (_ ∧ _) := ⟨B2, F2⟩
  clear D2 B2 F2 hw2 c1 ca cb hlt hz e1
  refine wp_region_twoK [0, 1, 2, 3, 6, 8, 9] [4, 5, 7, 10, 11] [7, 4, 5, 10, 11] (by kernel_rfl) (by kernel_rfl) ?_
  simp only [pick, List.filterMap_cons, List.filterMap_nil, List.getElem?_cons_zero, List.getElem?_cons_succ]
  go_wp2_with fail
  refine ⟨?_, ?_⟩
  · go_wp2_with fail
    refine (HQ.out _).mono ?_
    rintro v w3 ⟨rfl, rfl⟩
    have hk1 : (k : Int) < 48 := by omega
    have Hk48 : Hid _ := hk48
    have Hhf : Hid (V.fs = f :: r ∧ 2 ≤ f.ops.length) := ⟨hf, h2⟩
    clear t1 HQ hk48 hf h2
    go_wp2_with fail
    refine ⟨by kernel_rfl, ?_⟩
    go_wp2_with fail
    rw [Htb.out]
    have hf := Hhf.out.1
    have h2 := Hhf.out.2
    have hk48 := Hk48.out
    go_end0
    exact ⟨rfl, (HH.out.put hf 2 h2 (by omega) Hk.out _ (HB.out.2.setC A.m (1 + k) _ (fun _ => rfl)).drew ((HB.out.1.set (1 + k) (.int .i64 (fl))).congr (vC_st k (by omega) _)).drew).y, ((HB.out.2.setC A.m (1 + k) _ (fun _ => rfl)).drew).mono (fun b _ h => .inl h)⟩
  · go_wp2_with fail
    refine (HQ.out _).mono ?_
    rintro v w3 ⟨rfl, rfl⟩
    have hk1 : (k : Int) < 48 := by omega
    have Hk48 : Hid _ := hk48
    have Hhf : Hid (V.fs = f :: r ∧ 2 ≤ f.ops.length) := ⟨hf, h2⟩
    clear t1 HQ hk48 hf h2
    go_wp2_with fail
    refine ⟨by kernel_rfl, ?_⟩
    go_wp2_with fail
    rw [Htb.out]
    have hf := Hhf.out.1
    have h2 := Hhf.out.2
    have hk48 := Hk48.out
    go_end0
    exact ⟨rfl, (HH.out.put hf 2 h2 (by omega) Hk.out _ (HB.out.2.setC A.m (1 + k) _ (fun _ => rfl)).drew ((HB.out.1.set (1 + k) (.int .i64 (fl))).congr (vC_st k (by omega) _)).drew).y, ((HB.out.2.setC A.m (1 + k) _ (fun _ => rfl)).drew).mono (fun b _ h => .inl h)⟩
set_option maxRecDepth 100000 in
set_option maxHeartbeats 4000000 in
theorem comp17 (H : RX w A C I V S st G nf cv iv ov) (hf : V.fs = f :: r) (h2 : 2 ≤ f.ops.length) : Calls Tryz.prog 114 #[.pointer (some ⟨A.m, 0, none⟩), .int .i64 17] w fun e w' => e = .returned (.tuple #[]) ∧ RY w' A C I (putO V 2 (compI 17 (opn V 1) (opn V 0))) S cv iv ov ∧ Fr (VS A) w w' := by
  obtain ⟨k, hk, hk48, -, s0, s1⟩ := H.two hf h2
  have c1 := H.r_sp
  rw [hk] at c1
  have Hk : Hid _ := hk
  have ca := H.r_st (k := k) (by omega)
  have cb := H.r_st (k := k + 1) (by omega)
  rw [s0] at ca
  rw [s1] at cb
  have hlt := H.lt
  have hz := H.blk.frozen
  have e1 : ((k + 2 : Nat) : Int) - 1 = ((k + 1 : Nat) : Int) := by omega
  have e2 : ((k + 1 : Nat) : Int) - 1 = (k : Int) := by omega
  have hki : ((k + 1 : Nat) : Int) < 48 := by omega
  have HH : Hid (RX w A C I V S st G nf cv iv ov) := H
  clear H hk s0 s1
  have ek : ((k : Int) + 2 - 1) = ((k + 1 : Nat) : Int) := by omega
  have Hek : Hid _ := ek
  clear ek
  obtain ⟨tb, htb⟩ : ∃ tb : Bool, decide (opn V 1 < opn V 0) = tb := ⟨_, rfl⟩
  have Htb : Hid (compI 17 (opn V 1) (opn V 0) = flagI tb) := by show _ = _; rw [← htb]; rfl
  have t1 : decide (opn V 1 < opn V 0) = tb := htb
  clear htb
  obtain ⟨fl, hfl⟩ : ∃ fl, fl = flagI tb := ⟨_, rfl⟩
  have HQ : Hid (∀ w : World, Calls Tryz.prog 115 #[.bool tb] w fun e w' => e = .returned (.int .i64 fl) ∧ w' = w) := by
    show ∀ w : World, _
    rw [hfl]; exact flagF tb
  rw [← hfl] at Htb
  clear hfl
  go_enter Tryz.func114, Tryz.ntmps114
  go_wp2_with fail
  go_quiet (fail)
  go_wp2_with fail
  generalize hw2 : World.drewN _ _ = w2
  have D2 : RX w2 A C I (dropO V 1) S st { G with sp := k + 1 } nf cv iv ov := by
    rw [← hw2, Hek.out]
    exact (HH.out.drop hf 1 (by omega) (k := k + 1) Hk.out).drewN _
  have F2 : Fr (fun b => b = A.m) w w2 := by
    rw [← hw2]
    exact ((Fr.refl (fun b => b = A.m) w).setC A.m 49 _ (fun _ => rfl)).drewN _
  have d1 := D2.r_sp
  have d2 := D2.r_st (k := k) (by omega)
  have d3 := D2.r_en
  have dlt := D2.lt
  have dz := D2.blk.frozen
  simp only at d1
  have B2 : Blk w2 A.m 65 (vC A st { G with sp := k + 1 } nf V cv iv ov) := by
    refine D2.blk.congr fun o ho => ?_
    rw [dropO_c hf]
    rfl
  have HB : Hid (_ ∧ _) := ⟨B2, F2⟩
  clear D2 B2 F2 hw2 c1 ca cb hlt hz e1
  refine wp_region_twoK [0, 1, 2, 3, 6, 8, 9] [4, 5, 7, 10, 11] [7, 4, 5, 10, 11] (by kernel_rfl) (by kernel_rfl) ?_
  simp only [pick, List.filterMap_cons, List.filterMap_nil, List.getElem?_cons_zero, List.getElem?_cons_succ]
  go_wp2_with fail
  refine ⟨?_, ?_⟩
  · go_wp2_with fail
    refine (HQ.out _).mono ?_
    rintro v w3 ⟨rfl, rfl⟩
    have hk1 : (k : Int) < 48 := by omega
    have Hk48 : Hid _ := hk48
    have Hhf : Hid (V.fs = f :: r ∧ 2 ≤ f.ops.length) := ⟨hf, h2⟩
    clear t1 HQ hk48 hf h2
    go_wp2_with fail
    refine ⟨by kernel_rfl, ?_⟩
    go_wp2_with fail
    rw [Htb.out]
    have hf := Hhf.out.1
    have h2 := Hhf.out.2
    have hk48 := Hk48.out
    go_end0
    exact ⟨rfl, (HH.out.put hf 2 h2 (by omega) Hk.out _ (HB.out.2.setC A.m (1 + k) _ (fun _ => rfl)).drew ((HB.out.1.set (1 + k) (.int .i64 (fl))).congr (vC_st k (by omega) _)).drew).y, ((HB.out.2.setC A.m (1 + k) _ (fun _ => rfl)).drew).mono (fun b _ h => .inl h)⟩
  · go_wp2_with fail
    refine (HQ.out _).mono ?_
    rintro v w3 ⟨rfl, rfl⟩
    have hk1 : (k : Int) < 48 := by omega
    have Hk48 : Hid _ := hk48
    have Hhf : Hid (V.fs = f :: r ∧ 2 ≤ f.ops.length) := ⟨hf, h2⟩
    clear t1 HQ hk48 hf h2
    go_wp2_with fail
    refine ⟨by kernel_rfl, ?_⟩
    go_wp2_with fail
    rw [Htb.out]
    have hf := Hhf.out.1
    have h2 := Hhf.out.2
    have hk48 := Hk48.out
    go_end0
    exact ⟨rfl, (HH.out.put hf 2 h2 (by omega) Hk.out _ (HB.out.2.setC A.m (1 + k) _ (fun _ => rfl)).drew ((HB.out.1.set (1 + k) (.int .i64 (fl))).congr (vC_st k (by omega) _)).drew).y, ((HB.out.2.setC A.m (1 + k) _ (fun _ => rfl)).drew).mono (fun b _ h => .inl h)⟩
set_option maxRecDepth 100000 in
set_option maxHeartbeats 4000000 in
theorem comp18 (H : RX w A C I V S st G nf cv iv ov) (hf : V.fs = f :: r) (h2 : 2 ≤ f.ops.length) : Calls Tryz.prog 114 #[.pointer (some ⟨A.m, 0, none⟩), .int .i64 18] w fun e w' => e = .returned (.tuple #[]) ∧ RY w' A C I (putO V 2 (compI 18 (opn V 1) (opn V 0))) S cv iv ov ∧ Fr (VS A) w w' := by
  obtain ⟨k, hk, hk48, -, s0, s1⟩ := H.two hf h2
  have c1 := H.r_sp
  rw [hk] at c1
  have Hk : Hid _ := hk
  have ca := H.r_st (k := k) (by omega)
  have cb := H.r_st (k := k + 1) (by omega)
  rw [s0] at ca
  rw [s1] at cb
  have hlt := H.lt
  have hz := H.blk.frozen
  have e1 : ((k + 2 : Nat) : Int) - 1 = ((k + 1 : Nat) : Int) := by omega
  have e2 : ((k + 1 : Nat) : Int) - 1 = (k : Int) := by omega
  have hki : ((k + 1 : Nat) : Int) < 48 := by omega
  have HH : Hid (RX w A C I V S st G nf cv iv ov) := H
  clear H hk s0 s1
  have ek : ((k : Int) + 2 - 1) = ((k + 1 : Nat) : Int) := by omega
  have Hek : Hid _ := ek
  clear ek
  obtain ⟨tb, htb⟩ : ∃ tb : Bool, decide (opn V 1 ≤ opn V 0) = tb := ⟨_, rfl⟩
  have Htb : Hid (compI 18 (opn V 1) (opn V 0) = flagI tb) := by show _ = _; rw [← htb]; rfl
  have t1 : decide (opn V 1 ≤ opn V 0) = tb := htb
  clear htb
  obtain ⟨fl, hfl⟩ : ∃ fl, fl = flagI tb := ⟨_, rfl⟩
  have HQ : Hid (∀ w : World, Calls Tryz.prog 115 #[.bool tb] w fun e w' => e = .returned (.int .i64 fl) ∧ w' = w) := by
    show ∀ w : World, _
    rw [hfl]; exact flagF tb
  rw [← hfl] at Htb
  clear hfl
  go_enter Tryz.func114, Tryz.ntmps114
  go_wp2_with fail
  go_quiet (fail)
  go_wp2_with fail
  generalize hw2 : World.drewN _ _ = w2
  have D2 : RX w2 A C I (dropO V 1) S st { G with sp := k + 1 } nf cv iv ov := by
    rw [← hw2, Hek.out]
    exact (HH.out.drop hf 1 (by omega) (k := k + 1) Hk.out).drewN _
  have F2 : Fr (fun b => b = A.m) w w2 := by
    rw [← hw2]
    exact ((Fr.refl (fun b => b = A.m) w).setC A.m 49 _ (fun _ => rfl)).drewN _
  have d1 := D2.r_sp
  have d2 := D2.r_st (k := k) (by omega)
  have d3 := D2.r_en
  have dlt := D2.lt
  have dz := D2.blk.frozen
  simp only at d1
  have B2 : Blk w2 A.m 65 (vC A st { G with sp := k + 1 } nf V cv iv ov) := by
    refine D2.blk.congr fun o ho => ?_
    rw [dropO_c hf]
    rfl
  have HB : Hid (_ ∧ _) := ⟨B2, F2⟩
  clear D2 B2 F2 hw2 c1 ca cb hlt hz e1
  refine wp_region_twoK [0, 1, 2, 3, 6, 8, 9] [4, 5, 7, 10, 11] [7, 4, 5, 10, 11] (by kernel_rfl) (by kernel_rfl) ?_
  simp only [pick, List.filterMap_cons, List.filterMap_nil, List.getElem?_cons_zero, List.getElem?_cons_succ]
  go_wp2_with fail
  refine ⟨?_, ?_⟩
  · go_wp2_with fail
    refine (HQ.out _).mono ?_
    rintro v w3 ⟨rfl, rfl⟩
    have hk1 : (k : Int) < 48 := by omega
    have Hk48 : Hid _ := hk48
    have Hhf : Hid (V.fs = f :: r ∧ 2 ≤ f.ops.length) := ⟨hf, h2⟩
    clear t1 HQ hk48 hf h2
    go_wp2_with fail
    refine ⟨by kernel_rfl, ?_⟩
    go_wp2_with fail
    rw [Htb.out]
    have hf := Hhf.out.1
    have h2 := Hhf.out.2
    have hk48 := Hk48.out
    go_end0
    exact ⟨rfl, (HH.out.put hf 2 h2 (by omega) Hk.out _ (HB.out.2.setC A.m (1 + k) _ (fun _ => rfl)).drew ((HB.out.1.set (1 + k) (.int .i64 (fl))).congr (vC_st k (by omega) _)).drew).y, ((HB.out.2.setC A.m (1 + k) _ (fun _ => rfl)).drew).mono (fun b _ h => .inl h)⟩
  · go_wp2_with fail
    refine (HQ.out _).mono ?_
    rintro v w3 ⟨rfl, rfl⟩
    have hk1 : (k : Int) < 48 := by omega
    have Hk48 : Hid _ := hk48
    have Hhf : Hid (V.fs = f :: r ∧ 2 ≤ f.ops.length) := ⟨hf, h2⟩
    clear t1 HQ hk48 hf h2
    go_wp2_with fail
    refine ⟨by kernel_rfl, ?_⟩
    go_wp2_with fail
    rw [Htb.out]
    have hf := Hhf.out.1
    have h2 := Hhf.out.2
    have hk48 := Hk48.out
    go_end0
    exact ⟨rfl, (HH.out.put hf 2 h2 (by omega) Hk.out _ (HB.out.2.setC A.m (1 + k) _ (fun _ => rfl)).drew ((HB.out.1.set (1 + k) (.int .i64 (fl))).congr (vC_st k (by omega) _)).drew).y, ((HB.out.2.setC A.m (1 + k) _ (fun _ => rfl)).drew).mono (fun b _ h => .inl h)⟩
set_option maxRecDepth 100000 in
set_option maxHeartbeats 4000000 in
theorem comp19 (H : RX w A C I V S st G nf cv iv ov) (hf : V.fs = f :: r) (h2 : 2 ≤ f.ops.length) : Calls Tryz.prog 114 #[.pointer (some ⟨A.m, 0, none⟩), .int .i64 19] w fun e w' => e = .returned (.tuple #[]) ∧ RY w' A C I (putO V 2 (compI 19 (opn V 1) (opn V 0))) S cv iv ov ∧ Fr (VS A) w w' := by
  obtain ⟨k, hk, hk48, -, s0, s1⟩ := H.two hf h2
  have c1 := H.r_sp
  rw [hk] at c1
  have Hk : Hid _ := hk
  have ca := H.r_st (k := k) (by omega)
  have cb := H.r_st (k := k + 1) (by omega)
  rw [s0] at ca
  rw [s1] at cb
  have hlt := H.lt
  have hz := H.blk.frozen
  have e1 : ((k + 2 : Nat) : Int) - 1 = ((k + 1 : Nat) : Int) := by omega
  have e2 : ((k + 1 : Nat) : Int) - 1 = (k : Int) := by omega
  have hki : ((k + 1 : Nat) : Int) < 48 := by omega
  have HH : Hid (RX w A C I V S st G nf cv iv ov) := H
  clear H hk s0 s1
  have ek : ((k : Int) + 2 - 1) = ((k + 1 : Nat) : Int) := by omega
  have Hek : Hid _ := ek
  clear ek
  obtain ⟨tb, htb⟩ : ∃ tb : Bool, decide (opn V 0 < opn V 1) = tb := ⟨_, rfl⟩
  have Htb : Hid (compI 19 (opn V 1) (opn V 0) = flagI tb) := by show _ = _; rw [← htb]; rfl
  have t1 : decide (opn V 1 > opn V 0) = tb := htb
  clear htb
  obtain ⟨fl, hfl⟩ : ∃ fl, fl = flagI tb := ⟨_, rfl⟩
  have HQ : Hid (∀ w : World, Calls Tryz.prog 115 #[.bool tb] w fun e w' => e = .returned (.int .i64 fl) ∧ w' = w) := by
    show ∀ w : World, _
    rw [hfl]; exact flagF tb
  rw [← hfl] at Htb
  clear hfl
  go_enter Tryz.func114, Tryz.ntmps114
  go_wp2_with fail
  go_quiet (fail)
  go_wp2_with fail
  generalize hw2 : World.drewN _ _ = w2
  have D2 : RX w2 A C I (dropO V 1) S st { G with sp := k + 1 } nf cv iv ov := by
    rw [← hw2, Hek.out]
    exact (HH.out.drop hf 1 (by omega) (k := k + 1) Hk.out).drewN _
  have F2 : Fr (fun b => b = A.m) w w2 := by
    rw [← hw2]
    exact ((Fr.refl (fun b => b = A.m) w).setC A.m 49 _ (fun _ => rfl)).drewN _
  have d1 := D2.r_sp
  have d2 := D2.r_st (k := k) (by omega)
  have d3 := D2.r_en
  have dlt := D2.lt
  have dz := D2.blk.frozen
  simp only at d1
  have B2 : Blk w2 A.m 65 (vC A st { G with sp := k + 1 } nf V cv iv ov) := by
    refine D2.blk.congr fun o ho => ?_
    rw [dropO_c hf]
    rfl
  have HB : Hid (_ ∧ _) := ⟨B2, F2⟩
  clear D2 B2 F2 hw2 c1 ca cb hlt hz e1
  refine wp_region_twoK [0, 1, 2, 3, 6, 8, 9] [4, 5, 7, 10, 11] [7, 4, 5, 10, 11] (by kernel_rfl) (by kernel_rfl) ?_
  simp only [pick, List.filterMap_cons, List.filterMap_nil, List.getElem?_cons_zero, List.getElem?_cons_succ]
  go_wp2_with fail
  refine ⟨?_, ?_⟩
  · go_wp2_with fail
    refine (HQ.out _).mono ?_
    rintro v w3 ⟨rfl, rfl⟩
    have hk1 : (k : Int) < 48 := by omega
    have Hk48 : Hid _ := hk48
    have Hhf : Hid (V.fs = f :: r ∧ 2 ≤ f.ops.length) := ⟨hf, h2⟩
    clear t1 HQ hk48 hf h2
    go_wp2_with fail
    refine ⟨by kernel_rfl, ?_⟩
    go_wp2_with fail
    rw [Htb.out]
    have hf := Hhf.out.1
    have h2 := Hhf.out.2
    have hk48 := Hk48.out
    go_end0
    exact ⟨rfl, (HH.out.put hf 2 h2 (by omega) Hk.out _ (HB.out.2.setC A.m (1 + k) _ (fun _ => rfl)).drew ((HB.out.1.set (1 + k) (.int .i64 (fl))).congr (vC_st k (by omega) _)).drew).y, ((HB.out.2.setC A.m (1 + k) _ (fun _ => rfl)).drew).mono (fun b _ h => .inl h)⟩
  · go_wp2_with fail
    refine (HQ.out _).mono ?_
    rintro v w3 ⟨rfl, rfl⟩
    have hk1 : (k : Int) < 48 := by omega
    have Hk48 : Hid _ := hk48
    have Hhf : Hid (V.fs = f :: r ∧ 2 ≤ f.ops.length) := ⟨hf, h2⟩
    clear t1 HQ hk48 hf h2
    go_wp2_with fail
    refine ⟨by kernel_rfl, ?_⟩
    go_wp2_with fail
    rw [Htb.out]
    have hf := Hhf.out.1
    have h2 := Hhf.out.2
    have hk48 := Hk48.out
    go_end0
    exact ⟨rfl, (HH.out.put hf 2 h2 (by omega) Hk.out _ (HB.out.2.setC A.m (1 + k) _ (fun _ => rfl)).drew ((HB.out.1.set (1 + k) (.int .i64 (fl))).congr (vC_st k (by omega) _)).drew).y, ((HB.out.2.setC A.m (1 + k) _ (fun _ => rfl)).drew).mono (fun b _ h => .inl h)⟩
set_option maxRecDepth 100000 in
set_option maxHeartbeats 4000000 in
theorem comp20 (H : RX w A C I V S st G nf cv iv ov) (hf : V.fs = f :: r) (h2 : 2 ≤ f.ops.length) : Calls Tryz.prog 114 #[.pointer (some ⟨A.m, 0, none⟩), .int .i64 20] w fun e w' => e = .returned (.tuple #[]) ∧ RY w' A C I (putO V 2 (compI 20 (opn V 1) (opn V 0))) S cv iv ov ∧ Fr (VS A) w w' := by
  obtain ⟨k, hk, hk48, -, s0, s1⟩ := H.two hf h2
  have c1 := H.r_sp
  rw [hk] at c1
  have Hk : Hid _ := hk
  have ca := H.r_st (k := k) (by omega)
  have cb := H.r_st (k := k + 1) (by omega)
  rw [s0] at ca
  rw [s1] at cb
  have hlt := H.lt
  have hz := H.blk.frozen
  have e1 : ((k + 2 : Nat) : Int) - 1 = ((k + 1 : Nat) : Int) := by omega
  have e2 : ((k + 1 : Nat) : Int) - 1 = (k : Int) := by omega
  have hki : ((k + 1 : Nat) : Int) < 48 := by omega
  have HH : Hid (RX w A C I V S st G nf cv iv ov) := H
  clear H hk s0 s1
  have ek : ((k : Int) + 2 - 1) = ((k + 1 : Nat) : Int) := by omega
  have Hek : Hid _ := ek
  clear ek
  obtain ⟨tb, htb⟩ : ∃ tb : Bool, decide (opn V 0 ≤ opn V 1) = tb := ⟨_, rfl⟩
  have Htb : Hid (compI 20 (opn V 1) (opn V 0) = flagI tb) := by show _ = _; rw [← htb]; rfl
  have t1 : decide (opn V 1 ≥ opn V 0) = tb := htb
  clear htb
  obtain ⟨fl, hfl⟩ : ∃ fl, fl = flagI tb := ⟨_, rfl⟩
  have HQ : Hid (∀ w : World, Calls Tryz.prog 115 #[.bool tb] w fun e w' => e = .returned (.int .i64 fl) ∧ w' = w) := by
    show ∀ w : World, _
    rw [hfl]; exact flagF tb
  rw [← hfl] at Htb
  clear hfl
  go_enter Tryz.func114, Tryz.ntmps114
  go_wp2_with fail
  go_quiet (fail)
  go_wp2_with fail
  generalize hw2 : World.drewN _ _ = w2
  have D2 : RX w2 A C I (dropO V 1) S st { G with sp := k + 1 } nf cv iv ov := by
    rw [← hw2, Hek.out]
    exact (HH.out.drop hf 1 (by omega) (k := k + 1) Hk.out).drewN _
  have F2 : Fr (fun b => b = A.m) w w2 := by
    rw [← hw2]
    exact ((Fr.refl (fun b => b = A.m) w).setC A.m 49 _ (fun _ => rfl)).drewN _
  have d1 := D2.r_sp
  have d2 := D2.r_st (k := k) (by omega)
  have d3 := D2.r_en
  have dlt := D2.lt
  have dz := D2.blk.frozen
  simp only at d1
  have B2 : Blk w2 A.m 65 (vC A st { G with sp := k + 1 } nf V cv iv ov) := by
    refine D2.blk.congr fun o ho => ?_
    rw [dropO_c hf]
    rfl
  have HB : Hid (_ ∧ _) := ⟨B2, F2⟩
  clear D2 B2 F2 hw2 c1 ca cb hlt hz e1
  refine wp_region_twoK [0, 1, 2, 3, 6, 8, 9] [4, 5, 7, 10, 11] [7, 4, 5, 10, 11] (by kernel_rfl) (by kernel_rfl) ?_
  simp only [pick, List.filterMap_cons, List.filterMap_nil, List.getElem?_cons_zero, List.getElem?_cons_succ]
  go_wp2_with fail
  refine ⟨?_, ?_⟩
  · go_wp2_with fail
    refine (HQ.out _).mono ?_
    rintro v w3 ⟨rfl, rfl⟩
    have hk1 : (k : Int) < 48 := by omega
    have Hk48 : Hid _ := hk48
    have Hhf : Hid (V.fs = f :: r ∧ 2 ≤ f.ops.length) := ⟨hf, h2⟩
    clear t1 HQ hk48 hf h2
    go_wp2_with fail
    refine ⟨by kernel_rfl, ?_⟩
    go_wp2_with fail
    rw [Htb.out]
    have hf := Hhf.out.1
    have h2 := Hhf.out.2
    have hk48 := Hk48.out
    go_end0
    exact ⟨rfl, (HH.out.put hf 2 h2 (by omega) Hk.out _ (HB.out.2.setC A.m (1 + k) _ (fun _ => rfl)).drew ((HB.out.1.set (1 + k) (.int .i64 (fl))).congr (vC_st k (by omega) _)).drew).y, ((HB.out.2.setC A.m (1 + k) _ (fun _ => rfl)).drew).mono (fun b _ h => .inl h)⟩
  · go_wp2_with fail
    refine (HQ.out _).mono ?_
    rintro v w3 ⟨rfl, rfl⟩
    have hk1 : (k : Int) < 48 := by omega
    have Hk48 : Hid _ := hk48
    have Hhf : Hid (V.fs = f :: r ∧ 2 ≤ f.ops.length) := ⟨hf, h2⟩
    clear t1 HQ hk48 hf h2
    go_wp2_with fail
    refine ⟨by kernel_rfl, ?_⟩
    go_wp2_with fail
    rw [Htb.out]
    have hf := Hhf.out.1
    have h2 := Hhf.out.2
    have hk48 := Hk48.out
    go_end0
    exact ⟨rfl, (HH.out.put hf 2 h2 (by omega) Hk.out _ (HB.out.2.setC A.m (1 + k) _ (fun _ => rfl)).drew ((HB.out.1.set (1 + k) (.int .i64 (fl))).congr (vC_st k (by omega) _)).drew).y, ((HB.out.2.setC A.m (1 + k) _ (fun _ => rfl)).drew).mono (fun b _ h => .inl h)⟩
end
end Go.Proofs.Qxb6500277aGreat
