/- The real machine: a number read out of an array; lengths. -/
import Derived.Test.Qxb6500277aGreatVR12
namespace Go.Proofs.Qxb6500277aGreat
open Go Go.RowKit

section
variable {w w' : World} {A : Va} {C : List Nat} {I : List Int} {V : Vs} {S S' : HS} {M : MS} {st st' : Nat → Int} {G : Gx} {nf : Nat} {cv iv ov : Value} {F : Nat → Prop} {f : Fm} {r : List Fm}
/-- The top word is overwritten. -/
theorem RX.put1 (H : RX w A C I V S st G nf cv iv ov) (hf : V.fs = f :: r) (ho : 1 ≤ f.ops.length) {k : Nat} (hk : G.sp = k + 1) (v : Int) : RX (w.setCell ⟨A.m, 1 + k, none⟩ (.int .i64 v)) A C I (putO V 1 v) S (upd st k v) { G with sp := k + 1 } nf cv iv ov := by
  have hs := H.s48
  refine H.put hf 1 ho (by omega) hk v ((Fr.refl (fun b => b = A.m) w).setC A.m (1 + k) _ (fun _ => rfl)) ?_
  have B := (H.blk.set (1 + k) (.int .i64 v)).congr (vC_st k (by omega) v)
  have e : ({ G with sp := k + 1 } : Gx) = G := by rw [← hk]
  rw [e]
  exact B
set_option maxRecDepth 100000 in
set_option maxHeartbeats 4000000 in
theorem get30_no (H : RX w A C I V S st G nf cv iv ov) (hR : Rel S M) (hf : V.fs = f :: r) (ho : 1 ≤ f.ops.length) (he : (ldIntM M ((M.rt.length : Int) - 1) (opn V 0)).2 ≠ 0) : Calls Tryz.prog 120 #[.pointer (some ⟨A.m, 0, none⟩), .int .i64 30] w (RZ w A C I (V.die (endOf (ldIntM M ((M.rt.length : Int) - 1) (opn V 0)).2)) M cv iv ov) := by
  obtain ⟨k, hk, hk48, -, s0⟩ := H.one hf ho
  have c0 := H.r_sp
  rw [hk] at c0
  have c1 := H.r_st (k := k) (by omega)
  rw [s0] at c1
  have c2 := H.r_h
  have hlt := H.lt
  have hT := depthF H.hm
  have hL := hR.len
  rw [← hL] at hT
  have hki : (k : Int) < 48 := by omega
  have e1 : ((k + 1 : Nat) : Int) - 1 = (k : Int) := by omega
  have hL24 : M.rt.length ≤ 24 := by rw [hL]; exact hR.top
  have HD : Hid _ := And.intro H (And.intro hR (And.intro hf (And.intro ho hk)))
  generalize opn V 0 = x at *
  generalize hn : M.rt.length = n at *
  have He : Hid _ := he
  clear H hf ho hk hk48 s0 hR hL hn he
  go_enter Tryz.func120, Tryz.ntmps120
  go_wp2_with fail
  refine hT.mono ?_
  rintro v w1 ⟨rfl, rfl⟩
  clear hT
  go_wp2_with fail
  go_quiet (fail)
  generalize hw2 : World.drewN _ _ = w2
  obtain ⟨H, hR, hf, ho, hk⟩ := HD.out
  have D2 : RX w2 A C I V S st G nf cv iv ov := by rw [← hw2]; exact H.drewN nq
  have F2 : Fr (VS A) w1 w2 := by rw [← hw2]; exact (Fr.refl (VS A) w1).drewN nq
  obtain ⟨P, os, hI, _, _⟩ := hR.all
  have hA := loadIntF D2.hm hI ((n : Int) - 1) x
  rw [hR.ldInt ((n : Int) - 1) x] at hA
  have d2 := D2.r_h
  have dlt := D2.lt
  have he := He.out
  generalize (ldIntM M ((n : Int) - 1) x).2 = er at *
  generalize (ldIntM M ((n : Int) - 1) x).1 = va at *
  have hDid := heapDidF D2 er
  have hz : decide (er = 0) = false := decide_eq_false he
  have HE : Hid (did V er = V.die (endOf er)) := by unfold did; rw [if_neg he]; exact rfl
  rw [hz] at hDid
  have HF2 : Hid (_ ∧ _) := ⟨F2, hR⟩
  clear D2 F2 hw2 c0 c1 c2 hlt hI hR H hf ho hk hki e1 hL24 he He HD hz
  go_wp2_with fail
  refine hA.mono ?_
  rintro v w3 ⟨rfl, rfl⟩
  clear hA
  go_wp2_with fail
  refine hDid.mono ?_
  rintro v w4 ⟨rfl, R4, k4⟩
  clear hDid
  go_wp2_with fail
  exact bodyPost_ret (v := .tuple #[]) (by simp [results, Tryz.results120, go_sem]) rfl ⟨rfl, S, HE.out ▸ R4.y, HF2.out.2, HF2.out.1.trans k4 (fun _ _ h => h)⟩
set_option maxRecDepth 100000 in
set_option maxHeartbeats 4000000 in
theorem get30_ok (H : RX w A C I V S st G nf cv iv ov) (hR : Rel S M) (hf : V.fs = f :: r) (ho : 1 ≤ f.ops.length) (he : (ldIntM M ((M.rt.length : Int) - 1) (opn V 0)).2 = 0) : Calls Tryz.prog 120 #[.pointer (some ⟨A.m, 0, none⟩), .int .i64 30] w (RZ w A C I (putO V 1 (ldIntM M ((M.rt.length : Int) - 1) (opn V 0)).1) (popM M 1).2 cv iv ov) := by
  obtain ⟨k, hk, hk48, -, s0⟩ := H.one hf ho
  have c0 := H.r_sp
  rw [hk] at c0
  have c1 := H.r_st (k := k) (by omega)
  rw [s0] at c1
  have c2 := H.r_h
  have hlt := H.lt
  have hT := depthF H.hm
  have hL := hR.len
  rw [← hL] at hT
  have hki : (k : Int) < 48 := by omega
  have e1 : ((k + 1 : Nat) : Int) - 1 = (k : Int) := by omega
  have hL24 : M.rt.length ≤ 24 := by rw [hL]; exact hR.top
  have HD : Hid _ := And.intro H (And.intro hR (And.intro hf (And.intro ho hk)))
  generalize opn V 0 = x at *
  generalize hn : M.rt.length = n at *
  have He : Hid _ := he
  clear H hf ho hk hk48 s0 hR hL hn he
  go_enter Tryz.func120, Tryz.ntmps120
  go_wp2_with fail
  refine hT.mono ?_
  rintro v w1 ⟨rfl, rfl⟩
  clear hT
  go_wp2_with fail
  go_quiet (fail)
  generalize hw2 : World.drewN _ _ = w2
  obtain ⟨H, hR, hf, ho, hk⟩ := HD.out
  have D2 : RX w2 A C I V S st G nf cv iv ov := by rw [← hw2]; exact H.drewN nq
  have F2 : Fr (VS A) w1 w2 := by rw [← hw2]; exact (Fr.refl (VS A) w1).drewN nq
  obtain ⟨P, os, hI, _, _⟩ := hR.all
  have hA := loadIntF D2.hm hI ((n : Int) - 1) x
  rw [hR.ldInt ((n : Int) - 1) x] at hA
  have d2 := D2.r_h
  have dlt := D2.lt
  have he := He.out
  generalize (ldIntM M ((n : Int) - 1) x).2 = er at *
  generalize (ldIntM M ((n : Int) - 1) x).1 = va at *
  have hDid := heapDidF D2 er
  have hz : decide (er = 0) = true := decide_eq_true he
  have HE : Hid (did V er = V) := by unfold did; rw [if_pos he]; exact rfl
  rw [hz] at hDid
  have HF2 : Hid (_ ∧ _ ∧ _ ∧ _ ∧ _) := ⟨F2, hR, hf, ho, hk⟩
  clear D2 F2 hw2 c0 c1 c2 hlt hI hR H hf ho hk hL24 he He HD hz
  go_wp2_with fail
  refine hA.mono ?_
  rintro v w3 ⟨rfl, rfl⟩
  clear hA
  go_wp2_with fail
  refine hDid.mono ?_
  rintro v w4 ⟨rfl, R4, k4⟩
  clear hDid
  rw [HE.out] at R4
  obtain ⟨q1, q2⟩ := HF2.out.2.1.pop 1
  have hP := popF R4.hm HF2.out.2.1.top 1
  have d3 := R4.r_h
  have dlt3 := R4.lt
  have HR4 : Hid (_ ∧ _ ∧ _) := ⟨R4, k4, q2⟩
  generalize (popN S 1).1 = pe at *
  clear R4 k4 q1 q2 d2 dlt
  go_wp2_with fail
  refine hP.mono ?_
  rintro v w5 ⟨rfl, hm5, k5⟩
  clear hP
  have R5 := HR4.out.1.heap k5 hm5
  have c0 := R5.r_sp
  rw [HF2.out.2.2.2.2] at c0
  have c1 := R5.r_st (k := k) (by omega)
  have c2 := R5.r_h
  have hlt := R5.lt
  have hzz := R5.blk.frozen
  have R6 := R5.put1 HF2.out.2.2.1 HF2.out.2.2.2.1 HF2.out.2.2.2.2 va
  have HR6 : Hid (_ ∧ _) := ⟨R6, k5⟩
  clear R5 k5 hm5 R6 d3 dlt3
  go_wp2_with fail
  refine wp_region_text (by kernel_rfl) (by kernel_rfl) ?_
  go_wp2_with fail
  refine ⟨by kernel_rfl, ?_⟩
  go_wp2_with fail
  exact bodyPost_ret (v := .tuple #[]) (by simp [results, Tryz.results120, go_sem]) rfl ⟨rfl, _, (HR6.out.1.same ((Fr.refl (fun _ => False) _).drew)).y, HR4.out.2.2, ((((HF2.out.1.trans HR4.out.2.1 (fun _ _ h => h)).trans (HR6.out.2.mono (fun b _ h => .inr h)) (fun _ _ h => h)).setC A.m (1 + k) _ (fun _ => .inl rfl)).drew)⟩
end
end Go.Proofs.Qxb6500277aGreat
