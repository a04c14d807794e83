/- options. -/
import Derived.Test.Qxb6500283aGreatW3
namespace Go.Proofs.Qxb6500283aGreat
open Go Go.RowKit

set_option maxRecDepth 100000 in
set_option maxHeartbeats 4000000 in
theorem options_lazy {w : World} {s x : Nat} {O : List Nd} {ws : List Tk} {rs : List Nat} {f : Run} (hf : Mv f) (hbdf : Bd f) (used : Bool) (k at_ to : Nat) (e : Int) (hk1 : 1 ≤ k) (hk3 : k ≤ 3)
    (h : SM w s x (O ++ segsW f true (cnt used 0) O.length) ws rs) (hto : to = at_ + (f 0).length) (hto2 : to ≤ (O ++ segsW f true (cnt used 0) O.length).length) (hrun : ((O ++ segsW f true (cnt used 0) O.length).drop at_).take (f 0).length = f at_)
    (hun : used = false → at_ = O.length + 1 ∧ e = (O.length : Nat)) (hcap : O.length + (optW f true k 0).length ≤ 31) :
    Calls Tryz.prog 148 #[.pointer (some ⟨s, 0, none⟩), .int .i64 (k : Nat), .bool true, .int .i64 (at_ : Nat), .int .i64 (to : Nat), .bool used, .int .i64 e] w fun v w' => v = .returned (.int .i64 ((O.length + (optW f true k 0).length - 1 : Nat) : Int)) ∧ SM w' s x (O ++ optW f true k O.length) ws rs ∧ Fr (fun b => SBld s b) w w' := by
  have hne := hf.ne
  have hS : segN f true = (f 0).length + 1 := by simp [segN]
  have hlenk := optW_len hf true k hk1
  have hkS : k * segN f true ≤ (optW f true k 0).length := by
    have : k * ((f 0).length + 3) = k * (f 0).length + k * 3 := Nat.mul_add _ _ _
    have e2 : k * segN f true = k * (f 0).length + k * 1 := by rw [hS, Nat.mul_add]
    omega
  have hsl : s + 5 < w.heap.size := by
    obtain ⟨_, _, _, _, _, _, _, _, _, _, hR, _⟩ := h
    exact hR.lt
  have hkI : (k : Int) ≤ 3 := by omega
  have hkd : decide ((3 : Int) < k) = false := decide_eq_false (by omega)
  have htoI : (to : Int) ≤ 31 := by
    have h1 := segsW_len hf true (cnt used 0) O.length
    rw [List.length_append, h1] at hto2
    have h2 : cnt used 0 ≤ 1 := by unfold cnt; split <;> omega
    have h3 : cnt used 0 * segN f true ≤ 1 * segN f true := Nat.mul_le_mul_right _ h2
    have h4 : 1 * segN f true ≤ k * segN f true := Nat.mul_le_mul_right _ hk1
    omega
  have hto1 : (1 : Int) ≤ to := by omega
  have F1 := ((Fr.refl (fun b => SBld s b) w).alloc (.cells #[.int .i64 0, .int .i64 0, .int .i64 0] 238)).alloc (.cells #[.int .i64 0, .int .i64 0, .int .i64 0] 238)
  have hE0 := (Blk.three w).alloc (.cells #[.int .i64 0, .int .i64 0, .int .i64 0] 238)
  have hX0 := Blk.three (w.alloc (.cells #[.int .i64 0, .int .i64 0, .int .i64 0] 238))
  simp only [World.size_alloc] at hX0
  have h1 := h.idle (((Fr.refl (fun _ => False) w).alloc (.cells #[.int .i64 0, .int .i64 0, .int .i64 0] 238)).alloc (.cells #[.int .i64 0, .int .i64 0, .int .i64 0] 238))
  have Hun : Hid _ := hun
  have Hrun : Hid _ := hrun
  have Hto2 : Hid _ := hto2
  have HS : Hid _ := hS
  have Hto : Hid _ := hto
  have Hlk : Hid _ := hlenk
  clear hun hrun hto2 hS hto hlenk
  go_enter Tryz.func148, Tryz.ntmps148
  go_wp2_with fail
  go_loopg [17, 5] k (fun gk jv uv wr => ∃ (j : Nat) (fe fx : Nat → Value), jv = .int .i64 (j : Nat) ∧ uv = .bool (used || decide (0 < j)) ∧ j + gk = k ∧ SM wr s x (O ++ segsW f true (cnt used j) O.length) ws rs ∧ Blk wr w.heap.size 3 fe ∧ Blk wr (w.heap.size + 1) 3 fx ∧ (∀ i, i < j → fe i = .int .i64 ((O.length + i * segN f true : Nat) : Int) ∧ fx i = .int .i64 ((O.length + (i + 1) * segN f true - 1 : Nat) : Int)) ∧ Fr (fun b => SBld s b) w wr)
  case atStart => exact ⟨0, _, _, rfl, by simp, by omega, h1, hE0, hX0, fun i hi => by omega, F1⟩
  case round =>
    clear hE0 hX0 h1 F1
    obtain ⟨j, fe, fx, rfl, rfl, hjg, hSM, hEs, hXs, hfx, hfr⟩ := hrel
    have hjg' : j + gk = k := hjg
    clear hjg
    have Hfx : Hid _ := hfx
    clear hfx
    have hjI : (j : Int) ≤ 3 := by omega
    have lE := hEs.lt
    have lX := hXs.lt
    have zE := hEs.frozen
    have zX := hXs.frozen
    by_cases hlt : j < k
    · have hjd : decide ((j : Int) < k) = true := decide_eq_true (by omega)
      have hj2 : (j : Int) ≤ 2 := by omega
      have m0 := hEs.cell (o := j) (by omega)
      have m1 := hXs.cell (o := j) (by omega)
      have hmj : (j + 1) * segN f true ≤ k * segN f true := Nat.mul_le_mul_right _ (by omega)
      have Hsuc : Hid ((j + 1) * segN f true = j * segN f true + segN f true) := Nat.succ_mul _ _
      cases huj : (used || decide (0 < j)) with
      | true =>
        have hcj : cnt used j = j := by
          unfold cnt
          cases used with
          | true => rfl
          | false => simp at huj ⊢; omega
        have Hcj1 : Hid (cnt used (j + 1) = j + 1) := by
          show cnt used (j + 1) = j + 1
          unfold cnt
          cases used <;> simp
        have Hu1 : Hid ((used || decide (0 < j + 1)) = true) := by
          show (used || decide (0 < j + 1)) = true
          simp
        rw [hcj] at hSM
        have Hol : Hid ((O ++ segsW f true j O.length).length = O.length + j * segN f true) := by
          show (O ++ segsW f true j O.length).length = O.length + j * segN f true
          rw [List.length_append, segsW_len hf]
        have Hrunj : Hid (((O ++ segsW f true j O.length).drop at_).take (f 0).length = f at_ ∧ at_ + (f 0).length ≤ (O ++ segsW f true j O.length).length) := by
          show ((O ++ segsW f true j O.length).drop at_).take (f 0).length = f at_ ∧ at_ + (f 0).length ≤ (O ++ segsW f true j O.length).length
          have h1 := Hrun.out
          have h2 := Hto2.out
          have h3 := Hto.out
          have hc0 : cnt used 0 ≤ j := by
            unfold cnt
            cases used with
            | true => simp
            | false => simp at huj ⊢; omega
          obtain ⟨more, hmore⟩ := segsW_pre f true hc0 O.length
          rw [hmore, ← List.append_assoc]
          constructor
          · rw [drop_take_app (by omega)]; exact h1
          · rw [List.length_append]; omega
        clear huj hcj
        have FE0 := (Fr.refl (fun b => b = w.heap.size) wr).setC w.heap.size j (.int .i64 (-1)) (fun _ => rfl)
        have hSM1 := hSM.frame FE0 (by unfold SBld; intro b hb; omega)
        have hroom1 : (O ++ segsW f true j O.length).length < 31 := by have := Hol.out; have := Hsuc.out; have hS := HS.out; omega
        go_wp2_with fail
        refine (node_any 0 (-1) (-1) hSM1 hroom1).mono ?_
        rintro v w2 ⟨rfl, hSM2, f2⟩
        have hE2 := (hEs.set j (.int .i64 (-1))).frame f2 (by unfold SBld; omega)
        have hX2 := (hXs.frame FE0 (by omega)).frame f2 (by unfold SBld; omega)
        have F2 := (hfr.trans FE0 (fun b hb h => by omega)).trans f2 (fun _ _ h => h)
        rw [Hol.out]
        clear m0 m1 zE zX lE lX hEs hXs hfr hSM FE0 hSM1
        have m0 := hE2.cell (o := j) (by omega)
        have zE := hE2.frozen
        have lE := hE2.lt
        have FE := (Fr.refl (fun b => b = w.heap.size) w2).setC w.heap.size j (.int .i64 ((O.length + j * segN f true : Nat) : Int)) (fun _ => rfl)
        have hSM3 := hSM2.frame FE (by unfold SBld; intro b hb; omega)
        have hE3 := hE2.set j (.int .i64 ((O.length + j * segN f true : Nat) : Int))
        have hX3 := hX2.frame FE (by omega)
        have F3 := F2.trans FE (fun b hb h => by omega)
        have Hol3 : Hid (((O ++ segsW f true j O.length) ++ [(⟨0, -1, -1, 0, 0, 0, false, noP⟩ : Nd)]).length = O.length + j * segN f true + 1) := by
          show ((O ++ segsW f true j O.length) ++ [(⟨0, -1, -1, 0, 0, 0, false, noP⟩ : Nd)]).length = O.length + j * segN f true + 1
          rw [List.length_append, Hol.out]; rfl
        go_wp2_with fail
        refine (copyF hf hbdf hSM3 at_ Hto.out (by rw [drop_take_app Hrunj.out.2]; exact Hrunj.out.1) (by have := Hrunj.out.2; rw [List.length_append]; omega) (by have := Hol3.out; have := Hsuc.out; have hS := HS.out; omega)).mono ?_
        rintro v w4 ⟨rfl, hSM4, f4⟩
        have Hval : Hid (((O ++ segsW f true j O.length) ++ [(⟨0, -1, -1, 0, 0, 0, false, noP⟩ : Nd)]).length + (f 0).length - 1 = O.length + (j + 1) * segN f true - 1) := by
          show ((O ++ segsW f true j O.length) ++ [(⟨0, -1, -1, 0, 0, 0, false, noP⟩ : Nd)]).length + (f 0).length - 1 = O.length + (j + 1) * segN f true - 1
          have := Hol3.out; have := Hsuc.out; have hS := HS.out; omega
        rw [Hval.out]
        rw [Hol3.out] at hSM4
        have Hseg : Hid (O ++ segsW f true (cnt used (j + 1)) O.length = (O ++ segsW f true j O.length) ++ [(⟨0, -1, -1, 0, 0, 0, false, noP⟩ : Nd)] ++ f (O.length + j * segN f true + 1)) := by
          show O ++ segsW f true (cnt used (j + 1)) O.length = (O ++ segsW f true j O.length) ++ [(⟨0, -1, -1, 0, 0, 0, false, noP⟩ : Nd)] ++ f (O.length + j * segN f true + 1)
          rw [Hcj1.out]
          show O ++ (segsW f true j O.length ++ segW f true (O.length + j * segN f true)) = _
          simp [segW, leafNd]
        have hE4 := hE3.frame f4 (by unfold SBld; omega)
        have hX4 := hX3.frame f4 (by unfold SBld; omega)
        have F4 := F3.trans f4 (fun _ _ h => h)
        have m1 := hX4.cell (o := j) (by omega)
        have zX := hX4.frozen
        have lX := hX4.lt
        have FX := (Fr.refl (fun b => b = w.heap.size + 1) w4).setC (w.heap.size + 1) j (.int .i64 ((O.length + (j + 1) * segN f true - 1 : Nat) : Int)) (fun _ => rfl)
        go_wp2_with fail
        go_roundg (gk - 1)
        case measure => omega
        case rel => exact ⟨j + 1, _, _, by simp, by rw [Hu1.out], by omega, by rw [Hseg.out]; exact hSM4.frame FX (by unfold SBld; intro b hb; omega), hE4.frame FX (by omega), hX4.set j _, fun i hi => by
          by_cases he : i = j
          · subst he; exact ⟨by rw [upd_same], by rw [upd_same]⟩
          · exact ⟨by rw [upd_other _ _ _ _ he, upd_other _ _ _ _ he]; exact (Hfx.out i (by omega)).1, by rw [upd_other _ _ _ _ he]; exact (Hfx.out i (by omega)).2⟩, F4.trans FX (fun b hb h => by omega)⟩
      | false =>
        obtain ⟨rfl, rfl⟩ : used = false ∧ j = 0 := by
          cases used <;> simp at huj ⊢
          exact huj
        obtain ⟨ha, rfl⟩ := Hun.out rfl
        have Ha : Hid _ := ha
        clear ha huj
        have FE := ((Fr.refl (fun b => b = w.heap.size ∨ b = w.heap.size + 1) wr).setC w.heap.size 0 (.int .i64 (O.length : Nat)) (fun _ => .inl rfl)).setC (w.heap.size + 1) 0 (.int .i64 ((to : Int) - 1)) (fun _ => .inr rfl)
        have hE3 := (hEs.set 0 (.int .i64 (O.length : Nat))).setOther ⟨w.heap.size + 1, 0, none⟩ (.int .i64 ((to : Int) - 1)) (show w.heap.size ≠ w.heap.size + 1 by omega)
        have hX3 := (hXs.setOther ⟨w.heap.size, 0, none⟩ (.int .i64 (O.length : Nat)) (show w.heap.size + 1 ≠ w.heap.size by omega)).set 0 (.int .i64 ((to : Int) - 1))
        have hSM3 := hSM.frame FE (by unfold SBld; intro b hb; omega)
        have F3 := hfr.trans FE (fun b hb h => by omega)
        go_wp2_with fail
        go_roundg (gk - 1)
        case measure => omega
        case rel =>
          refine ⟨1, _, _, by simp, by simp, by omega, hSM3, hE3, hX3, fun i hi => ?_, F3⟩
          obtain rfl : i = 0 := by omega
          rw [upd_same, upd_same]
          refine ⟨by simp, ?_⟩
          congr 1
          have := Ha.out; have := Hto.out; have := HS.out
          omega
    · have hjd : decide ((j : Int) < k) = false := decide_eq_false (by omega)
      obtain rfl : j = k := by omega
      have hck : cnt used j = j := by unfold cnt; split <;> omega
      rw [hck] at hSM
      clear hck
      go_wp2_with fail
      go_loopg [19, 18] j (fun g2 jv iv wq => ∃ (m : Nat), jv = .int .i64 ((m : Int) - 1) ∧ m = g2 ∧ m ≤ j ∧ iv = .int .i64 (if m = j then -1 else ((O.length + m * segN f true + (optW f true (j - m) 0).length - 1 : Nat) : Int)) ∧ SM wq s x (O ++ segsW f true m O.length ++ optW f true (j - m) (O.length + m * segN f true)) ws rs ∧ Blk wq w.heap.size 3 fe ∧ Blk wq (w.heap.size + 1) 3 fx ∧ Fr (fun b => SBld s b) w wq)
      case atStart => exact ⟨j, rfl, rfl, Nat.le_refl _, by simp, by rw [Nat.sub_self]; show SM wr s x (O ++ segsW f true j O.length ++ []) ws rs; rw [List.append_nil]; exact hSM, hEs, hXs, hfr⟩
      case round =>
        clear hSM hEs hXs hfr lE lX zE zX hjd
        obtain ⟨m, rfl, hmg, hmj, rfl, hSM, hEs, hXs, hfr⟩ := hrel
        have hmg' : gk = m := hmg.symm
        clear hmg
        subst hmg'
        have lE := hEs.lt
        have lX := hXs.lt
        cases gk with
        | zero =>
          have hj0 : ¬ (0 = j) := by omega
          rw [if_neg hj0]
          have hSM2 : SM wr s x (O ++ optW f true j O.length) ws rs := by
            have e : O ++ segsW f true 0 O.length ++ optW f true (j - 0) (O.length + 0 * segN f true) = O ++ optW f true j O.length := by
              rw [Nat.sub_zero, Nat.zero_mul, Nat.add_zero]
              show O ++ [] ++ _ = _
              rw [List.append_nil]
            rw [e] at hSM
            exact hSM
          clear hSM
          have Hv : Hid (O.length + 0 * segN f true + (optW f true (j - 0) 0).length - 1 = O.length + (optW f true j 0).length - 1) := by
            show O.length + 0 * segN f true + (optW f true (j - 0) 0).length - 1 = O.length + (optW f true j 0).length - 1
            rw [Nat.sub_zero, Nat.zero_mul, Nat.add_zero]
          rw [Hv.out]
          go_wp2_with fail
          go_ret
          exact ⟨rfl, hSM2, hfr⟩
        | succ m =>
          have c0 := hEs.cell (o := m) (by omega)
          rw [(Hfx.out m (by omega)).1] at c0
          have c1 := hXs.cell (o := m) (by omega)
          rw [(Hfx.out m (by omega)).2] at c1
          have hmI : (m : Int) ≤ 2 := by omega
          have hdm' : decide ((0 : Int) ≤ (m : Nat)) = true := decide_eq_true (by omega)
          have Hm1 : Hid (((m + 1 : Nat) : Int) - 1 = (m : Nat)) := by show ((m + 1 : Nat) : Int) - 1 = (m : Nat); omega
          rw [Hm1.out]
          have Hsuc : Hid ((m + 1) * segN f true = m * segN f true + segN f true) := Nat.succ_mul _ _
          have Hseg : Hid (segsW f true (m + 1) O.length = segsW f true m O.length ++ segW f true (O.length + m * segN f true)) := rfl
          have htot : O.length + m * segN f true + (optW f true (j - m) 0).length ≤ 31 := by
            have hfin := optW_len hf true (j - m) (by omega)
            have e1 : (j - m) * ((f 0).length + 3) + m * ((f 0).length + 3) = j * ((f 0).length + 3) := by rw [← Nat.add_mul]; congr 1; omega
            have e2 : m * ((f 0).length + 3) = m * (f 0).length + m * 3 := Nat.mul_add _ _ _
            have e3 : m * segN f true = m * (f 0).length + m * 1 := by rw [HS.out, Nat.mul_add]
            have := Hlk.out
            omega
          by_cases hin : m + 1 = j
          · have Hjm : Hid (j - m = 1) := by show j - m = 1; omega
            rw [if_pos hin]
            rw [show j - (m + 1) = 0 by omega] at hSM
            rw [Hjm.out] at htot
            have Hin : Hid _ := hin
            clear hin
            have HO1 : Hid _ := optW_one hf true (O.length + m * segN f true)
            have Hl1 : Hid _ := optW_len hf true 1 (by omega)
            have hSMa : SM wr s x (O ++ segsW f true (m + 1) O.length) ws rs := by
              have e : O ++ segsW f true (m + 1) O.length ++ optW f true 0 (O.length + (m + 1) * segN f true) = O ++ segsW f true (m + 1) O.length := by show _ ++ [] = _; rw [List.append_nil]
              rw [e] at hSM; exact hSM
            clear hSM
            have Hla : Hid ((O ++ segsW f true (m + 1) O.length).length = O.length + (m + 1) * segN f true) := by
              show (O ++ segsW f true (m + 1) O.length).length = O.length + (m + 1) * segN f true
              rw [List.length_append, segsW_len hf]
            have hroom : O.length + (m + 1) * segN f true + 1 ≤ 31 := by have := Hsuc.out; have := HS.out; have := Hl1.out; omega
            have hroom1 : (O ++ segsW f true (m + 1) O.length).length < 31 := by have := Hla.out; omega
            go_wp2_with fail
            refine (node_any 5 _ _ hSMa hroom1).mono ?_
            rintro v w5 ⟨rfl, hSM5, f5⟩
            rw [Hla.out]
            have Hnew : Hid (O ++ segsW f true (m + 1) O.length ++ [(⟨5, ((O.length + m * segN f true : Nat) : Int), ((O.length + (m + 1) * segN f true - 1 : Nat) : Int), 0, 0, 0, false, noP⟩ : Nd)] = O ++ segsW f true m O.length ++ optW f true (j - m) (O.length + m * segN f true)) := by
              show O ++ segsW f true (m + 1) O.length ++ [(⟨5, ((O.length + m * segN f true : Nat) : Int), ((O.length + (m + 1) * segN f true - 1 : Nat) : Int), 0, 0, 0, false, noP⟩ : Nd)] = O ++ segsW f true m O.length ++ optW f true (j - m) (O.length + m * segN f true)
              rw [Hjm.out, HO1.out, Hseg.out, show O.length + m * segN f true + segN f true = O.length + (m + 1) * segN f true by have := Hsuc.out; omega]
              simp [altNd]
            go_wp2_with fail
            go_roundg m
            case measure => omega
            case rel =>
              refine ⟨m, rfl, rfl, by omega, ?_, by rw [← Hnew.out]; exact hSM5, hEs.frame f5 (by unfold SBld; omega), hXs.frame f5 (by unfold SBld; omega), hfr.trans f5 (fun _ _ h => h)⟩
              rw [if_neg (by have := Hin.out; omega), Hjm.out]
              congr 2
              have := Hl1.out; have := Hsuc.out; have := HS.out
              have hc : ((m : Int) + 1) * ((segN f true : Nat) : Int) = (((m + 1) * segN f true : Nat) : Int) := by simp
              omega
          · have hj1 : 1 ≤ j - (m + 1) := by omega
            have Hjm : Hid (j - m = (j - (m + 1)) + 1) := by show j - m = (j - (m + 1)) + 1; omega
            rw [if_neg hin]
            have HO1 : Hid _ := optW_more hf true hj1 (O.length + m * segN f true)
            have Hl1 : Hid _ := optW_len' hf true hj1 (O.length + (m + 1) * segN f true)
            have Hl2 : Hid ((optW f true (j - m) 0).length = segN f true + (optW f true (j - (m + 1)) 0).length + 2) := by
              show (optW f true (j - m) 0).length = segN f true + (optW f true (j - (m + 1)) 0).length + 2
              have a0 := optW_len hf true (j - m) (by omega)
              have a1 := optW_len hf true (j - (m + 1)) hj1
              have a2 : (j - m) * ((f 0).length + 3) = (j - (m + 1)) * ((f 0).length + 3) + ((f 0).length + 3) := by rw [Hjm.out, Nat.succ_mul]
              have := HS.out
              omega
            have hroom : O.length + (m + 1) * segN f true + (optW f true (j - (m + 1)) 0).length + 2 ≤ 31 := by have := Hl2.out; have := Hsuc.out; omega
            generalize hNi : (optW f true (j - (m + 1)) 0).length = N at *
            have HNi : Hid _ := hNi
            clear hNi
            have hin0 : decide ((0 : Int) ≤ ((O.length + (m + 1) * segN f true + N - 1 : Nat) : Int)) = true := decide_eq_true (by omega)
            have Hla : Hid ((O ++ segsW f true (m + 1) O.length ++ optW f true (j - (m + 1)) (O.length + (m + 1) * segN f true)).length = O.length + (m + 1) * segN f true + N) := by
              show (O ++ segsW f true (m + 1) O.length ++ optW f true (j - (m + 1)) (O.length + (m + 1) * segN f true)).length = O.length + (m + 1) * segN f true + N
              rw [List.length_append, List.length_append, segsW_len hf, Hl1.out]
            have hroom1 : (O ++ segsW f true (m + 1) O.length ++ optW f true (j - (m + 1)) (O.length + (m + 1) * segN f true)).length < 31 := by have := Hla.out; omega
            go_wp2_with fail
            refine (node_any 4 _ _ hSM hroom1).mono ?_
            rintro v w5 ⟨rfl, hSM5, f5⟩
            have F5 := hfr.trans f5 (fun _ _ h => h)
            have hE5 := hEs.frame f5 (by unfold SBld; omega)
            have hX5 := hXs.frame f5 (by unfold SBld; omega)
            rw [Hla.out]
            clear c0 c1 hSM hEs hXs hfr lE lX
            have c0 := hE5.cell (o := m) (by omega)
            rw [(Hfx.out m (by omega)).1] at c0
            have lE5 := hE5.lt
            have Hlb : Hid ((O ++ segsW f true (m + 1) O.length ++ optW f true (j - (m + 1)) (O.length + (m + 1) * segN f true) ++ [(⟨4, ((O.length + (m + 1) * segN f true - 1 : Nat) : Int), ((O.length + (m + 1) * segN f true + N - 1 : Nat) : Int), 0, 0, 0, false, noP⟩ : Nd)]).length = O.length + (m + 1) * segN f true + N + 1) := by
              show (O ++ segsW f true (m + 1) O.length ++ optW f true (j - (m + 1)) (O.length + (m + 1) * segN f true) ++ [(⟨4, ((O.length + (m + 1) * segN f true - 1 : Nat) : Int), ((O.length + (m + 1) * segN f true + N - 1 : Nat) : Int), 0, 0, 0, false, noP⟩ : Nd)]).length = O.length + (m + 1) * segN f true + N + 1
              rw [List.length_append, Hla.out]; rfl
            have hroom2 : (O ++ segsW f true (m + 1) O.length ++ optW f true (j - (m + 1)) (O.length + (m + 1) * segN f true) ++ [(⟨4, ((O.length + (m + 1) * segN f true - 1 : Nat) : Int), ((O.length + (m + 1) * segN f true + N - 1 : Nat) : Int), 0, 0, 0, false, noP⟩ : Nd)]).length < 31 := by have := Hlb.out; omega
            go_wp2_with fail
            refine (node_any 5 _ _ hSM5 hroom2).mono ?_
            rintro v w6 ⟨rfl, hSM6, f6⟩
            rw [Hlb.out]
            have Hnew : Hid (O ++ segsW f true (m + 1) O.length ++ optW f true (j - (m + 1)) (O.length + (m + 1) * segN f true) ++ [(⟨4, ((O.length + (m + 1) * segN f true - 1 : Nat) : Int), ((O.length + (m + 1) * segN f true + N - 1 : Nat) : Int), 0, 0, 0, false, noP⟩ : Nd)] ++ [(⟨5, ((O.length + m * segN f true : Nat) : Int), ((O.length + (m + 1) * segN f true + N : Nat) : Int), 0, 0, 0, false, noP⟩ : Nd)] = O ++ segsW f true m O.length ++ optW f true (j - m) (O.length + m * segN f true)) := by
              show O ++ segsW f true (m + 1) O.length ++ optW f true (j - (m + 1)) (O.length + (m + 1) * segN f true) ++ [(⟨4, ((O.length + (m + 1) * segN f true - 1 : Nat) : Int), ((O.length + (m + 1) * segN f true + N - 1 : Nat) : Int), 0, 0, 0, false, noP⟩ : Nd)] ++ [(⟨5, ((O.length + m * segN f true : Nat) : Int), ((O.length + (m + 1) * segN f true + N : Nat) : Int), 0, 0, 0, false, noP⟩ : Nd)] = O ++ segsW f true m O.length ++ optW f true (j - m) (O.length + m * segN f true)
              rw [Hjm.out, HO1.out, Hseg.out, show O.length + m * segN f true + segN f true = O.length + (m + 1) * segN f true by have := Hsuc.out; omega]
              simp [altNd, catNd]
            go_wp2_with fail
            go_roundg m
            case measure => omega
            case rel =>
              refine ⟨m, rfl, rfl, by omega, ?_, by rw [← Hnew.out]; exact hSM6, hE5.frame f6 (by unfold SBld; omega), hX5.frame f6 (by unfold SBld; omega), F5.trans f6 (fun _ _ h => h)⟩
              rw [if_neg (by omega), Hl2.out]
              congr 2
              have := Hsuc.out
              have hc : ((m : Int) + 1) * ((segN f true : Nat) : Int) = (((m + 1) * segN f true : Nat) : Int) := by simp
              omega
end Go.Proofs.Qxb6500283aGreat
