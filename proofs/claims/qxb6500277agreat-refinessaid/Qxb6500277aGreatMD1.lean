/- The model checker: free. -/
import Derived.Test.Qxb6500277aGreatMC8
namespace Go.Proofs.Qxb6500277aGreat
open Go Go.RowKit

section
variable {w w' : World} {B : Nat} {A : Ma} {X : Cx} {cur : Nat} {s : Ck} {er po : Int} {fv vv : Value} {n : Nat}
theorem vrBox_blk (w : World) (v : Vr) : Blk (w.alloc (.cells #[.string v.name, .int .i64 v.ty, .int .i64 v.slot, .int .i64 v.level] 186)) w.heap.size 4 (vrCell v) := Blk.new w _ _ _ fun o ho => by
  have ho : o < 4 := ho
  rcases lt4c ho with rfl | rfl | rfl | rfl <;> rfl
/-- What free of the model answers. -/
def FMP (w : World) (B : Nat) (A : Ma) (X : Cx) (cur : Nat) (s : Ck) (fv vv : Value) (r : Rc Unit) (e : Ending) (w' : World) : Prop := Fr (MSc A fv vv) w w' ∧ match r with
  | .ok _ s' => e = .returned (.bool true) ∧ s' = s ∧ MXc w' B A X cur s 0 0 fv vv
  | .bad er po => e = .returned (.bool false) ∧ er ≠ 0 ∧ MXc w' B A X cur s er po fv vv
theorem FMP.bad {r : Rc Unit} {e p : Int} (hr : r = .bad e p) (k : Fr (MSc A fv vv) w w') (h0 : e ≠ 0) (C : MXc w' B A X cur s e p fv vv) : FMP w B A X cur s fv vv r (.returned (.bool false)) w' := ⟨k, by rw [hr]; exact ⟨rfl, h0, C⟩⟩
theorem FMP.ok {r : Rc Unit} {u : Unit} (hr : r = .ok u s) (k : Fr (MSc A fv vv) w w') (C : MXc w' B A X cur s 0 0 fv vv) : FMP w B A X cur s fv vv r (.returned (.bool true)) w' := ⟨k, by rw [hr]; exact ⟨rfl, rfl, C⟩⟩
set_option maxRecDepth 100000 in
set_option maxHeartbeats 8000000 in
theorem freeM (H : MXc w B A X cur s 0 0 fv vv) (nm : ByteArray) (t p : Int) : Calls Tryz.prog 76 #[.pointer (some ⟨A.m, 0, none⟩), .string nm, .int .i64 t, .int .i64 p] w (FMP w B A X cur s fv vv (mayD nm t p s)) := by
  obtain ⟨-, r1, r2, r3, r4, r5, r6, r7, r8, r9, r10, hz, hlt, -, -⟩ := H.regs
  obtain ⟨va, vc, hvv⟩ := H.vs.sl
  have hvl := H.vl
  rw [hvv] at r4
  have Hvv : Hid _ := hvv
  have HH : Hid (MXc w B A X cur s 0 0 fv vv) := H
  have hm12 := H.n12
  clear H hvv
  go_enter Tryz.func76, Tryz.ntmps76
  go_wp2_with fail
  clear r1 r2 r3 r4 r5 r6 r7 r8 r9 r10 hz hlt
  go_loopg [16] s.vs.length (fun g iv wr => ∃ i : Nat, iv = .int .i64 i ∧ i + g = s.vs.length ∧ (∀ j, j < i → ¬ ((vAt s.vs j).level = s.lvl ∧ (vAt s.vs j).name = nm)) ∧ Fr (fun _ => False) w wr)
  case atStart => exact ⟨0, rfl, by omega, fun j hj => by omega, Fr.refl _ _⟩
  case round =>
    obtain ⟨i, rfl, hg, hno, F⟩ := hrel
    have Hg : Hid _ := hg
    have M := HH.out.same F
    obtain ⟨-, r1, r2, r3, r4, r5, r6, r7, r8, r9, r10, hz, hlt, -, -⟩ := M.regs
    by_cases hi : i < s.vs.length
    · have z0 : decide ((i : Int) < ((s.vs.length : Nat) : Int)) = true := decide_eq_true (by omega)
      obtain ⟨vb, cap, e, hb, _, c0, c1, c2, c3⟩ := M.var hi
      have e2 := Hvv.out.symm.trans e
      injection e2 with e2 _ e3
      subst e2 e3
      have hi24 : i < 24 := by omega
      have BX := vrBox_blk wr (vAt s.vs i)
      have FX := F.alloc (.cells #[.string (vAt s.vs i).name, .int .i64 (vAt s.vs i).ty, .int .i64 (vAt s.vs i).slot, .int .i64 (vAt s.vs i).level] 186)
      have MX1 := M.same ((Fr.refl (fun _ => False) wr).alloc (.cells #[.string (vAt s.vs i).name, .int .i64 (vAt s.vs i).ty, .int .i64 (vAt s.vs i).slot, .int .i64 (vAt s.vs i).level] 186))
      have HX : Hid (_ ∧ _ ∧ _) := ⟨BX, FX, MX1⟩
      have Hno : Hid _ := hno
      clear BX FX MX1 M F hno hg e
      by_cases hll : (vAt s.vs i).level = s.lvl
      · by_cases hnn : (vAt s.vs i).name = nm
        · have y1 := strEq hnn
          have HR : Hid (mayD nm t p s = .bad 14 p) := by show _ = _; unfold mayD; rw [if_pos ⟨i, hi, hll, hnn⟩]
          have y3 : (((vAt s.vs i).level : Int) == (s.lvl : Int)) = true := by rw [hll]; simp
          have y4 : ((vAt s.vs i).level == s.lvl) = true := by rw [hll]; simp
          clear hll hnn
          go_wp2_with fail
          generalize hw1 : wr.alloc _ = w1
          have X1 := HX.out
          rw [hw1] at X1
          obtain ⟨BX, FX, MX1⟩ := X1
          obtain ⟨bx, hbx⟩ : ∃ bx, wr.heap.size = bx := ⟨_, rfl⟩
          rw [hbx] at BX ⊢
          clear HX hw1 r1 r2 r3 r4 r5 r6 r7 r8 r9 r10 hz hlt c0 c1 c2 c3 hb hbx
          have b0 := BX.cell (o := 0) (by omega)
          have b3 := BX.cell (o := 3) (by omega)
          simp only [vrCell] at b0 b3
          have bl := BX.lt
          obtain ⟨-, r1, r2, r3, r4, r5, r6, r7, r8, r9, r10, hz, hlt, -, -⟩ := MX1.regs
          have HM : Hid (MXc w1 B A X cur s 0 0 fv vv ∧ Fr (fun _ => False) w w1) := ⟨MX1, FX⟩
          clear BX FX MX1
          refine wp_region_text (by kernel_rfl) (by kernel_rfl) ?_
          go_wp2_with fail
          refine ⟨by kernel_rfl, ?_⟩
          go_wp2_with fail
          refine (failM_live (HM.out.1.same ((Fr.refl _ _).drew)) 14 p).mono ?_
          rintro v w3 ⟨rfl, C3, k3⟩
          go_wp2_with fail
          go_ret
          exact FMP.bad HR.out (((HM.out.2.drew).mono (S' := MSc A fv vv) (fun _ _ h => h.elim)).trans k3 (fun _ _ h => h)) (by decide) C3
        · have y1 := strNe hnn
          have Hne : Hid (¬ ((vAt s.vs i).level = s.lvl ∧ (vAt s.vs i).name = nm)) := fun h => hnn h.2
          have y3 : (((vAt s.vs i).level : Int) == (s.lvl : Int)) = true := by rw [hll]; simp
          have y4 : ((vAt s.vs i).level == s.lvl) = true := by rw [hll]; simp
          clear hll hnn
          go_wp2_with fail
          generalize hw1 : wr.alloc _ = w1
          have X1 := HX.out
          rw [hw1] at X1
          obtain ⟨BX, FX, MX1⟩ := X1
          obtain ⟨bx, hbx⟩ : ∃ bx, wr.heap.size = bx := ⟨_, rfl⟩
          rw [hbx] at BX ⊢
          clear HX hw1 r1 r2 r3 r4 r5 r6 r7 r8 r9 r10 hz hlt c0 c1 c2 c3 hb hbx
          have b0 := BX.cell (o := 0) (by omega)
          have b3 := BX.cell (o := 3) (by omega)
          simp only [vrCell] at b0 b3
          have bl := BX.lt
          obtain ⟨-, r1, r2, r3, r4, r5, r6, r7, r8, r9, r10, hz, hlt, -, -⟩ := MX1.regs
          have HM : Hid (MXc w1 B A X cur s 0 0 fv vv ∧ Fr (fun _ => False) w w1) := ⟨MX1, FX⟩
          clear BX FX MX1
          refine wp_region_text (by kernel_rfl) (by kernel_rfl) ?_
          go_wp2_with fail
          refine ⟨by kernel_rfl, ?_⟩
          go_wp2_with fail
          go_roundg (gk - 1)
          case measure => have := Hg.out; omega
          case rel => exact ⟨i + 1, by simp, by have := Hg.out; omega, fun j hj => by
              by_cases ej : j = i
              · subst ej; exact Hne.out
              · exact Hno.out j (by omega), HM.out.2.drew⟩
      · have Hne : Hid (¬ ((vAt s.vs i).level = s.lvl ∧ (vAt s.vs i).name = nm)) := fun h => hll h.1
        have y3 : (((vAt s.vs i).level : Int) == (s.lvl : Int)) = false := by simpa using (fun h : ((vAt s.vs i).level : Int) = s.lvl => hll (by omega))
        have y4 : ((vAt s.vs i).level == s.lvl) = false := by simpa using hll
        clear hll
        go_wp2_with fail
        generalize hw1 : wr.alloc _ = w1
        have X1 := HX.out
        rw [hw1] at X1
        obtain ⟨BX, FX, MX1⟩ := X1
        obtain ⟨bx, hbx⟩ : ∃ bx, wr.heap.size = bx := ⟨_, rfl⟩
        rw [hbx] at BX ⊢
        clear HX hw1 r1 r2 r3 r4 r5 r6 r7 r8 r9 r10 hz hlt c0 c1 c2 c3 hb hbx
        have b0 := BX.cell (o := 0) (by omega)
        have b3 := BX.cell (o := 3) (by omega)
        simp only [vrCell] at b0 b3
        have bl := BX.lt
        obtain ⟨-, r1, r2, r3, r4, r5, r6, r7, r8, r9, r10, hz, hlt, -, -⟩ := MX1.regs
        have HM : Hid (MXc w1 B A X cur s 0 0 fv vv ∧ Fr (fun _ => False) w w1) := ⟨MX1, FX⟩
        clear BX FX MX1
        refine wp_region_text (by kernel_rfl) (by kernel_rfl) ?_
        go_wp2_with fail
        refine ⟨by kernel_rfl, ?_⟩
        go_wp2_with fail
        go_roundg (gk - 1)
        case measure => have := Hg.out; omega
        case rel => exact ⟨i + 1, by simp, by have := Hg.out; omega, fun j hj => by
            by_cases ej : j = i
            · subst ej; exact Hne.out
            · exact Hno.out j (by omega), HM.out.2.drew⟩
    · have z0 : decide ((i : Int) < ((s.vs.length : Nat) : Int)) = false := decide_eq_false (by omega)
      have z1 : decide (i < s.vs.length) = false := decide_eq_false hi
      have HR0 : Hid (mayD nm t p s = if 2 ≤ t then (if 12 ≤ s.nr then .bad 19 p else .ok () s) else if 12 ≤ s.ni then .bad 19 p else .ok () s) := by
        show _ = _
        unfold mayD
        rw [if_neg (fun h => by obtain ⟨j, h1, h2, h3⟩ := h; exact hno j (by omega) ⟨h2, h3⟩)]
      clear hg hi hno
      by_cases ht : 2 ≤ t
      · by_cases h12 : 12 ≤ s.nr
        · skip
          have z2 : decide (t ≥ 2) = true := decide_eq_true ht
          have z2' : decide (t < 2) = false := decide_eq_false (by omega)
          have z3 : decide ((s.nr : Int) ≥ 12) = true := decide_eq_true (by omega)
          have z4 : decide (12 ≤ s.nr) = true := decide_eq_true h12
          have HR : Hid (mayD nm t p s = .bad 19 p) := by show _ = _; rw [HR0.out, if_pos ht, if_pos h12]
          have hN := failM_live M 19 p
          have HF : Hid _ := F
          clear ht h12 M F
          go_wp2_with fail
          refine hN.mono ?_
          rintro v w3 ⟨rfl, C3, k3⟩
          go_wp2_with fail
          go_ret
          exact FMP.bad HR.out ((HF.out.mono (S' := MSc A fv vv) (fun _ _ h => h.elim)).trans k3 (fun _ _ h => h)) (by decide) C3
        · skip
          have z2 : decide (t ≥ 2) = true := decide_eq_true ht
          have z2' : decide (t < 2) = false := decide_eq_false (by omega)
          have z3 : decide ((s.nr : Int) ≥ 12) = false := decide_eq_false (by omega)
          have z4 : decide (12 ≤ s.nr) = false := decide_eq_false h12
          have HR : Hid (mayD nm t p s = .ok () s) := by show _ = _; rw [HR0.out, if_pos ht, if_neg h12]
          have HM : Hid _ := And.intro M F
          clear ht h12 M F
          go_wp2_with fail
          go_ret
          exact FMP.ok HR.out (HM.out.2.mono (fun _ _ h => h.elim)) HM.out.1
      · by_cases h12 : 12 ≤ s.ni
        · skip
          have z2 : decide (t ≥ 2) = false := decide_eq_false ht
          have z2' : decide (t < 2) = true := decide_eq_true (by omega)
          have z3 : decide ((s.ni : Int) ≥ 12) = true := decide_eq_true (by omega)
          have z4 : decide (12 ≤ s.ni) = true := decide_eq_true h12
          have HR : Hid (mayD nm t p s = .bad 19 p) := by show _ = _; rw [HR0.out, if_neg ht, if_pos h12]
          have hN := failM_live M 19 p
          have HF : Hid _ := F
          clear ht h12 M F
          go_wp2_with fail
          refine hN.mono ?_
          rintro v w3 ⟨rfl, C3, k3⟩
          go_wp2_with fail
          go_ret
          exact FMP.bad HR.out ((HF.out.mono (S' := MSc A fv vv) (fun _ _ h => h.elim)).trans k3 (fun _ _ h => h)) (by decide) C3
        · skip
          have z2 : decide (t ≥ 2) = false := decide_eq_false ht
          have z2' : decide (t < 2) = true := decide_eq_true (by omega)
          have z3 : decide ((s.ni : Int) ≥ 12) = false := decide_eq_false (by omega)
          have z4 : decide (12 ≤ s.ni) = false := decide_eq_false h12
          have HR : Hid (mayD nm t p s = .ok () s) := by show _ = _; rw [HR0.out, if_neg ht, if_neg h12]
          have HM : Hid _ := And.intro M F
          clear ht h12 M F
          go_wp2_with fail
          go_ret
          exact FMP.ok HR.out (HM.out.2.mono (fun _ _ h => h.elim)) HM.out.1
end
end Go.Proofs.Qxb6500277aGreat
