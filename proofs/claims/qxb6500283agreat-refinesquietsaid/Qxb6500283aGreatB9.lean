/- The real parser's step. -/
import Derived.Test.Qxb6500283aGreatB7e
import Derived.Test.Qxb6500283aGreatB8d
namespace Go.Proofs.Qxb6500283aGreat
open Go Go.RowKit

theorem RMem.frame {S : Nat → Prop} {w w' : World} {x : Nat} {p : ByteArray} {T : Rs} (h : RMem w x p T) (k : Fr S w w') (hx : ¬ S x) : RMem w' x p T := by
  obtain ⟨f, q, hb, hL⟩ := h
  exact ⟨f, q, hb.frame k hx, hL⟩
theorem RMem.setI {w : World} {x : Nat} {p : ByteArray} {T : Rs} (h : RMem w x p T) (j : Nat) : RMem (w.setCell ⟨x, 1, none⟩ (.int .i64 (j : Nat))) x p ⟨⟨j, T.s.ns, T.s.g⟩, T.f, T.r⟩ := by
  obtain ⟨f, q, hb, hL⟩ := h
  exact ⟨_, q, hb.set 1 _, hL.setI _⟩
theorem RMem.cells {w : World} {x : Nat} {p : ByteArray} {T : Rs} (h : RMem w x p T) : w.cell? ⟨x, 0, none⟩ = some (.string p) ∧ w.cell? ⟨x, 1, none⟩ = some (.int .i64 (T.s.i : Nat)) ∧ w.cell? ⟨x, 323, none⟩ = some (.int .i64 0) ∧ (∀ o, w.frozen? ⟨x, o, none⟩ = false) ∧ x < w.heap.size := by
  obtain ⟨f, q, hb, hL⟩ := h
  refine ⟨?_, ?_, ?_, hb.frozen, hb.lt⟩
  · rw [hb.cell (by omega), hL.p0]
  · rw [hb.cell (by omega), hL.i1]
  · rw [hb.cell (by omega), hL.er]
theorem RErr.cells {w : World} {x : Nat} {p : ByteArray} {e q : Int} (h : RErr w x p e q) : w.cell? ⟨x, 323, none⟩ = some (.int .i64 e) ∧ (∃ iv, w.cell? ⟨x, 1, none⟩ = some (.int .i64 iv)) ∧ (∀ o, w.frozen? ⟨x, o, none⟩ = false) ∧ x < w.heap.size := by
  obtain ⟨f, iv, ns, g, t, r, hb, hL, _⟩ := h
  refine ⟨?_, ⟨iv, ?_⟩, hb.frozen, hb.lt⟩
  · rw [hb.cell (by omega), hL.er]
  · rw [hb.cell (by omega), hL.i1]
theorem RErr.setI {w : World} {x : Nat} {p : ByteArray} {e q : Int} (h : RErr w x p e q) (v : Int) : RErr (w.setCell ⟨x, 1, none⟩ (.int .i64 v)) x p e q := by
  obtain ⟨f, iv, ns, g, t, r, hb, hL, h2⟩ := h
  exact ⟨_, v, ns, g, t, r, hb.set 1 _, hL.setI v, h2⟩
theorem RErr.frame {S : Nat → Prop} {w w' : World} {x : Nat} {p : ByteArray} {e q : Int} (h : RErr w x p e q) (k : Fr S w w') (hx : ¬ S x) : RErr w' x p e q := by
  obtain ⟨f, iv, ns, g, t, r, hb, hL, h2⟩ := h
  exact ⟨f, iv, ns, g, t, r, hb.frame k hx, hL, h2⟩
theorem leaf_step {p : ByteArray} {T T1 : Rs} {res : Except Er (Int × BSet × Nat)} (h1 : signB (bt p T.s.i) = false) (h2 : bt p T.s.i ≠ 124) (h3 : bt p T.s.i ≠ 41) (h4 : bt p T.s.i ≠ 40) (hj : joinR T = .ok T1) (hl : LeafR p T.s.i res) : StepR p T (leafRes T1 res) := by
  cases res with
  | error e => exact StepR.leafE h1 h2 h3 h4 hj hl
  | ok v => exact StepR.leaf h1 h2 h3 h4 hj hl
set_option maxRecDepth 100000 in
set_option maxHeartbeats 16000000 in
theorem stepR_any {w : World} {x : Nat} {p : ByteArray} {T : Rs} (hM : RMem w x p T) (hT : RsOk p T) (hsz : p.size ≤ 129) (hi : T.s.i < p.size) : Calls Tryz.prog 107 #[.pointer (some ⟨x, 0, none⟩)] w fun e w' => e = .returned (.tuple #[]) ∧ ∃ res, StepR p T res ∧ RPost w x p res w' := by
  obtain ⟨c0, c1, _, z, hxl⟩ := hM.cells
  have Hbt : Hid _ := bt_at p T.s.i hi
  have hcl := bt_lt p T.s.i
  have F0 := (Fr.refl (fun b => b = x) w).drew
  have hM0 := hM.frame (Fr.refl (fun _ => False) w).drew (fun h => h)
  go_enter Tryz.func107, Tryz.ntmps107
  go_wp2_with fail
  refine wp_region_text (by kernel_rfl) (by kernel_rfl) ?_
  go_wp2_with fail
  refine ⟨by kernel_rfl, ?_⟩
  rw [← Hbt.out]
  clear Hbt
  generalize hcc : bt p T.s.i = c at *
  by_cases h42 : c = 42
  · subst h42
    go_wp2_with fail
    refine (signR_any hM0 hT hsz hi (by rw [hcc]; rfl)).mono ?_
    rintro e w1 ⟨rfl, f1, hP⟩
    go_wp2_with fail
    exact bodyPost_ret (v := .tuple #[]) (by simp [results, Tryz.results107, go_sem]) rfl ⟨rfl, _, StepR.sign (by rw [hcc]; rfl), F0.trans f1 (fun _ _ h => h), hP⟩
  by_cases h43 : c = 43
  · subst h43
    go_wp2_with fail
    refine (signR_any hM0 hT hsz hi (by rw [hcc]; rfl)).mono ?_
    rintro e w1 ⟨rfl, f1, hP⟩
    go_wp2_with fail
    exact bodyPost_ret (v := .tuple #[]) (by simp [results, Tryz.results107, go_sem]) rfl ⟨rfl, _, StepR.sign (by rw [hcc]; rfl), F0.trans f1 (fun _ _ h => h), hP⟩
  by_cases h63 : c = 63
  · subst h63
    go_wp2_with fail
    refine (signR_any hM0 hT hsz hi (by rw [hcc]; rfl)).mono ?_
    rintro e w1 ⟨rfl, f1, hP⟩
    go_wp2_with fail
    exact bodyPost_ret (v := .tuple #[]) (by simp [results, Tryz.results107, go_sem]) rfl ⟨rfl, _, StepR.sign (by rw [hcc]; rfl), F0.trans f1 (fun _ _ h => h), hP⟩
  by_cases h123 : c = 123
  · subst h123
    go_wp2_with fail
    refine (signR_any hM0 hT hsz hi (by rw [hcc]; rfl)).mono ?_
    rintro e w1 ⟨rfl, f1, hP⟩
    go_wp2_with fail
    exact bodyPost_ret (v := .tuple #[]) (by simp [results, Tryz.results107, go_sem]) rfl ⟨rfl, _, StepR.sign (by rw [hcc]; rfl), F0.trans f1 (fun _ _ h => h), hP⟩
  have hsg : signB c = false := by simp [signB, h42, h43, h63, h123]
  have t42 : (c == 42) = false := by simpa using h42
  have t42' : ((c : Int) == 42) = false := by simp; omega
  have t43 : (c == 43) = false := by simpa using h43
  have t43' : ((c : Int) == 43) = false := by simp; omega
  have t63 : (c == 63) = false := by simpa using h63
  have t63' : ((c : Int) == 63) = false := by simp; omega
  have t123 : (c == 123) = false := by simpa using h123
  have t123' : ((c : Int) == 123) = false := by simp; omega
  go_wp2_with fail
  refine (joinR_any hM0 hT).mono ?_
  rintro e w1 ⟨rfl, f1, hP⟩
  have F1 := F0.trans f1 (fun _ _ h => h)
  clear c0 c1 z
  cases hj : joinR T with
  | error e1 =>
    have h8 := joinR_err hj
    rw [hj] at hP
    have hP' : RErr w1 x p e1.1 (e1.2 : Nat) := hP
    obtain ⟨ce, _⟩ := hP'.cells
    rw [h8] at ce
    go_wp2_with fail
    exact bodyPost_ret (v := .tuple #[]) (by simp [results, Tryz.results107, go_sem]) rfl ⟨rfl, _, StepR.joinE (by rw [hcc]; exact hsg) hj, F1, hP⟩
  | ok T1 =>
    rw [hj] at hP
    have hM1 : RMem w1 x p T1 := hP
    have hT1 := hT.join hj
    have hi1 : T1.s.i = T.s.i := (joinR_ok hj).1
    obtain ⟨d0, d1, ce, z1, hxl1⟩ := hM1.cells
    have hiT : T1.s.i < p.size := by omega
    have Hcc : Hid _ := hcc
    have Hj : Hid _ := hj
    have Hi1 : Hid _ := hi1
    clear hP hj hi1
    by_cases h124 : c = 124
    · subst h124
      have st := StepR.bar (p := p) (t := T) Hcc.out Hj.out
      go_wp2_with fail
      refine (foldR_any hM1 hT1).mono ?_
      rintro e w2 ⟨rfl, f2, hP2⟩
      have F2 := F1.trans f2 (fun _ _ h => h)
      cases hf : foldR T1 with
      | error e1 =>
        rw [hf] at hP2 st
        have hP' : RErr w2 x p e1.1 (e1.2 : Nat) := hP2
        obtain ⟨_, ⟨iv, ci⟩, z2, _⟩ := hP'.cells
        go_wp2_with fail
        go_end0
        exact ⟨rfl, _, st, F2.setC x 1 _ (fun _ => rfl), hP'.setI _⟩
      | ok T2 =>
        rw [hf] at hP2 st
        have hM2 : RMem w2 x p T2 := hP2
        obtain ⟨_, ci, _, z2, _⟩ := hM2.cells
        have hb2 : (T2.s.i : Int) ≤ 129 := by have := (hT1.fold hf).2.2.1; omega
        go_wp2_with fail
        go_end0
        exact ⟨rfl, _, st, F2.setC x 1 _ (fun _ => rfl), hM2.setI (T2.s.i + 1)⟩
    by_cases h41 : c = 41
    · subst h41
      go_wp2_with fail
      refine (shutR_any hM1 hT1 hsz hiT).mono ?_
      rintro e w2 ⟨rfl, f2, hP2⟩
      go_wp2_with fail
      go_end0
      exact ⟨rfl, _, StepR.shut Hcc.out Hj.out, F1.trans f2 (fun _ _ h => h), hP2⟩
    by_cases h40 : c = 40
    · subst h40
      go_wp2_with fail
      refine (openR_any hM1 hT1 hsz hiT).mono ?_
      rintro e w2 ⟨rfl, f2, hP2⟩
      go_wp2_with fail
      go_end0
      exact ⟨rfl, _, StepR.open_ Hcc.out Hj.out, F1.trans f2 (fun _ _ h => h), hP2⟩
    have hls : ∀ {res}, LeafR p T.s.i res → StepR p T (leafRes T1 res) := fun h => leaf_step (by rw [Hcc.out]; exact hsg) (by rw [Hcc.out]; exact h124) (by rw [Hcc.out]; exact h41) (by rw [Hcc.out]; exact h40) Hj.out h
    by_cases h91 : c = 91
    · subst h91
      go_wp2_with fail
      refine (classR_any hM1 hT1 hsz hiT (by rw [Hi1.out]; exact Hcc.out)).mono ?_
      rintro e w2 ⟨rfl, res, hl, f2, hP2⟩
      rw [Hi1.out] at hl
      go_wp2_with fail
      go_end0
      exact ⟨rfl, _, hls hl, F1.trans f2 (fun _ _ h => h), hP2⟩
    by_cases h92 : c = 92
    · subst h92
      have hM1' := hM1
      obtain ⟨f, q, hb, hL⟩ := hM1'
      go_wp2_with fail
      refine (escR_any hb hL.p0 hL.i1 hsz hiT).mono ?_
      intro e w2 hE
      cases ho : esc p T1.s.i with
      | none =>
        rw [ho] at hE
        obtain ⟨rfl, hLe⟩ := hE
        have hRe := hLe.rerr hL hT1.s.wf hT1.s.len hT1.s.g hT1.d
        obtain ⟨ce2, _, _, lx2⟩ := hRe.cells
        have f2 := hLe.2
        rw [show setV noP = .agg #[.int .u64 0, .int .u64 0, .int .u64 0, .int .u64 0] by rfl]
        go_wp2_with fail
        go_end0
        refine ⟨rfl, _, hls (LeafR.escE Hcc.out (by rw [← Hi1.out]; exact ho)), (F1.trans f2 (fun _ _ h => h)).alloc _, ?_⟩
        rw [← Hi1.out]
        exact hRe.frame (S := fun _ => False) ((Fr.refl _ _).alloc _) (fun h => h)
      | some v =>
        obtain ⟨P, sg, b, j⟩ := v
        rw [ho] at hE
        obtain ⟨rfl, hb2, f2⟩ := hE
        have hM2 : RMem w2 x p ⟨⟨j, T1.s.ns, T1.s.g⟩, T1.f, T1.r⟩ := ⟨_, q, hb2, hL.setI _⟩
        have hM3 := hM2.frame ((Fr.refl (fun _ => False) w2).alloc (.cells #[.int .u64 (wd (P) 0 : Nat), .int .u64 (wd (P) 1 : Nat), .int .u64 (wd (P) 2 : Nat), .int .u64 (wd (P) 3 : Nat)] 95)) (fun h => h)
        have hT3 : RsOk p ⟨⟨j, T1.s.ns, T1.s.g⟩, T1.f, T1.r⟩ := ⟨⟨hT1.s.wf, hT1.s.len, hT1.s.g, (esc_le ho).1⟩, hT1.f, hT1.r, hT1.d⟩
        obtain ⟨_, _, ce2, _, lx2⟩ := hM2.cells
        clear d0 d1 ce z1
        unfold setV
        go_wp2_with fail
        refine (leafR_any hM3 hT3 1 (.inr (.inl rfl)) P).mono ?_
        rintro e w3 ⟨rfl, f3, hP3⟩
        go_wp2_with fail
        go_end0
        exact ⟨rfl, _, hls (LeafR.esc Hcc.out (by rw [← Hi1.out]; exact ho)), ((F1.trans f2 (fun _ _ h => h)).alloc _).trans f3 (fun _ _ h => h), hP3⟩
    have hM2 := hM1.setI (T1.s.i + 1)
    have hT2 : RsOk p ⟨⟨T1.s.i + 1, T1.s.ns, T1.s.g⟩, T1.f, T1.r⟩ := ⟨⟨hT1.s.wf, hT1.s.len, hT1.s.g, by simp only; omega⟩, hT1.f, hT1.r, hT1.d⟩
    have F2 := F1.setC x 1 (.int .i64 ((T1.s.i + 1 : Nat) : Int)) (fun _ => rfl)
    have hib : (T1.s.i : Int) ≤ 129 := by omega
    by_cases h46 : c = 46
    · subst h46
      go_wp2_with fail
      refine (between_any 10 10 (by omega) (by omega) _).mono ?_
      rintro e w3 ⟨rfl, f3⟩
      have hM3 := (hM2.frame f3 (fun h => h)).frame ((Fr.refl (fun _ => False) w3).alloc (.cells #[.int .u64 (wd (btw 10 10) 0 : Nat), .int .u64 (wd (btw 10 10) 1 : Nat), .int .u64 (wd (btw 10 10) 2 : Nat), .int .u64 (wd (btw 10 10) 3 : Nat)] 95)) (fun h => h)
      have F3 := (F2.trans f3 (fun _ _ h => h.elim)).alloc (.cells #[.int .u64 (wd (btw 10 10) 0 : Nat), .int .u64 (wd (btw 10 10) 1 : Nat), .int .u64 (wd (btw 10 10) 2 : Nat), .int .u64 (wd (btw 10 10) 3 : Nat)] 95)
      unfold setV
      go_wp2_with fail
      refine (not_any (btw 10 10) _).mono ?_
      rintro e w4 ⟨rfl, f4⟩
      have hM4 := (hM3.frame f4 (fun h => h)).frame ((Fr.refl (fun _ => False) w4).alloc (.cells #[.int .u64 (wd (notP (btw 10 10)) 0 : Nat), .int .u64 (wd (notP (btw 10 10)) 1 : Nat), .int .u64 (wd (notP (btw 10 10)) 2 : Nat), .int .u64 (wd (notP (btw 10 10)) 3 : Nat)] 95)) (fun h => h)
      have F4 := (F3.trans f4 (fun _ _ h => h.elim)).alloc (.cells #[.int .u64 (wd (notP (btw 10 10)) 0 : Nat), .int .u64 (wd (notP (btw 10 10)) 1 : Nat), .int .u64 (wd (notP (btw 10 10)) 2 : Nat), .int .u64 (wd (notP (btw 10 10)) 3 : Nat)] 95)
      unfold setV
      go_wp2_with fail
      refine (leafR_any hM4 hT2 1 (.inr (.inl rfl)) (notP (btw 10 10))).mono ?_
      rintro e w5 ⟨rfl, f5, hP5⟩
      go_wp2_with fail
      go_end0
      refine ⟨rfl, _, hls (LeafR.dot Hcc.out), F4.trans f5 (fun _ _ h => h), ?_⟩
      rw [← Hi1.out]
      exact hP5
    by_cases h94 : c = 94
    · subst h94
      go_wp2_with fail
      refine (leafR_any hM2 hT2 2 (.inr (.inr (.inl rfl))) noP).mono ?_
      rintro e w5 ⟨rfl, f5, hP5⟩
      go_wp2_with fail
      go_end0
      refine ⟨rfl, _, hls (LeafR.bgn Hcc.out), F2.trans f5 (fun _ _ h => h), ?_⟩
      rw [← Hi1.out]
      exact hP5
    by_cases h36 : c = 36
    · subst h36
      go_wp2_with fail
      refine (leafR_any hM2 hT2 3 (.inr (.inr (.inr rfl))) noP).mono ?_
      rintro e w5 ⟨rfl, f5, hP5⟩
      go_wp2_with fail
      go_end0
      refine ⟨rfl, _, hls (LeafR.end_ Hcc.out), F2.trans f5 (fun _ _ h => h), ?_⟩
      rw [← Hi1.out]
      exact hP5
    go_wp2_with fail
    refine (between_any c c hcl hcl _).mono ?_
    rintro e w3 ⟨rfl, f3⟩
    have hM3 := (hM2.frame f3 (fun h => h)).frame ((Fr.refl (fun _ => False) w3).alloc (.cells #[.int .u64 (wd (btw c c) 0 : Nat), .int .u64 (wd (btw c c) 1 : Nat), .int .u64 (wd (btw c c) 2 : Nat), .int .u64 (wd (btw c c) 3 : Nat)] 95)) (fun h => h)
    have F3 := (F2.trans f3 (fun _ _ h => h.elim)).alloc (.cells #[.int .u64 (wd (btw c c) 0 : Nat), .int .u64 (wd (btw c c) 1 : Nat), .int .u64 (wd (btw c c) 2 : Nat), .int .u64 (wd (btw c c) 3 : Nat)] 95)
    unfold setV
    go_wp2_with fail
    refine (leafR_any hM3 hT2 1 (.inr (.inl rfl)) (btw c c)).mono ?_
    rintro e w5 ⟨rfl, f5, hP5⟩
    go_wp2_with fail
    go_end0
    refine ⟨rfl, _, hls (LeafR.lit (by rw [Hcc.out]; exact h91) (by rw [Hcc.out]; exact h92) (by rw [Hcc.out]; exact h46) (by rw [Hcc.out]; exact h94) (by rw [Hcc.out]; exact h36)), F3.trans f5 (fun _ _ h => h), ?_⟩
    rw [← Hi1.out, Hi1.out, Hcc.out, ← Hi1.out]
    exact hP5
end Go.Proofs.Qxb6500283aGreat
