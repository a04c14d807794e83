/- The model's Parse. -/
import Derived.Test.Qxb6500283aGreatC12
import Derived.Test.Qxb6500283aGreatB11
import Derived.Test.Qxb6500283aGreatMake
namespace Go.Proofs.Qxb6500283aGreat
open Go Go.RowKit

def ModelL (p : ByteArray) (o : Ans) : Prop := (128 < p.size ∧ o = .error (12, 0)) ∨ (p.size ≤ 128 ∧ ModelR p o)
theorem tail_cells0 {w : World} {b : Nat} {f : Nat → Value} (h : Blk w b 5 f) (v0 v1 v2 v3 v4 : Value) : (((((w.setCell ⟨b, 0, none⟩ v0).setCell ⟨b, 1, none⟩ v1).setCell ⟨b, 2, none⟩ v2).setCell ⟨b, 3, none⟩ v3).setCell ⟨b, 4, none⟩ v4).cell? ⟨b, 0, none⟩ = some v0 ∧
    (((((w.setCell ⟨b, 0, none⟩ v0).setCell ⟨b, 1, none⟩ v1).setCell ⟨b, 2, none⟩ v2).setCell ⟨b, 3, none⟩ v3).setCell ⟨b, 4, none⟩ v4).cell? ⟨b, 1, none⟩ = some v1 ∧
    (((((w.setCell ⟨b, 0, none⟩ v0).setCell ⟨b, 1, none⟩ v1).setCell ⟨b, 2, none⟩ v2).setCell ⟨b, 3, none⟩ v3).setCell ⟨b, 4, none⟩ v4).cell? ⟨b, 2, none⟩ = some v2 ∧
    (((((w.setCell ⟨b, 0, none⟩ v0).setCell ⟨b, 1, none⟩ v1).setCell ⟨b, 2, none⟩ v2).setCell ⟨b, 3, none⟩ v3).setCell ⟨b, 4, none⟩ v4).cell? ⟨b, 3, none⟩ = some v3 ∧
    (((((w.setCell ⟨b, 0, none⟩ v0).setCell ⟨b, 1, none⟩ v1).setCell ⟨b, 2, none⟩ v2).setCell ⟨b, 3, none⟩ v3).setCell ⟨b, 4, none⟩ v4).cell? ⟨b, 4, none⟩ = some v4 := by
  have h5 := ((((h.set 0 v0).set 1 v1).set 2 v2).set 3 v3).set 4 v4
  refine ⟨?_, ?_, ?_, ?_, ?_⟩
  · have := h5.cell (o := 0) (by omega); simpa [upd] using this
  · have := h5.cell (o := 1) (by omega); simpa [upd] using this
  · have := h5.cell (o := 2) (by omega); simpa [upd] using this
  · have := h5.cell (o := 3) (by omega); simpa [upd] using this
  · have := h5.cell (o := 4) (by omega); simpa [upd] using this
theorem ndCell_one (n : Nd) {j : Nat} (h : j < 11) : (ndCell n j).oneCell' = true := by
  rcases lt11 h with rfl | rfl | rfl | rfl | rfl | rfl | rfl | rfl | rfl | rfl | rfl <;> rfl
theorem Holds11.one {f : Nat → Value} {ns : List Nd} (h : Holds11 f ns) (j : Nat) (hj : j < ns.length * 11) : (f j).oneCell' = true := by
  have h1 := h (j / 11) (by omega) (j % 11) (by omega)
  rw [show j / 11 * 11 + j % 11 = j by omega] at h1
  rw [h1]
  exact ndCell_one _ (by omega)
theorem Holds11.laid {f g : Nat → Value} {ns : List Nd} (h : Holds11 f ns) : Holds11 (lay g 0 (rowOf f 0 (ns.length * 11))) ns := by
  intro i hi j hj
  rw [lay_in _ _ _ _ (by omega) (by rw [rowOf_length]; omega)]
  have h1 := rowOf_get f 0 (ns.length * 11) (i * 11 + j) (by omega)
  rw [List.getElem?_eq_some_iff] at h1
  obtain ⟨_, h1⟩ := h1
  simp only [Nat.sub_zero]
  rw [h1, Nat.zero_add]
  exact h i hi j hj
def runCell (p : ByteArray) (j : Nat) : Value := match j with | 0 => .string p | 2 => .slice none 0 0 | _ => .int .i64 0
theorem Blk.run (w : World) (p : ByteArray) : Blk (w.alloc (.cells #[.string p, .int .i64 0, .slice none 0 0, .int .i64 0, .int .i64 0, .int .i64 0] 163)) w.heap.size 6 (runCell p) :=
  Blk.new w _ _ _ fun o ho => by
    have ho : o < 6 := by simpa using ho
    obtain rfl | rfl | rfl | rfl | rfl | rfl : o = 0 ∨ o = 1 ∨ o = 2 ∨ o = 3 ∨ o = 4 ∨ o = 5 := by omega
    all_goals rfl
set_option maxRecDepth 100000 in
set_option maxHeartbeats 16000000 in
theorem parseM_any {w : World} {m c : Nat} (hm : Blk w m 1 (fun _ => .int .i64 (c : Nat))) (hc : c ≤ 1000000000000000000) (p : ByteArray) :
    Calls Tryz.prog 65 #[.pointer (some ⟨m, 0, none⟩), .string p] w fun v w' => ∃ o, ModelL p o ∧ ParsePost w o v w' ∧ Blk w' m 1 (fun _ => .int .i64 ((c + 1 : Nat) : Int)) ∧ Fr (fun b => b = m) w w' := by
  have cm := hm.cell (o := 0) (by omega)
  have z := hm.frozen
  have hml := hm.lt
  have hcb : (c : Int) ≤ 1000000000000000000 := by omega
  have hm1 : Blk (w.setCell ⟨m, 0, none⟩ (.int .i64 ((c : Int) + 1))) m 1 (fun _ => .int .i64 ((c + 1 : Nat) : Int)) := by
    refine (hm.set 0 _).congr (fun o ho => ?_)
    obtain rfl : o = 0 := by omega
    rw [upd_same]
    rfl
  have F1 := (Fr.refl (fun b => b = m) w).setC m 0 (.int .i64 ((c : Int) + 1)) (fun _ => rfl)
  go_enter Tryz.func65, Tryz.ntmps65
  by_cases hbig : 128 < p.size
  · have hbig' : (128 : Int) < p.size := by omega
    go_wp2_with fail
    exact bodyPost_ret (v := trErr (12, 0)) (by simp [results, Tryz.results65, go_sem, trErr]) rfl ⟨.error (12, 0), .inl ⟨hbig, rfl⟩, rfl, hm1.alloc _, F1.alloc _⟩
  · have hbig' : (p.size : Int) ≤ 128 := by omega
    have hbd : decide ((128 : Int) < p.size) = false := decide_eq_false (by omega)
    have Hs : Hid _ := Nat.not_lt.1 hbig
    clear hbig
    have hR0 := Blk.tr (w.setCell ⟨m, 0, none⟩ (.int .i64 ((c : Int) + 1))) (.slice none 0 0)
    have hR1 := hR0.alloc (.cells #[.string p, .int .i64 0, .slice none 0 0, .int .i64 0, .int .i64 0, .int .i64 0] 163)
    have hr1 := Blk.run ((w.setCell ⟨m, 0, none⟩ (.int .i64 ((c : Int) + 1))).alloc (.cells #[.slice none 0 0, .int .i64 0, .int .i64 0, .int .i64 0, .int .i64 0] 148)) p
    simp only [World.size_alloc, World.size_setCell] at hR1 hr1
    have hm2 := (hm1.alloc (.cells #[.slice none 0 0, .int .i64 0, .int .i64 0, .int .i64 0, .int .i64 0] 148)).alloc (.cells #[.string p, .int .i64 0, .slice none 0 0, .int .i64 0, .int .i64 0, .int .i64 0] 163)
    have F2 := (F1.alloc (.cells #[.slice none 0 0, .int .i64 0, .int .i64 0, .int .i64 0, .int .i64 0] 148)).alloc (.cells #[.string p, .int .i64 0, .slice none 0 0, .int .i64 0, .int .i64 0, .int .i64 0] 163)
    have hMM : MMem (((w.setCell ⟨m, 0, none⟩ (.int .i64 ((c : Int) + 1))).alloc (.cells #[.slice none 0 0, .int .i64 0, .int .i64 0, .int .i64 0, .int .i64 0] 148)).alloc (.cells #[.string p, .int .i64 0, .slice none 0 0, .int .i64 0, .int .i64 0, .int .i64 0] 163)) (w.heap.size + 1) p ⟨0, [], 0⟩ :=
      ⟨_, .slice none 0 0, 0, hr1, ⟨rfl, rfl, rfl, rfl, rfl, rfl⟩, .inl ⟨rfl, rfl⟩, fun b n c e => by cases e⟩
    go_wp2_with fail
    refine (descent (by omega) 5 (by omega) _ _ hMM (sgOk0 p)).mono ?_
    rintro v w2 ⟨res, hd, hP⟩
    have hok := AltD.fine p 5 _ _ hd (sgOk0 p)
    have HD : Hid _ := hd
    clear hd hMM cm z
    cases res with
    | error e =>
      obtain ⟨f2, ⟨u, rfl⟩, hE⟩ := hP
      have hR2 := hR1.frame f2 (by omega)
      have hm3 := hm2.frame f2 (by omega)
      have F3 := F2.trans f2 (fun b hb h => by omega)
      obtain ⟨gE, nvE, GE, ivE, hbE, hLE, hivE, heE⟩ := hE
      have c4 := hbE.cell (o := 4) (by omega)
      rw [hLE.e4] at c4
      have c5 := hbE.cell (o := 5) (by omega)
      rw [hLE.q5] at c5
      have lE := hbE.lt
      have lR := hR2.lt
      have zR := hR2.frozen
      have m0 := hR2.cell (o := 0) (by omega)
      have m1 := hR2.cell (o := 1) (by omega)
      have m2 := hR2.cell (o := 2) (by omega)
      have m3 := hR2.cell (o := 3) (by omega)
      have m4 := hR2.cell (o := 4) (by omega)
      have te : (e.1 == 0) = false := by simpa using heE
      have te' : (e.1 != 0) = true := by simpa using heE
      go_wp2_with fail
      refine wp_region_text (by kernel_rfl) (by kernel_rfl) ?_
      go_wp2_with fail
      refine ⟨by kernel_rfl, ?_⟩
      go_wp2_with fail
      obtain ⟨r0, r1, r2, r3, r4⟩ := tail_cells hR2 (.slice none 0 0) (.int .i64 (-1)) (.int .i64 0) (.int .i64 e.1) (.int .i64 (e.2 : Nat))
      have FR := (((((((Fr.refl (fun b => b = w.heap.size) w2).setC w.heap.size 0 (.slice none 0 0) (fun _ => rfl)).setC w.heap.size 1 (.int .i64 (-1)) (fun _ => rfl)).setC w.heap.size 2 (.int .i64 0) (fun _ => rfl)).setC w.heap.size 3 (.int .i64 e.1) (fun _ => rfl)).setC w.heap.size 4 (.int .i64 (e.2 : Nat)) (fun _ => rfl)).drew)
      exact bodyPost_ret (v := trErr e) (by simp [results, Tryz.results65, go_sem, trErr, r0, r1, r2, r3, r4]) rfl ⟨.error e, .inr ⟨Hs.out, ModelR.err HD.out⟩, rfl, hm3.frame FR (by omega), F3.trans FR (fun b hb h => by omega)⟩
    | ok xs =>
      obtain ⟨y, s2⟩ := xs
      obtain ⟨f2, rfl, hM2⟩ := hP
      obtain ⟨hS2, hy2⟩ := hok
      have hR2 := hR1.frame f2 (by omega)
      have hm3 := hm2.frame f2 (by omega)
      have F3 := F2.trans f2 (fun b hb h => by omega)
      obtain ⟨d0, d1, d4, z2, l2⟩ := hM2.cells
      obtain ⟨g2, nv2, q2, hb2, hL2, hN2, hnr2⟩ := hM2
      have hlen2 := hS2.len
      have c2 := hb2.cell (o := 2) (by omega)
      rw [hL2.n2] at c2
      have c3 := hb2.cell (o := 3) (by omega)
      rw [hL2.g3] at c3
      by_cases hlt : s2.i < p.size
      · have kd : decide ((s2.i : Int) < p.size) = true := decide_eq_true (by omega)
        go_wp2_with fail
        refine (failM_any hb2 0 hL2.e4 1 s2.i).mono ?_
        rintro v w3 ⟨rfl, hb3, f3⟩
        rw [if_pos rfl] at hb3
        have hL3 := hL2.setE 1 s2.i
        have hR3 := hR2.frame f3 (by omega)
        have hm4 := hm3.frame f3 (by omega)
        have F4 := F3.trans f3 (fun b hb h => by omega)
        clear d0 d1 d4 z2 l2 c2 c3
        have c4 := hb3.cell (o := 4) (by omega)
        rw [hL3.e4] at c4
        have c5 := hb3.cell (o := 5) (by omega)
        rw [hL3.q5] at c5
        have lE := hb3.lt
        have lR := hR3.lt
        have zR := hR3.frozen
        have m0 := hR3.cell (o := 0) (by omega)
        have m1 := hR3.cell (o := 1) (by omega)
        have m2 := hR3.cell (o := 2) (by omega)
        have m3 := hR3.cell (o := 3) (by omega)
        have m4 := hR3.cell (o := 4) (by omega)
        go_wp2_with fail
        refine wp_region_text (by kernel_rfl) (by kernel_rfl) ?_
        go_wp2_with fail
        refine ⟨by kernel_rfl, ?_⟩
        go_wp2_with fail
        obtain ⟨r0, r1, r2, r3, r4⟩ := tail_cells hR3 (.slice none 0 0) (.int .i64 (-1)) (.int .i64 0) (.int .i64 1) (.int .i64 (s2.i : Nat))
        have FR := (((((((Fr.refl (fun b => b = w.heap.size) w3).setC w.heap.size 0 (.slice none 0 0) (fun _ => rfl)).setC w.heap.size 1 (.int .i64 (-1)) (fun _ => rfl)).setC w.heap.size 2 (.int .i64 0) (fun _ => rfl)).setC w.heap.size 3 (.int .i64 1) (fun _ => rfl)).setC w.heap.size 4 (.int .i64 (s2.i : Nat)) (fun _ => rfl)).drew)
        exact bodyPost_ret (v := trErr (1, s2.i)) (by simp [results, Tryz.results65, go_sem, trErr, r0, r1, r2, r3, r4]) rfl ⟨.error (1, s2.i), .inr ⟨Hs.out, ModelR.paren HD.out hlt⟩, rfl, hm4.frame FR (by omega), F4.trans FR (fun b hb h => by omega)⟩
      · have kd : decide ((s2.i : Int) < p.size) = false := decide_eq_false (by omega)
        rcases hN2 with ⟨rfl, hnil⟩ | ⟨b, cap, f, rfl, hcap, hbn, hf⟩
        · rw [hnil] at hy2; simp at hy2
        have hbr := hnr2 _ _ _ rfl
        have hbl := hbn.lt
        have hR2l := hR2.lt
        go_wp2_with (first | (refine wpList_makeB (by rfl) 106 _ _ (by rfl) 97 11 88 nd0V s2.ns.length (by rfl) (by rfl) Tryz.underlying106 (by kernel_rfl) (by kernel_rfl) (by kernel_rfl) (by omega) (by omega) ?_; intro w4 f4 z4 b4; have hb4 := hb2.frame f4 (by simp); have hbn4 := hbn.frame f4 (by simp); have hR4 := hR2.frame f4 (by simp); have hm4 := hm3.frame f4 (by simp); have F4 := F3.trans f4 (fun _ _ h => h.elim); have e2 := hb4.cell (o := 2) (by omega); rw [hL2.n2] at e2; have l4 := hb4.lt) | (refine wpList_copyA (by rfl) _ _ 106 106 (by rfl) 97 11 w2.heap.size 0 s2.ns.length s2.ns.length b 0 s2.ns.length cap (s2.ns.length * 11) (cap * 11) s2.ns.length _ f (by rfl) (by rfl) Tryz.underlying106 (by kernel_rfl) (by simp) b4 hbn4 (by omega) (by omega) (fun j hj => by rw [Nat.zero_add]; exact hf.one j hj) ?_; intro w5 f5 b5; have hb5 := hb4.frame f5 (by omega); have hR5 := hR4.frame f5 (by omega); have hm5 := hm4.frame f5 (by omega); have F5 := F4.trans f5 (fun b hb h => by omega); have e3 := hb5.cell (o := 3) (by omega); rw [hL2.g3] at e3; have l5 := hb5.lt; have lR := hR5.lt; have zR := hR5.frozen; have m0 := hR5.cell (o := 0) (by omega); have m1 := hR5.cell (o := 1) (by omega); have m2 := hR5.cell (o := 2) (by omega); have m3 := hR5.cell (o := 3) (by omega); have m4 := hR5.cell (o := 4) (by omega)))
        obtain ⟨r0, r1, r2, r3, r4⟩ := tail_cells0 hR5 (.slice (some ⟨w2.heap.size, 0, none⟩) s2.ns.length s2.ns.length) (.int .i64 (y : Nat)) (.int .i64 (s2.g : Nat)) (.int .i64 0) (.int .i64 0)
        have FR := ((((((Fr.refl (fun b => b = w.heap.size) w5).setC w.heap.size 0 (.slice (some ⟨w2.heap.size, 0, none⟩) s2.ns.length s2.ns.length) (fun _ => rfl)).setC w.heap.size 1 (.int .i64 (y : Nat)) (fun _ => rfl)).setC w.heap.size 2 (.int .i64 (s2.g : Nat)) (fun _ => rfl)).setC w.heap.size 3 (.int .i64 0) (fun _ => rfl)).setC w.heap.size 4 (.int .i64 0) (fun _ => rfl))
        exact bodyPost_ret (v := .agg #[.slice (some ⟨w2.heap.size, 0, none⟩) s2.ns.length s2.ns.length, .int .i64 (y : Nat), .int .i64 (s2.g : Nat), .int .i64 0, .int .i64 0]) (by simp [results, Tryz.results65, go_sem, r0, r1, r2, r3, r4]) rfl ⟨.ok (s2.ns, y, s2.g), .inr ⟨Hs.out, ModelR.ok HD.out (by omega)⟩, ⟨w2.heap.size, by omega, rfl, _, b5.frame FR (by omega), hf.laid⟩, hm5.frame FR (by omega), F5.trans FR (fun b hb h => by omega)⟩
end Go.Proofs.Qxb6500283aGreat
