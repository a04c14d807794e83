/- The model machine: a call that is refused; a new frame in memory. -/
import Derived.Test.Qxb6500281aGreatVM7
import Derived.Test.Qxb6500281aGreatKI3
import Derived.Test.Qxb6500281aGreatVR24
namespace Go.Proofs.Qxb6500281aGreat
open Go Go.RowKit

section
variable {w w' w1 : World} {rn hm : Nat} {C : List Nat} {I : List Int} {V V' : Vs} {M M' : MS} {col col' : Nat → Nat} {P P' F : Nat → Prop} {cv iv ov fv : Value} {g : Nat → Value} {f : Fm} {r : List Fm}
/-- A frame is laid on the list. -/
theorem MR.pushFm (H : MR w rn hm C I V M col P cv iv ov fv g) {fm : Fm} {fv' : Value} {g' : Nat → Value} {lb : Nat} {lv : Value} (k1 : Fr (isB fv) w w1) (hA : FA w1 fv' (V.fs.length + 1) g') (h0 : ∀ j, j < V.fs.length * 5 → g' j = g j) (hf0 : g' (V.fs.length * 5) = .int .i64 (fm.ret : Nat)) (hf1 : g' (V.fs.length * 5 + 1) = lv) (hf2 : g' (V.fs.length * 5 + 2) = nilS) (hf3 : g' (V.fs.length * 5 + 3) = .int .i64 (fm.rb : Nat)) (hf4 : g' (V.fs.length * 5 + 4) = .int .i64 (fm.lr : Nat))
    (ho : fm.ops = []) (hl : KiAt w lv fm.loc) (hlb : ∀ b, isB lv b → b = lb) (hlP : ¬ P lb) (hlt : lb < w.heap.size) (hb : ∀ b, isB fv' b → w.heap.size ≤ b ∨ isB fv b) :
    MR (w1.setCell ⟨rn, 5, none⟩ fv') rn hm C I { V with fs := fm :: V.fs } M (fun c => if c = lb then 6 + 2 * V.fs.length else cq w col 1 c) (fun c => Gw P w w1 c ∨ c = lb) cv iv ov fv' g' := by
  have e5 : V.fs.length * 5 = 5 * V.fs.length := by omega
  rw [e5] at h0 hf0 hf1 hf2 hf3 hf4
  have k2 := (Fr.refl (fun c => c = rn) w1).setC rn 5 fv' (fun _ => rfl)
  have G := H.recol 1
  have hPl : ∀ {b}, P b → b ≠ lb := fun h e => hlP (e ▸ h)
  have up : ∀ {b n : Nat}, cq w col 1 b = n ∧ P b → (if b = lb then 6 + 2 * V.fs.length else cq w col 1 b) = n ∧ (Gw P w w1 b ∨ b = lb) := fun h => ⟨by rw [if_neg (hPl h.2)]; exact h.1, .inl (.inl h.2)⟩
  have y1 : ∀ {b n : Nat}, cq w col 1 b = n ∧ P b → n ≠ 1 → ¬ isB fv b := fun h hn e => hn (by rw [← h.1]; exact (G.cfs _ e).1)
  have y2 : ∀ {b n : Nat}, cq w col 1 b = n ∧ P b → n ≠ 0 → ¬ b = rn := fun h hn e => hn (by rw [← h.1, e]; exact G.crn.1)
  have lf : ¬ isB fv lb := fun h => hlP (H.cfs lb h).2
  have lr : ¬ lb = rn := fun h => hlP (h ▸ H.crn.2)
  have hv : ∀ b, isB fv' b → (if b = lb then 6 + 2 * V.fs.length else cq w col 1 b) = 1 ∧ (Gw P w w1 b ∨ b = lb) := fun b h => by
    rcases hb b h with q | q
    · exact ⟨by rw [if_neg (by omega), cq_new q], .inl (.inr ⟨q, hA.bk h⟩)⟩
    · exact up (G.cfs b q)
  have hvr : ∀ b, isB fv' b → ¬ b = rn := fun b h e => by
    have h1 := (hv b h).1
    rw [e, if_neg (fun q => lr q.symm)] at h1
    rw [G.crn.1] at h1
    omega
  obtain ⟨OH, m1, m2⟩ := G.hp
  have hb1 := (G.blk.frame k1 (y1 G.crn (by omega))).set 5 fv'
  have hll : ∀ b, isB lv b → ¬ isB fv b ∧ ¬ b = rn := fun b h => by rw [hlb b h]; exact ⟨lf, lr⟩
  refine ⟨hb1.congr (fun o ho => (by rcases lt12 ho with rfl | rfl | rfl | rfl | rfl | rfl | rfl | rfl | rfl | rfl | rfl | rfl <;> rfl)), (G.code.frame k1 (fun b h => y1 (G.ccv b h) (by omega))).frame k2 (fun b h => y2 (G.ccv b h) (by omega)), (G.inp.frame k1 (fun b h => y1 (G.civ b h) (by omega))).frame k2 (fun b h => y2 (G.civ b h) (by omega)), (G.out.frame k1 (fun b h => y1 (G.cov b h) (by omega))).frame k2 (fun b h => y2 (G.cov b h) (by omega)), hA.frame k2 hvr, ⟨⟨hf0, ?_, ?_, hf3, hf4⟩, ?_⟩,
    ⟨OH, (m1.frame k1 (fun c h => y1 (m2 c h) (by omega))).frame k2 (fun c h => y2 (m2 c h) (by omega)), fun c h => up (m2 c h)⟩, up G.crn, hv, fun b h => up (G.ccv b h), fun b h => up (G.civ b h), fun b h => up (G.cov b h), ?_, ?_, ?_, H.cl, H.cb, H.il⟩
  · rw [hf1]
    exact (hl.frame k1 (fun b h => (hll b h).1)).frame k2 (fun b h => (hll b h).2)
  · rw [hf2, ho]; exact .inl ⟨rfl, rfl⟩
  · refine FL.congr V.fs ((G.fr.frame _ k1 (fun i hi b h => ?_)).frame _ k2 (fun i hi b h => ?_)) h0
    · exact h.elim (fun h => y1 (G.clo i hi b h) (by omega)) (fun h => y1 (G.cop i hi b h) (by omega))
    · exact h.elim (fun h => y2 (G.clo i hi b h) (by omega)) (fun h => y2 (G.cop i hi b h) (by omega))
  · intro i hi b h
    have hi' : i < V.fs.length + 1 := hi
    by_cases q : i = V.fs.length
    · rw [q, hf1] at h
      rw [q, hlb b h]
      exact ⟨if_pos rfl, .inr rfl⟩
    · rw [h0 _ (by omega)] at h
      exact up (G.clo i (by omega) b h)
  · intro i hi b h
    have hi' : i < V.fs.length + 1 := hi
    by_cases q : i = V.fs.length
    · rw [q, hf2] at h
      exact absurd h (nil_noB b)
    · rw [h0 _ (by omega)] at h
      exact up (G.cop i (by omega) b h)
  · intro c hc
    have hs : (w1.setCell ⟨rn, 5, none⟩ fv').heap.size = w1.heap.size := by simp
    rw [hs]
    rcases hc with h | h
    · exact gw_lt H.lt k1.size c h
    · have := k1.size; omega
set_option maxRecDepth 100000 in
set_option maxHeartbeats 600000 in
theorem callM_e1 (H : MR w rn hm C I V M col P cv iv ov fv g) (a : Nat) (ret : Int) (h : C.length < a + 5) : Calls Tryz.prog 46 #[.pointer (some ⟨rn, 0, none⟩), .int .i64 (a : Nat), .int .i64 ret] w fun e w' => e = .returned (.tuple #[]) ∧ MZ w rn hm C I (V.die 24) M P w' := by
  have c1 := H.cl' (o := 0) (by omega)
  have c3 := H.cl' (o := 8) (by omega)
  simp only [rC] at c1 c3
  have hlt := H.rlt
  have hz := H.blk.frozen
  have hcl := H.cl
  obtain ⟨p, c, e, hc⟩ := H.code.sl
  rw [e] at c1
  have z : decide ((a : Int) > (C.length : Int) - 5) = true := decide_eq_true (by omega)
  have z2 : decide ((C.length : Int) - 5 < (a : Int)) = true := decide_eq_true (by omega)
  have HK : Hid _ := H
  clear H e
  go_enter Tryz.func46, Tryz.ntmps46
  go_wp2_with fail
  exact bodyPost_ret (v := .tuple #[]) (by simp [results, Tryz.results46, go_sem]) rfl ⟨rfl, HK.out.zs (HK.out.s_en 24) ((Fr.refl _ _).setC rn 8 _ (fun _ => rfl))⟩
set_option maxRecDepth 100000 in
set_option maxHeartbeats 600000 in
theorem callM_e2 (H : MR w rn hm C I V M col P cv iv ov fv g) (a : Nat) (ret : Int) (h : a + 5 ≤ C.length) (h2 : byteAt C a ≠ 25) : Calls Tryz.prog 46 #[.pointer (some ⟨rn, 0, none⟩), .int .i64 (a : Nat), .int .i64 ret] w fun e w' => e = .returned (.tuple #[]) ∧ MZ w rn hm C I (V.die 24) M P w' := by
  have c1 := H.cl' (o := 0) (by omega)
  have c3 := H.cl' (o := 8) (by omega)
  simp only [rC] at c1 c3
  have hlt := H.rlt
  have hz := H.blk.frozen
  have hcl := H.cl
  have hcb := H.cb a
  obtain ⟨b, c, e, hb, hc⟩ := H.code.get (i := a) (by omega)
  rw [e] at c1
  have z : decide ((a : Int) > (C.length : Int) - 5) = false := decide_eq_false (by omega)
  have z2 : decide ((C.length : Int) - 5 < (a : Int)) = false := decide_eq_false (by omega)
  have hai : (a : Int) < (C.length : Int) := by omega
  have HK : Hid _ := H
  generalize byteAt C a = by0 at *
  have y : ¬ ((by0 : Int) = 25) := by omega
  have y1 : decide ((by0 : Int) = 25) = false := decide_eq_false y
  have y2 : ((by0 : Int) != 25) = true := by simpa using y
  clear H e h2 y
  go_enter Tryz.func46, Tryz.ntmps46
  go_wp2_with fail
  exact bodyPost_ret (v := .tuple #[]) (by simp [results, Tryz.results46, go_sem]) rfl ⟨rfl, HK.out.zs (HK.out.s_en 24) ((Fr.refl _ _).setC rn 8 _ (fun _ => rfl))⟩
set_option maxRecDepth 100000 in
set_option maxHeartbeats 600000 in
theorem callM_e3 (H : MR w rn hm C I V M col P cv iv ov fv g) (a : Nat) (ret : Int) (h : a + 5 ≤ C.length) (h2 : byteAt C a = 25) (h3 : byteAt C (a + 3) < byteAt C (a + 1) ∨ byteAt C (a + 4) < byteAt C (a + 2)) : Calls Tryz.prog 46 #[.pointer (some ⟨rn, 0, none⟩), .int .i64 (a : Nat), .int .i64 ret] w fun e w' => e = .returned (.tuple #[]) ∧ MZ w rn hm C I (V.die 24) M P w' := by
  have c1 := H.cl' (o := 0) (by omega)
  have c3 := H.cl' (o := 8) (by omega)
  simp only [rC] at c1 c3
  have hlt := H.rlt
  have hz := H.blk.frozen
  have hcl := H.cl
  have b1 := H.cb (a + 1)
  have b2 := H.cb (a + 2)
  have b3 := H.cb (a + 3)
  have b4 := H.cb (a + 4)
  obtain ⟨b, c, e, hb, hc⟩ := H.code.all (by omega)
  rw [e] at c1
  have p0 := hc a (by omega)
  rw [h2] at p0
  have p1 := hc (a + 1) (by omega)
  have p2 := hc (a + 2) (by omega)
  have p3 := hc (a + 3) (by omega)
  have p4 := hc (a + 4) (by omega)
  have z : decide ((a : Int) > (C.length : Int) - 5) = false := decide_eq_false (by omega)
  have z2 : decide ((C.length : Int) - 5 < (a : Int)) = false := decide_eq_false (by omega)
  have hai : (a : Int) + 4 < (C.length : Int) := by omega
  have HK : Hid _ := H
  generalize byteAt C (a + 1) = x1 at *
  generalize byteAt C (a + 2) = x2 at *
  generalize byteAt C (a + 3) = x3 at *
  generalize byteAt C (a + 4) = x4 at *
  have K3 : Hid _ := h3
  clear H e h2 hc h3
  go_enter Tryz.func46, Tryz.ntmps46
  go_wp2_with fail
  go_quiet (fail)
  have HQ : Hid _ := (HK.out.same ((Fr.refl (fun _ => False) w).drewN nq)).s_en 24
  rcases Nat.lt_or_ge x3 x1 with g1 | g1
  · have y1 : decide ((x3 : Int) < (x1 : Int)) = true := decide_eq_true (by omega)
    have y2 : decide (x3 < x1) = true := decide_eq_true g1
    go_wp2_with fail
    exact bodyPost_ret (v := .tuple #[]) (by simp [results, Tryz.results46, go_sem]) rfl ⟨rfl, HK.out.zs HQ.out (((Fr.refl _ _).drewN _).setC rn 8 _ (fun _ => rfl))⟩
  · have g2 : x4 < x2 := by have := K3.out; omega
    have y1 : decide ((x3 : Int) < (x1 : Int)) = false := decide_eq_false (by omega)
    have y2 : decide (x3 < x1) = false := decide_eq_false (by omega)
    have y3 : decide ((x4 : Int) < (x2 : Int)) = true := decide_eq_true (by omega)
    have y4 : decide (x4 < x2) = true := decide_eq_true g2
    go_wp2_with fail
    exact bodyPost_ret (v := .tuple #[]) (by simp [results, Tryz.results46, go_sem]) rfl ⟨rfl, HK.out.zs HQ.out (((Fr.refl _ _).drewN _).setC rn 8 _ (fun _ => rfl))⟩
end
end Go.Proofs.Qxb6500281aGreat
