/- The model machine: the top frame's operands. -/
import Derived.Test.Qxb6500281aGreatVM2
import Derived.Test.Qxb6500281aGreatText7
namespace Go.Proofs.Qxb6500281aGreat
open Go Go.RowKit

section
variable {w w' w1 : World} {rn hm : Nat} {C : List Nat} {I : List Int} {V V' : Vs} {M M' : MS} {col col' : Nat → Nat} {P P' F : Nat → Prop} {cv iv ov fv : Value} {g : Nat → Value} {f : Fm} {r : List Fm}
/-- The top frame's operands turn. -/
theorem MR.opsT (H : MR w rn hm C I V M col P cv iv ov fv g) (hf : V.fs = f :: r) {fb cap : Nat} (e : fv = .slice (some ⟨fb, 0, none⟩) (r.length + 1) cap) {v' : Value} {o : List Int} {z : Nat} (hz : z = 5 * r.length + 2) (k1 : Fr (isB (g z)) w w1) (hk : KiAt w1 v' o) (hb : ∀ c, isB v' c → w.heap.size ≤ c ∨ isB (g z) c) :
    MR (w1.setCell ⟨fb, z, none⟩ v') rn hm C I { V with fs := { f with ops := o } :: r } M (cq w col (7 + 2 * r.length)) (Gw P w w1) cv iv ov fv (upd g z v') := by
  have hn : V.fs.length = r.length + 1 := by rw [hf]; rfl
  have G := H.recol (7 + 2 * r.length)
  have hcop := G.cop r.length (by omega)
  rw [← hz] at hcop
  have hfb : isB fv fb := ⟨_, _, e⟩
  have k2 := (Fr.refl (fun c => c = fb) w1).setC fb z v' (fun _ => rfl)
  -- a block of another colour stands
  have y1 : ∀ {b n : Nat}, cq w col (7 + 2 * r.length) b = n ∧ P b → n ≠ 7 + 2 * r.length → ¬ isB (g z) b := fun h hn e => hn (by rw [← h.1]; exact (hcop _ e).1)
  have y2 : ∀ {b n : Nat}, cq w col (7 + 2 * r.length) b = n ∧ P b → n ≠ 1 → ¬ b = fb := fun h hn e => hn (by rw [← h.1, e]; exact (G.cfs _ hfb).1)
  have up : ∀ {b n : Nat}, cq w col (7 + 2 * r.length) b = n ∧ P b → cq w col (7 + 2 * r.length) b = n ∧ Gw P w w1 b := fun h => ⟨h.1, .inl h.2⟩
  have hv : ∀ b, isB v' b → cq w col (7 + 2 * r.length) b = 7 + 2 * r.length ∧ Gw P w w1 b := fun b h => by
    rcases hb b h with q | q
    · exact ⟨cq_new q, .inr ⟨q, hk.bk h⟩⟩
    · exact up (hcop b q)
  have hvf : ∀ b, isB v' b → ¬ b = fb := fun b h q => by
    have h1 := (hv b h).1
    rw [q, (G.cfs _ hfb).1] at h1
    omega
  obtain ⟨OH, m1, m2⟩ := G.hp
  have hfr := G.fr
  rw [hf] at hfr
  obtain ⟨t1, t2⟩ := hfr
  have hlow : ∀ i, i < r.length → ∀ b, isB (g (5 * i + 1)) b ∨ isB (g (5 * i + 2)) b → ¬ isB (g z) b ∧ ¬ b = fb := fun i hi b h => by
    rcases h with h | h
    · exact ⟨y1 (G.clo i (by omega) b h) (by omega), y2 (G.clo i (by omega) b h) (by omega)⟩
    · exact ⟨y1 (G.cop i (by omega) b h) (by omega), y2 (G.cop i (by omega) b h) (by omega)⟩
  have htl := G.clo r.length (by omega)
  refine ⟨(G.blk.frame k1 (y1 G.crn (by omega))).frame k2 (y2 G.crn (by omega)), (G.code.frame k1 (fun b h => y1 (G.ccv b h) (by omega))).frame k2 (fun b h => y2 (G.ccv b h) (by omega)), (G.inp.frame k1 (fun b h => y1 (G.civ b h) (by omega))).frame k2 (fun b h => y2 (G.civ b h) (by omega)), (G.out.frame k1 (fun b h => y1 (G.cov b h) (by omega))).frame k2 (fun b h => y2 (G.cov b h) (by omega)), ?_, ?_,
    ⟨OH, (m1.frame k1 (fun c h => y1 (m2 c h) (by omega))).frame k2 (fun c h => y2 (m2 c h) (by omega)), fun c h => up (m2 c h)⟩, up G.crn, fun b h => up (G.cfs b h), fun b h => up (G.ccv b h), fun b h => up (G.civ b h), fun b h => up (G.cov b h), ?_, ?_, ?_, H.cl, H.cb, H.il⟩
  · obtain ⟨b, c, q1, q2, q3⟩ := G.fsl hf
    have q4 := q1
    rw [e] at q4
    cases q4
    have := (q3.frame k1 (y1 (G.cfs _ hfb) (by omega))).set z v'
    exact .inr ⟨fb, cap, e, q2, this⟩
  · refine ⟨⟨?_, ?_, ?_, ?_, ?_⟩, ?_⟩
    · rw [upd_other _ _ _ _ (by omega)]; exact t1.ret
    · rw [upd_other _ _ _ _ (by omega)]
      exact (t1.loc.frame k1 (fun b h => y1 (htl b h) (by omega))).frame k2 (fun b h => y2 (htl b h) (by omega))
    · rw [← hz, upd_same]
      exact hk.frame k2 (fun b h => hvf b h)
    · rw [upd_other _ _ _ _ (by omega)]; exact t1.rb
    · rw [upd_other _ _ _ _ (by omega)]; exact t1.lr
    · refine FL.congr r ((t2.frame _ k1 (fun i hi b h => (hlow i hi b h).1)).frame _ k2 (fun i hi b h => (hlow i hi b h).2)) (fun q hq => upd_other _ _ _ _ (by omega))
  · intro i hi b h
    have hi' : i < r.length + 1 := hi
    rw [upd_other _ _ _ _ (by omega)] at h
    exact up (G.clo i (by omega) b h)
  · intro i hi b h
    have hi' : i < r.length + 1 := hi
    by_cases q : i = r.length
    · rw [q, ← hz, upd_same] at h
      rw [q]
      exact hv b h
    · rw [upd_other _ _ _ _ (by omega)] at h
      exact up (G.cop i (by omega) b h)
  · have : (w1.setCell ⟨fb, z, none⟩ v').heap.size = w1.heap.size := by simp
    rw [this]
    exact gw_lt H.lt k1.size
theorem MR.opsF (H : MR w rn hm C I V M col P cv iv ov fv g) (hf : V.fs = f :: r) {fb cap : Nat} (e : fv = .slice (some ⟨fb, 0, none⟩) (r.length + 1) cap) {v' : Value} {z : Nat} (hz : z = 5 * r.length + 2) (k1 : Fr (isB (g z)) w w1) : Fr P w (w1.setCell ⟨fb, z, none⟩ v') :=
  (k1.mono (fun c _ h => (H.cop r.length (by rw [hf]; simp) c (by rw [← hz]; exact h)).2)).setC fb z v' (fun _ => (H.cfs fb ⟨_, _, e⟩).2)
/-- What is read of the top frame. -/
theorem MR.tops (H : MR w rn hm C I V M col P cv iv ov fv g) (hf : V.fs = f :: r) : ∃ fb cap, fv = .slice (some ⟨fb, 0, none⟩) (r.length + 1) cap ∧ r.length + 1 ≤ cap ∧ fb < w.heap.size ∧ (∀ o, w.frozen? ⟨fb, o, none⟩ = false) ∧ w.cell? ⟨fb, r.length * 5, none⟩ = some (.int .i64 (f.ret : Nat)) ∧ w.cell? ⟨fb, r.length * 5 + 1, none⟩ = some (g (r.length * 5 + 1)) ∧ w.cell? ⟨fb, r.length * 5 + 2, none⟩ = some (g (r.length * 5 + 2)) ∧ w.cell? ⟨fb, r.length * 5 + 3, none⟩ = some (.int .i64 (f.rb : Nat)) ∧ w.cell? ⟨fb, r.length * 5 + 4, none⟩ = some (.int .i64 (f.lr : Nat)) ∧ KiAt w (g (r.length * 5 + 1)) f.loc ∧ KiAt w (g (r.length * 5 + 2)) f.ops := by
  obtain ⟨fb, cap, e, h1, h2⟩ := H.fsl hf
  have t := H.top hf
  have p0 := h2.cell (o := r.length * 5) (by omega)
  have p1 := h2.cell (o := r.length * 5 + 1) (by omega)
  have p2 := h2.cell (o := r.length * 5 + 2) (by omega)
  have p3 := h2.cell (o := r.length * 5 + 3) (by omega)
  have p4 := h2.cell (o := r.length * 5 + 4) (by omega)
  have e5 : r.length * 5 = 5 * r.length := by omega
  rw [e5] at p0 p1 p2 p3 p4 ⊢
  rw [t.ret] at p0
  rw [t.rb] at p3
  rw [t.lr] at p4
  exact ⟨fb, cap, e, h1, h2.lt, h2.frozen, p0, p1, p2, p3, p4, t.loc, t.ops⟩
set_option maxRecDepth 100000 in
set_option maxHeartbeats 600000 in
theorem ropsMF (H : MR w rn hm C I V M col P cv iv ov fv g) (hf : V.fs = f :: r) (h24 : M.rt.length ≤ 24) (hq : f.rb + f.lr ≤ 24) (h48 : r.length ≤ 48) : Calls Tryz.prog 115 #[.pointer (some ⟨rn, 0, none⟩)] w fun e w' => e = .returned (.int .i64 ((M.rt.length : Int) - f.rb - f.lr)) ∧ ∃ m, w' = w.drewN m := by
  have hT := topMF H hf h48
  have c5 := H.cl' (o := 5) (by omega)
  have c7 := H.cl' (o := 7) (by omega)
  simp only [rC] at c5 c7
  have hlt := H.rlt
  obtain ⟨fb, cap, e, h1, h2, h3, p0, p1, p2, p3, p4, _, _⟩ := H.tops hf
  rw [e] at c5
  obtain ⟨OH, m1, _⟩ := H.hp
  have hD := fun n => depthMF (m1.same ((Fr.refl _ w).drewN n))
  clear m1
  generalize hn : r.length = n at *
  have hni : (n : Int) < ((n + 1 : Nat) : Int) := by omega
  clear H hf e p0 p1 p2 h3 hn
  go_enter Tryz.func115, Tryz.ntmps115
  go_wp2_with fail
  refine hT.mono ?_
  rintro v w1 ⟨rfl, rfl⟩
  clear hT
  go_wp2_with fail
  go_quiet (first | (go_at_call 44; refine Calls.quiet_of_same (hD _)))
  go_wp2_with fail
  go_ret
  exact ⟨rfl, _, rfl⟩
end
end Go.Proofs.Qxb6500281aGreat
