/- The model machine: a local, the output. -/
import Derived.Test.Qxb6500281aGreatVM10
namespace Go.Proofs.Qxb6500281aGreat
open Go Go.RowKit

section
variable {w w' w1 : World} {rn hm : Nat} {C : List Nat} {I : List Int} {V V' : Vs} {M M' : MS} {col col' : Nat → Nat} {P P' F : Nat → Prop} {cv iv ov fv : Value} {g : Nat → Value} {f : Fm} {r : List Fm}
/-- A local of the top frame turns. -/
theorem MR.locT (H : MR w rn hm C I V M col P cv iv ov fv g) (hf : V.fs = f :: r) {o : List Int} {z : Nat} (hz : z = 5 * r.length + 1) (k : Fr (isB (g z)) w w') (hk : KiAt w' (g z) o) : MR w' rn hm C I { V with fs := { f with loc := o } :: r } M col P cv iv ov fv g := by
  have hn : V.fs.length = r.length + 1 := by rw [hf]; rfl
  have hclo := H.clo r.length (by omega)
  rw [← hz] at hclo
  have y : ∀ {b n : Nat}, col b = n ∧ P b → n ≠ 6 + 2 * r.length → ¬ isB (g z) b := fun h hn e => hn (by rw [← h.1]; exact (hclo _ e).1)
  obtain ⟨OH, m1, m2⟩ := H.hp
  have hfr := H.fr
  rw [hf] at hfr
  obtain ⟨t1, t2⟩ := hfr
  have hfs := H.fs
  rw [hn] at hfs
  refine ⟨H.blk.frame k (y H.crn (by omega)), H.code.frame k (fun b h => y (H.ccv b h) (by omega)), H.inp.frame k (fun b h => y (H.civ b h) (by omega)), H.out.frame k (fun b h => y (H.cov b h) (by omega)), hfs.frame k (fun b h => y (H.cfs b h) (by omega)), ⟨⟨t1.ret, by rw [← hz]; exact hk, t1.ops.frame k (fun b h => y (H.cop r.length (by omega) b h) (by omega)), t1.rb, t1.lr⟩, t2.frame _ k (fun i hi b h => ?_)⟩,
    ⟨OH, m1.frame k (fun c h => y (m2 c h) (by omega)), m2⟩, H.crn, H.cfs, H.ccv, H.civ, H.cov, fun i hi => H.clo i (by rw [hn]; exact hi), fun i hi => H.cop i (by rw [hn]; exact hi), fun c h => Nat.lt_of_lt_of_le (H.lt c h) k.size, H.cl, H.cb, H.il⟩
  rcases h with h | h
  · exact y (H.clo i (by omega) b h) (by omega)
  · exact y (H.cop i (by omega) b h) (by omega)
theorem rC_ov (x : Value) (o' : List Int) : ∀ o, o < 12 → upd (rC hm cv iv ov fv V) 4 x o = rC hm cv iv x fv { V with out := o' } o := fun o ho => by
  rcases lt12 ho with rfl | rfl | rfl | rfl | rfl | rfl | rfl | rfl | rfl | rfl | rfl | rfl <;> rfl
/-- The output turns. -/
theorem MR.outT (H : MR w rn hm C I V M col P cv iv ov fv g) {v' : Value} {o : List Int} (k1 : Fr (isB ov) w w1) (hk : KiAt w1 v' o) (hb : ∀ c, isB v' c → w.heap.size ≤ c ∨ isB ov c) :
    MR (w1.setCell ⟨rn, 4, none⟩ v') rn hm C I { V with out := o } M (cq w col 4) (Gw P w w1) cv iv v' fv g := by
  have k2 := (Fr.refl (fun c => c = rn) w1).setC rn 4 v' (fun _ => rfl)
  have G := H.recol 4
  have y1 : ∀ {b n : Nat}, cq w col 4 b = n ∧ P b → n ≠ 4 → ¬ isB ov b := fun h hn e => hn (by rw [← h.1]; exact (G.cov _ e).1)
  have y2 : ∀ {b n : Nat}, cq w col 4 b = n ∧ P b → n ≠ 0 → ¬ b = rn := fun h hn e => hn (by rw [← h.1, e]; exact G.crn.1)
  have up : ∀ {b n : Nat}, cq w col 4 b = n ∧ P b → cq w col 4 b = n ∧ Gw P w w1 b := fun h => ⟨h.1, .inl h.2⟩
  have hv : ∀ b, isB v' b → cq w col 4 b = 4 ∧ Gw P w w1 b := fun b h => by
    rcases hb b h with q | q
    · exact ⟨cq_new q, .inr ⟨q, hk.bk h⟩⟩
    · exact up (G.cov b q)
  have hvr : ∀ b, isB v' b → ¬ b = rn := fun b h e => by
    have h1 := (hv b h).1
    rw [e, G.crn.1] at h1
    omega
  obtain ⟨OH, m1, m2⟩ := G.hp
  have hb1 := (G.blk.frame k1 (y1 G.crn (by omega))).set 4 v'
  refine ⟨hb1.congr (rC_ov v' o), (G.code.frame k1 (fun b h => y1 (G.ccv b h) (by omega))).frame k2 (fun b h => y2 (G.ccv b h) (by omega)), (G.inp.frame k1 (fun b h => y1 (G.civ b h) (by omega))).frame k2 (fun b h => y2 (G.civ b h) (by omega)), hk.frame k2 hvr, (G.fs.frame k1 (fun b h => y1 (G.cfs b h) (by omega))).frame k2 (fun b h => y2 (G.cfs b h) (by omega)), (G.fr.frame _ k1 (fun i hi b h => ?_)).frame _ k2 (fun i hi b h => ?_),
    ⟨OH, (m1.frame k1 (fun c h => y1 (m2 c h) (by omega))).frame k2 (fun c h => y2 (m2 c h) (by omega)), fun c h => up (m2 c h)⟩, up G.crn, fun b h => up (G.cfs b h), fun b h => up (G.ccv b h), fun b h => up (G.civ b h), hv, fun i hi b h => up (G.clo i hi b h), fun i hi b h => up (G.cop i hi b h), ?_, H.cl, H.cb, H.il⟩
  · exact h.elim (fun h => y1 (G.clo i hi b h) (by omega)) (fun h => y1 (G.cop i hi b h) (by omega))
  · exact h.elim (fun h => y2 (G.clo i hi b h) (by omega)) (fun h => y2 (G.cop i hi b h) (by omega))
  · have : (w1.setCell ⟨rn, 4, none⟩ v').heap.size = w1.heap.size := by simp
    rw [this]
    exact gw_lt H.lt k1.size
theorem MR.outF (H : MR w rn hm C I V M col P cv iv ov fv g) {v' : Value} (k1 : Fr (isB ov) w w1) : Fr P w (w1.setCell ⟨rn, 4, none⟩ v') :=
  (k1.mono (fun c _ h => (H.cov c h).2)).setC rn 4 v' (fun _ => H.crn.2)
set_option maxRecDepth 100000 in
set_option maxHeartbeats 600000 in
theorem vpopMG (H : MR w rn hm C I V M col P cv iv ov fv g) (hf : V.fs = f :: r) (h48 : r.length ≤ 48) (ho : 1 ≤ f.ops.length) (ho48 : f.ops.length ≤ 48) : Calls Tryz.prog 82 #[.pointer (some ⟨rn, 0, none⟩)] w fun e w' => e = .returned (.int .i64 (opn V 0)) ∧ (∃ col' v', MR w' rn hm C I (dropO V 1) M col' (Gw P w w') cv iv ov fv (upd g (r.length * 5 + 2) v')) ∧ Fr P w w' := by
  have hT := topMF H hf h48
  have c5 := H.cl' (o := 5) (by omega)
  simp only [rC] at c5
  obtain ⟨fb, cap, efv, q1, q2, q3, p0, p1, p2, p3, p4, kl, ko⟩ := H.tops hf
  rw [efv] at c5
  have hlt := H.rlt
  obtain ⟨n, hn⟩ : ∃ n, f.ops.length = n + 1 := ⟨f.ops.length - 1, by omega⟩
  obtain ⟨ob, oc, eo, l1, l2, l3⟩ := ko.get (i := n) (by omega)
  have hop : f.ops[n] = opn V 0 := by
    unfold opn
    rw [topO_c hf, show f.ops.length - 1 - 0 = n by omega]
    simp [show n < f.ops.length by omega]
  rw [hop] at l2
  rw [eo, hn] at p2
  have ko2 := ko
  rw [eo] at ko2
  have kt := ko2.take (k := n) (by omega)
  have hdr : dropO V 1 = { V with fs := { f with ops := f.ops.take n } :: r } := by rw [dropO_c hf, hn]; rfl
  have k1 : Fr (isB (g (r.length * 5 + 2))) w w.drew := (Fr.refl _ w).drew
  have key := H.opsT hf efv (z := r.length * 5 + 2) (by omega) k1 (kt.frame ((Fr.refl (fun _ => False) w).drew) (fun _ _ h => h)) (fun c hc => .inr (by rw [eo]; obtain ⟨_, _, e'⟩ := hc; cases e'; exact ⟨_, _, rfl⟩))
  have keyF := H.opsF hf efv (z := r.length * 5 + 2) (v' := .slice (some ⟨ob, 0, none⟩) n oc) (by omega) k1
  have hoc : n + 1 ≤ oc := by
    obtain ⟨a, c, e', h'⟩ := ko.sl
    rw [eo] at e'
    cases e'
    omega
  have HK : Hid _ := And.intro key (And.intro keyF hdr)
  have hlt0 := H.lt
  have hn48 : n ≤ 48 := by omega
  have hfr : fb ≠ rn := fun e => by
    have h1 := (H.cfs fb ⟨_, _, efv⟩).1
    rw [e, H.crn.1] at h1
    cases h1
  generalize opn V 0 = x at *
  obtain ⟨t, ht⟩ : ∃ t, t = r.length := ⟨_, rfl⟩
  rw [← ht] at c5 p2 q1 h48 hT
  have hti : (t : Int) < (t : Int) + 1 := by omega
  have Ht : Hid _ := And.intro ht hlt0
  clear H hf efv ko kl kt ko2 eo hop key keyF k1 p0 p1 p3 p4 hdr ht hn l3 ho hlt0
  rw [← Ht.out.1] at HK
  go_enter Tryz.func82, Tryz.ntmps82
  go_wp2_with fail
  refine hT.mono ?_
  rintro v w1 ⟨rfl, rfl⟩
  clear hT
  go_wp2_with fail
  refine wp_region_text (by kernel_rfl) (by kernel_rfl) ?_
  go_wp2_with fail
  refine ⟨by kernel_rfl, ?_⟩
  go_wp2_with fail
  go_ret
  obtain ⟨hk1, hk2, hk3⟩ := HK.out
  rw [hk3, ← Ht.out.1]
  have key := hk1.up (P' := Gw P w1 (w1.drew.setCell ⟨fb, t * 5 + 2, none⟩ (.slice (some ⟨ob, 0, none⟩) n oc))) (fun c hc => hc.elim (fun h => .inl h) (fun h => .inr ⟨h.1, by simpa using h.2⟩)) (gw_lt Ht.out.2 hk2.size)
  exact ⟨rfl, ⟨_, _, key⟩, hk2⟩
/-- A local is to be set: what stands behind the pop. -/
structure StI (w w' : World) (rn hm : Nat) (C : List Nat) (I : List Int) (V : Vs) (M : MS) (P : Nat → Prop) (fb cap t lb lc sb n : Nat) (x : Int) : Prop where
  c5 : w'.cell? ⟨rn, 5, none⟩ = some (.slice (some ⟨fb, 0, none⟩) (t + 1) cap)
  t1 : w'.cell? ⟨fb, t * 5 + 1, none⟩ = some (.slice (some ⟨lb, 0, none⟩) n lc)
  l2 : ∃ o, w'.cell? ⟨lb, sb, none⟩ = some (.int .i64 o)
  l3 : w'.frozen? ⟨lb, sb, none⟩ = false
  s1 : rn < w'.heap.size
  s2 : fb < w'.heap.size
  s3 : lb < w'.heap.size
  fin : MZ w rn hm C I (setLoc (dropO V 1) sb x) M P (w'.setCell ⟨lb, sb, none⟩ (.int .i64 x))
theorem stI_pop (H : MR w rn hm C I V M col P cv iv ov fv g) (hf : V.fs = f :: r) (h48 : r.length ≤ 48) (ho : 1 ≤ f.ops.length) (ho48 : f.ops.length ≤ 48) {sb : Nat} (hs : sb < f.loc.length) :
    ∃ fb cap lb lc, (∀ w0, Fr (fun _ => False) w w0 → w0.cell? ⟨rn, 5, none⟩ = some (.slice (some ⟨fb, 0, none⟩) (r.length + 1) cap) ∧ w0.cell? ⟨fb, r.length * 5 + 1, none⟩ = some (.slice (some ⟨lb, 0, none⟩) f.loc.length lc) ∧ rn < w0.heap.size ∧ fb < w0.heap.size) ∧ r.length + 1 ≤ cap ∧
      ∀ w0, Fr (fun _ => False) w w0 → Calls Tryz.prog 82 #[.pointer (some ⟨rn, 0, none⟩)] w0 fun e w' => e = .returned (.int .i64 (opn V 0)) ∧ StI w w' rn hm C I V M P fb cap r.length lb lc sb f.loc.length (opn V 0) := by
  obtain ⟨fb, cap, efv, q1, q2, q3, p0, p1, p2, p3, p4, kl, ko⟩ := H.tops hf
  obtain ⟨lb, lc, elo, l0, l1, l2, l3, l4⟩ := kl.set (i := sb) hs
  refine ⟨fb, cap, lb, lc, fun w0 k => ?_, q1, fun w0 k => ?_⟩
  · have H0 := H.same k
    have c5 := H0.cl' (o := 5) (by omega)
    simp only [rC] at c5
    obtain ⟨fb', cap', efv', q1', q2', q3', p0', p1', _⟩ := H0.tops hf
    rw [efv] at c5 efv'
    cases efv'
    rw [elo] at p1'
    exact ⟨c5, p1', H0.rlt, q2'⟩
  · have H0 := H.same k
    refine (vpopMG H0 hf h48 ho ho48).mono ?_
    rintro e w' ⟨rfl, ⟨col', v', H7⟩, f7⟩
    refine ⟨rfl, ?_⟩
    have hg : upd g (r.length * 5 + 2) v' (r.length * 5 + 1) = g (r.length * 5 + 1) := upd_other _ _ _ _ (by omega)
    have c5 := H7.cl' (o := 5) (by omega)
    simp only [rC] at c5
    obtain ⟨fb', cap', efv', q1', q2', q3', p0', p1', p2', p3', p4', kl', ko'⟩ := H7.tops (drop_fs hf 1)
    rw [hg] at p1' kl'
    obtain ⟨lb', lc', elo', l0', l1', l2', l3', l4'⟩ := kl'.set (i := sb) hs
    rw [efv] at c5 efv'
    cases efv'
    have e2 := elo.symm.trans elo'
    injection e2 with e3 e4 e5
    injection e3 with e3
    injection e3 with e3
    subst e3 e5
    rw [elo] at p1'
    have hlb : isB (g (r.length * 5 + 1)) lb := ⟨_, _, elo⟩
    have kk : Fr (isB (upd g (r.length * 5 + 2) v' (5 * r.length + 1))) w' (w'.setCell ⟨lb, sb, none⟩ (.int .i64 (opn V 0))) := (Fr.refl _ w').setC lb sb _ (fun _ => by rw [show 5 * r.length + 1 = r.length * 5 + 1 by omega, hg]; exact hlb)
    have L := H7.locT (drop_fs hf 1) (z := 5 * r.length + 1) rfl kk (by rw [show 5 * r.length + 1 = r.length * 5 + 1 by omega, hg]; exact l4' (opn V 0))
    have hPlb : P lb := (H.clo r.length (by rw [hf]; simp) lb (by rw [show 5 * r.length + 1 = r.length * 5 + 1 by omega]; exact hlb)).2
    have fz : Fr P w0 (w'.setCell ⟨lb, sb, none⟩ (.int .i64 (opn V 0))) := f7.setC lb sb _ (fun _ => hPlb)
    have hsl : setLoc (dropO V 1) sb (opn V 0) = { dropO V 1 with fs := { f with loc := f.loc.set sb (opn V 0), ops := f.ops.take (f.ops.length - 1) } :: r } := by
      unfold setLoc
      rw [drop_fs hf 1]
    refine ⟨c5, p1', ⟨_, l2'⟩, l3', H7.rlt, q2', l1', ?_⟩
    rw [hsl]
    refine MZ.nx (ME.z0 H.e k) (fun c z => .inl z) ⟨L.e.up (fun c hc => hc.elim (fun h => .inl h) (fun h => .inr ⟨h.1, by simpa using h.2⟩)) (gw_lt H0.lt fz.size), fz⟩
end
end Go.Proofs.Qxb6500281aGreat
