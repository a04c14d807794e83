/- The real parser's class: one case. -/
import Derived.Test.Qxb6500283aGreatB8
namespace Go.Proofs.Qxb6500283aGreat
open Go Go.RowKit

set_option maxRecDepth 100000 in
set_option maxHeartbeats 16000000 in
theorem classR_end {w : World} {x : Nat} {p : ByteArray} {T : Rs} (hM : RMem w x p T) (hT : RsOk p T) (hsz : p.size ≤ 129) (hi : T.s.i < p.size) (h91 : bt p T.s.i = 91) (hz : isB p (T.s.i + 1) 94 = false) (y1 : p.size ≤ T.s.i + 1) : Calls Tryz.prog 141 #[.pointer (some ⟨x, 0, none⟩)] w fun e w' => e = .returned (.tuple #[]) ∧ ∃ res, LeafR p T.s.i res ∧ RPost w x p (leafRes T res) w' := by
  obtain ⟨f, q, hb, hL⟩ := hM
  obtain ⟨⟨hwf, hlen, hg3, hiz⟩, hff, hfr, hd⟩ := hT
  obtain ⟨⟨i, ns, g⟩, t, r⟩ := T
  simp only at hL hwf hlen hg3 hiz hd hi h91 hff hfr hz
  have HR : Hid _ := And.intro hff hfr
  clear hff hfr
  have c0 := hb.cell (o := 0) (by omega)
  rw [hL.p0] at c0
  have c1 := hb.cell (o := 1) (by omega)
  rw [hL.i1] at c1
  have z := hb.frozen
  have hxl := hb.lt
  go_enter Tryz.func141, Tryz.ntmps141
  simp only at y1
  have yd : decide ((i : Int) + 1 < p.size) = false := decide_eq_false (by omega)
  have hst : clsStart p i = i + 1 := by unfold clsStart; rw [hz]; rfl
  have hbA := ((hb.set 1 (.int .i64 ((i : Int) + 1))).alloc (.cells #[.int .u64 0, .int .u64 0, .int .u64 0, .int .u64 0] 95)).drew
  have hsA := (Blk.zero4 (w.setCell ⟨x, 1, none⟩ (.int .i64 ((i : Int) + 1)))).drew
  simp only [World.size_setCell] at hsA
  have FA := (((Fr.refl (fun b => b = x) w).setC x 1 (.int .i64 ((i : Int) + 1)) (fun _ => rfl)).alloc (.cells #[.int .u64 0, .int .u64 0, .int .u64 0, .int .u64 0] 95)).drew
  go_wp2_with fail
  refine wp_region_text (by kernel_rfl) (by kernel_rfl) ?_
  go_wp2_with fail
  refine ⟨by kernel_rfl, ?_⟩
  go_wp2_with fail
  go_loopg [] (p.size - (i + 1)) (fun gk wr => ∃ (j : Nat) (s : BSet), i + 1 ≤ j ∧ j + gk = p.size ∧ (∀ res, ClsR p i j s res → ClsR p i (clsStart p i) noP res) ∧ Blk wr x 325 (upd f 1 (.int .i64 (j : Nat))) ∧ Blk wr w.heap.size 4 (u64s (wd s)) ∧ Fr (fun b => b = x) w wr)
  case atStart => exact ⟨i + 1, noP, Nat.le_refl _, by omega, fun res h => by rw [hst]; exact h, hbA, hsA, FA⟩
  case round =>
    obtain ⟨j, s, hij, hjg, hcont, hbJ, hsJ, FJ⟩ := hrel
    have hjg' : j + gk = p.size := hjg
    clear hjg hbA hsA FA c0 c1 z
    have Hc : Hid _ := hcont
    clear hcont
    have c0 := hbJ.cell (o := 0) (by omega)
    rw [upd_other _ _ _ _ (by omega), hL.p0] at c0
    have c1 := hbJ.cell (o := 1) (by omega)
    rw [upd_same] at c1
    have z := hbJ.frozen
    have zs := hsJ.frozen
    obtain ⟨s0, s1, s2, s3⟩ := hsJ.four
    have lJ := hsJ.lt
    have lxJ := hbJ.lt
    have hLJ := hL.setI (j : Nat)
    by_cases k1 : j < p.size
    · exfalso; omega
    · have kd : decide ((j : Int) < p.size) = false := decide_eq_false (by omega)
      go_wp2_with fail
      refine wp_region_text (by kernel_rfl) (by kernel_rfl) ?_
      go_wp2_with fail
      refine ⟨by kernel_rfl, ?_⟩
      go_wp2_with fail
      refine wp_region_text (by kernel_rfl) (by kernel_rfl) ?_
      go_wp2_with fail
      refine ⟨by kernel_rfl, ?_⟩
      go_wp2_with fail
      refine (failR_any hbJ.drew.drew 2 i).mono ?_
      rintro e w9 ⟨rfl, hb9, f9⟩
      go_wp2_with fail
      refine bodyPost_ret (v := .tuple #[]) (by simp [results, Tryz.results141, go_sem]) rfl ⟨rfl, _, LeafR.clsE h91 (Hc.out _ (ClsR.open_ (by omega))), FJ.drew.drew.trans f9 (fun _ _ h => h), ?_⟩
      exact ⟨_, _, ns, g, t, r, hb9, hLJ.setE hlen hd 2 i, hwf, hlen, hg3, hd⟩
end Go.Proofs.Qxb6500283aGreat
