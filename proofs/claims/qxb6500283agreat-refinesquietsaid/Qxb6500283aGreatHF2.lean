/- literal, whole. -/
import Derived.Test.Qxb6500283aGreatHF1
namespace Go.Proofs.Qxb6500283aGreat
open Go Go.RowKit

set_option maxRecDepth 100000 in
set_option maxHeartbeats 8000000 in
theorem literal_ext {w : World} {fb e sb n pb : Nat} {qs : List Pc} {p : Pc} (h : PMem w fb e sb n pb (qs ++ [p])) (lo hi : Nat) (hg : p.g < 0) (hl : p.hi = lo) :
    Calls Tryz.prog 75 #[.pointer (some ⟨fb, 0, none⟩), .int .i64 (lo : Nat), .int .i64 (hi : Nat)] w (LitPost w fb e sb n pb lo hi (qs ++ [p])) := by
  obtain ⟨hfd, ⟨f, hb, hf⟩, hne, hle⟩ := h
  have hlen : (qs ++ [p]).length = qs.length + 1 := by simp
  have hP0 := hf qs.length (by omega) 1 (by omega)
  have hP2 := hf qs.length (by omega) 2 (by omega)
  rw [List.getElem_append_right (Nat.le_refl _)] at hP0 hP2
  simp only [Nat.sub_self, List.getElem_cons_zero, pcCell] at hP0 hP2
  have c3 := hfd.cell (o := 3) (by omega)
  have c4 := hfd.cell (o := 4) (by omega)
  simp only [fdCell] at c3 c4
  rw [hlen, Int.natCast_succ] at c4
  have zf := hfd.frozen
  have zp := hb.frozen
  have lf := hfd.lt
  have lp := hb.lt
  have hkb : (qs.length : Int) ≤ 31 := by omega
  have q1 := hb.cell (o := qs.length * 3 + 1) (by omega)
  have q2 := hb.cell (o := qs.length * 3 + 2) (by omega)
  rw [hP0] at q1
  rw [hP2] at q2
  have key := (hb.set (qs.length * 3 + 1) (.int .i64 (hi : Nat)))
  have hP := hf.ext hi
  have FR := (Fr.refl (fun c => c = fb ∨ c = pb) w).setC pb (qs.length * 3 + 1) (.int .i64 (hi : Nat)) (fun _ => .inr rfl)
  have hfd2 := hfd.setOther ⟨pb, qs.length * 3 + 1, none⟩ (.int .i64 (hi : Nat)) hne
  have t1 : decide (p.g < 0) = true := decide_eq_true hg
  have t2 : ((p.hi : Int) == (lo : Int)) = true := by simp [hl]
  go_enter Tryz.func75, Tryz.ntmps75
  go_wp2_with fail
  refine wp_region_text (by kernel_rfl) (by kernel_rfl) ?_
  go_wp2_with fail
  refine ⟨by kernel_rfl, ?_⟩
  go_wp2_with fail
  refine wp_region_text (by kernel_rfl) (by kernel_rfl) ?_
  go_wp2_with fail
  refine ⟨by kernel_rfl, ?_⟩
  go_wp2_with fail
  refine bodyPost_ret (results_none rfl _ _ _) rfl ?_
  refine ⟨rfl, _, .ext hg hl, ⟨?_, ⟨_, key.drew, hP⟩, hne, by simpa using hle⟩, FR.drew.drew⟩
  have e : (qs ++ [(⟨p.lo, hi, p.g⟩ : Pc)]).length = (qs ++ [p]).length := by simp
  rw [e]
  exact hfd2.drew
end Go.Proofs.Qxb6500283aGreat
