/- literal, whole. -/
import Derived.Test.Qxb6500283aGreatHF2
namespace Go.Proofs.Qxb6500283aGreat
open Go Go.RowKit

set_option maxRecDepth 100000 in
set_option maxHeartbeats 8000000 in
theorem literal_grp {w : World} {fb e sb n pb : Nat} {qs : List Pc} {p : Pc} (h : PMem w fb e sb n pb (qs ++ [p])) (lo hi : Nat) (hg : 0 ≤ p.g) (hl2 : (qs ++ [p]).length < 32) :
    Calls Tryz.prog 75 #[.pointer (some ⟨fb, 0, none⟩), .int .i64 (lo : Nat), .int .i64 (hi : Nat)] w (LitPost w fb e sb n pb lo hi (qs ++ [p])) := by
  obtain ⟨hfd, ⟨f, hb, hf⟩, hne, hle⟩ := h
  have hlen : (qs ++ [p]).length = qs.length + 1 := by simp
  have hP0 := hf qs.length (by omega) 1 (by omega)
  have hP2 := hf qs.length (by omega) 2 (by omega)
  rw [List.getElem_append_right (Nat.le_refl _)] at hP0 hP2
  simp only [Nat.sub_self, List.getElem_cons_zero, pcCell] at hP0 hP2
  have c3 := hfd.cell (o := 3) (by omega)
  have c4 := hfd.cell (o := 4) (by omega)
  simp only [fdCell] at c3 c4
  rw [hlen, Int.natCast_succ] at c4
  have zf := hfd.frozen
  have zp := hb.frozen
  have lf := hfd.lt
  have lp := hb.lt
  have hkb : (qs.length : Int) ≤ 31 := by omega
  have q1 := hb.cell (o := qs.length * 3 + 1) (by omega)
  have q2 := hb.cell (o := qs.length * 3 + 2) (by omega)
  rw [hP0] at q1
  rw [hP2] at q2
  have key := (((hb.set ((qs.length + 1) * 3) (.int .i64 (lo : Nat))).set ((qs.length + 1) * 3 + 1) (.int .i64 (hi : Nat))).set ((qs.length + 1) * 3 + 2) (.int .i64 (-1)))
  have hP := hf.push ⟨lo, hi, -1⟩ (.int .i64 (lo : Nat)) (.int .i64 (hi : Nat)) (.int .i64 (-1)) rfl rfl rfl
  rw [hlen] at hP
  have p0 := hb.cell (o := (qs.length + 1) * 3) (by omega)
  have p1 := hb.cell (o := (qs.length + 1) * 3 + 1) (by omega)
  have p2 := hb.cell (o := (qs.length + 1) * 3 + 2) (by omega)
  have FR := ((((Fr.refl (fun c => c = fb ∨ c = pb) w).setC pb ((qs.length + 1) * 3) (.int .i64 (lo : Nat)) (fun _ => .inr rfl)).setC pb ((qs.length + 1) * 3 + 1) (.int .i64 (hi : Nat)) (fun _ => .inr rfl)).setC pb ((qs.length + 1) * 3 + 2) (.int .i64 (-1)) (fun _ => .inr rfl)).setC fb 4 (.int .i64 ((qs.length : Int) + 1 + 1)) (fun _ => .inl rfl)
  have hfd2 := ((((hfd.setOther ⟨pb, (qs.length + 1) * 3, none⟩ (.int .i64 (lo : Nat)) hne).setOther ⟨pb, (qs.length + 1) * 3 + 1, none⟩ (.int .i64 (hi : Nat)) hne).setOther ⟨pb, (qs.length + 1) * 3 + 2, none⟩ (.int .i64 (-1)) hne).set 4 (.int .i64 ((qs.length : Int) + 1 + 1))).congr (fdCell_np e sb n pb _ (qs.length + 1 + 1))
  have hpb2 := key.setOther ⟨fb, 4, none⟩ (.int .i64 ((qs.length : Int) + 1 + 1)) (fun e => hne e.symm)
  have hlen2 : (qs ++ [p] ++ [(⟨lo, hi, -1⟩ : Pc)]).length = qs.length + 1 + 1 := by simp
  have t1 : decide (p.g < 0) = false := decide_eq_false (by omega)
  go_enter Tryz.func75, Tryz.ntmps75
  go_wp2_with fail
  refine wp_region_text (by kernel_rfl) (by kernel_rfl) ?_
  go_wp2_with fail
  refine ⟨by kernel_rfl, ?_⟩
  go_wp2_with fail
  refine wp_region_text (by kernel_rfl) (by kernel_rfl) ?_
  go_wp2_with fail
  refine ⟨by kernel_rfl, ?_⟩
  go_wp2_with fail
  go_end0
  refine ⟨rfl, _, .new (fun qs' p' e2 => ?_), ⟨?_, ⟨_, hpb2.drew, hP⟩, hne, by omega⟩, FR.drew.drew⟩
  · obtain ⟨rfl, e3⟩ := List.append_inj' e2 rfl
    simp at e3
    subst e3
    omega
  · rw [hlen2]
    exact hfd2.drew
set_option maxRecDepth 100000 in
set_option maxHeartbeats 8000000 in
theorem literal_gap {w : World} {fb e sb n pb : Nat} {qs : List Pc} {p : Pc} (h : PMem w fb e sb n pb (qs ++ [p])) (lo hi : Nat) (hg : p.g < 0) (hl : p.hi ≠ lo) (hl2 : (qs ++ [p]).length < 32) :
    Calls Tryz.prog 75 #[.pointer (some ⟨fb, 0, none⟩), .int .i64 (lo : Nat), .int .i64 (hi : Nat)] w (LitPost w fb e sb n pb lo hi (qs ++ [p])) := by
  obtain ⟨hfd, ⟨f, hb, hf⟩, hne, hle⟩ := h
  have hlen : (qs ++ [p]).length = qs.length + 1 := by simp
  have hP0 := hf qs.length (by omega) 1 (by omega)
  have hP2 := hf qs.length (by omega) 2 (by omega)
  rw [List.getElem_append_right (Nat.le_refl _)] at hP0 hP2
  simp only [Nat.sub_self, List.getElem_cons_zero, pcCell] at hP0 hP2
  have c3 := hfd.cell (o := 3) (by omega)
  have c4 := hfd.cell (o := 4) (by omega)
  simp only [fdCell] at c3 c4
  rw [hlen, Int.natCast_succ] at c4
  have zf := hfd.frozen
  have zp := hb.frozen
  have lf := hfd.lt
  have lp := hb.lt
  have hkb : (qs.length : Int) ≤ 31 := by omega
  have q1 := hb.cell (o := qs.length * 3 + 1) (by omega)
  have q2 := hb.cell (o := qs.length * 3 + 2) (by omega)
  rw [hP0] at q1
  rw [hP2] at q2
  have key := (((hb.set ((qs.length + 1) * 3) (.int .i64 (lo : Nat))).set ((qs.length + 1) * 3 + 1) (.int .i64 (hi : Nat))).set ((qs.length + 1) * 3 + 2) (.int .i64 (-1)))
  have hP := hf.push ⟨lo, hi, -1⟩ (.int .i64 (lo : Nat)) (.int .i64 (hi : Nat)) (.int .i64 (-1)) rfl rfl rfl
  rw [hlen] at hP
  have p0 := hb.cell (o := (qs.length + 1) * 3) (by omega)
  have p1 := hb.cell (o := (qs.length + 1) * 3 + 1) (by omega)
  have p2 := hb.cell (o := (qs.length + 1) * 3 + 2) (by omega)
  have FR := ((((Fr.refl (fun c => c = fb ∨ c = pb) w).setC pb ((qs.length + 1) * 3) (.int .i64 (lo : Nat)) (fun _ => .inr rfl)).setC pb ((qs.length + 1) * 3 + 1) (.int .i64 (hi : Nat)) (fun _ => .inr rfl)).setC pb ((qs.length + 1) * 3 + 2) (.int .i64 (-1)) (fun _ => .inr rfl)).setC fb 4 (.int .i64 ((qs.length : Int) + 1 + 1)) (fun _ => .inl rfl)
  have hfd2 := ((((hfd.setOther ⟨pb, (qs.length + 1) * 3, none⟩ (.int .i64 (lo : Nat)) hne).setOther ⟨pb, (qs.length + 1) * 3 + 1, none⟩ (.int .i64 (hi : Nat)) hne).setOther ⟨pb, (qs.length + 1) * 3 + 2, none⟩ (.int .i64 (-1)) hne).set 4 (.int .i64 ((qs.length : Int) + 1 + 1))).congr (fdCell_np e sb n pb _ (qs.length + 1 + 1))
  have hpb2 := key.setOther ⟨fb, 4, none⟩ (.int .i64 ((qs.length : Int) + 1 + 1)) (fun e => hne e.symm)
  have hlen2 : (qs ++ [p] ++ [(⟨lo, hi, -1⟩ : Pc)]).length = qs.length + 1 + 1 := by simp
  have t1 : decide (p.g < 0) = true := decide_eq_true (by omega)
  have t2 : ((p.hi : Int) == (lo : Int)) = false := by simpa using (fun e : (p.hi : Int) = lo => hl (by omega))
  go_enter Tryz.func75, Tryz.ntmps75
  go_wp2_with fail
  refine wp_region_text (by kernel_rfl) (by kernel_rfl) ?_
  go_wp2_with fail
  refine ⟨by kernel_rfl, ?_⟩
  go_wp2_with fail
  refine wp_region_text (by kernel_rfl) (by kernel_rfl) ?_
  go_wp2_with fail
  refine ⟨by kernel_rfl, ?_⟩
  go_wp2_with fail
  go_end0
  refine ⟨rfl, _, .new (fun qs' p' e2 => ?_), ⟨?_, ⟨_, hpb2.drew, hP⟩, hne, by omega⟩, FR.drew.drew⟩
  · obtain ⟨rfl, e3⟩ := List.append_inj' e2 rfl
    simp at e3
    subst e3
    omega
  · rw [hlen2]
    exact hfd2.drew
theorem literal_any {w : World} {fb e sb n pb : Nat} {ps : List Pc} (h : PMem w fb e sb n pb ps) (lo hi : Nat) (hl : ps.length < 32) :
    Calls Tryz.prog 75 #[.pointer (some ⟨fb, 0, none⟩), .int .i64 (lo : Nat), .int .i64 (hi : Nat)] w (LitPost w fb e sb n pb lo hi ps) := by
  rcases List.eq_nil_or_concat ps with rfl | ⟨qs, p, rfl⟩ <;> (try rw [List.concat_eq_append] at *)
  · exact literal_nil h lo hi
  · by_cases hg : p.g < 0
    · by_cases he : p.hi = lo
      · exact literal_ext h lo hi hg he
      · exact literal_gap h lo hi hg he hl
    · exact literal_grp h lo hi (by omega) hl
end Go.Proofs.Qxb6500283aGreat
