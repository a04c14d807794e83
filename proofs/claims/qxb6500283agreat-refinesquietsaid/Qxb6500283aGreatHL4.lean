/- The law: Again behind Split. -/
import Derived.Test.Qxb6500283aGreatHL3
namespace Go.Proofs.Qxb6500283aGreat
open Go Go.RowKit

set_option maxRecDepth 100000 in
set_option maxHeartbeats 1500000 in
theorem againF_cut {w : World} {d : Nat} {D : Dk} {cs : List (Nat → Int)} {xs : List ByteArray} (hd : Blk w d 16 (dkCell D)) {b : Nat} {f : Nat → Value} (hcx : D.cx = .slice (some ⟨b, 0, none⟩) xs.length xs.length) (hbk : Blk w b xs.length f) (hhf : HoldsS f xs) (hp : 0 < xs.length) (hbd : b ≠ d) (hboa : ∀ i, i < 4 → ¬ isBk (D.oa i) b) (hboc : ∀ i, i < 4 → ¬ isBk (D.oc i) b) (hax : D.ax = .slice none 0 0) (hcs : cs = []) (hcm : CAt w D.am cs) (hxm : XAt w D.cm xs) (hcl : cs.length ≤ 1000) (hxl : xs.length ≤ 1000) (ho : OldOk w D) (hoa : ∀ i, i < 4 → ¬ isBk (D.oa i) d) (hoc : ∀ i, i < 4 → ¬ isBk (D.oc i) d) (hnc : D.nc < 4) :
    Calls Tryz.prog 47 #[.pointer (some ⟨d, 0, none⟩)] w (AgF w d D) := by
  subst hcs
  have hX0 : XAt w D.cx xs := .inr ⟨b, _, _, f, hcx, hbk, Nat.le_refl _, hhf⟩
  have hA0 : CAt w D.ax [] := .inl ⟨rfl, _, _, hax⟩
  have Hax : Hid _ := hax
  have Hcx : Hid _ := hcx
  clear hax hcx hhf
  have hdl := hd.lt
  have c2 := hd.cell (o := 2) (by omega)
  have c3 := hd.cell (o := 3) (by omega)
  simp only [dkCell] at c2 c3
  have F0 := (Fr.refl (fun _ => False) w).drew
  have Ho : Hid _ := ho
  clear ho
  go_enter Tryz.func47, Tryz.ntmps47
  go_wp2_with fail
  refine wp_region_text (by kernel_rfl) (by kernel_rfl) ?_
  go_wp2_with fail
  refine (sameAll_any (hA0.frame F0 (fun _ _ h => h)) (hcm.frame F0 (fun _ _ h => h)) hcl).mono ?_
  rintro v w1 ⟨rfl, f1⟩
  have F1 := F0.trans f1 (fun _ _ h => h)
  have hd1 := hd.frame F1 (fun h => h)
  clear c2 c3
  have c4 := hd1.cell (o := 4) (by omega)
  have c5 := hd1.cell (o := 5) (by omega)
  simp only [dkCell] at c4 c5
  have hdl1 := hd1.lt
  have F1d := F1.drew
  go_wp2_with fail
  refine ⟨by kernel_rfl, ?_⟩
  go_wp2_with fail
  refine wp_region_text (by kernel_rfl) (by kernel_rfl) ?_
  go_wp2_with fail
  refine (sameCut_any (hX0.frame F1d (fun _ _ h => h)) (hxm.frame F1d (fun _ _ h => h)) hxl).mono ?_
  rintro v w2 ⟨rfl, f2⟩
  have F2 := F1d.trans f2 (fun _ _ h => h)
  clear c4 c5 hcm hxm
  go_wp2_with fail
  refine ⟨by kernel_rfl, ?_⟩
  go_wp2_with fail
  refine (stampF_any _).mono ?_
  rintro v w3 ⟨rfl, f3⟩
  rw [stV]
  have hst : Blk (w3.alloc (.cells #[.int .i64 (-7), .int .i64 (-7), .int .i64 (-7), .int .i64 (-7), .int .i64 (-7), .int .i64 (-7), .int .i64 (-7), .int .i64 (-7)] 64)) w3.heap.size 8 (fun _ => .int .i64 (-7)) := capB w3 stpC
  have F3 := (F2.trans f3 (fun _ _ h => h)).alloc (.cells #[.int .i64 (-7), .int .i64 (-7), .int .i64 (-7), .int .i64 (-7), .int .i64 (-7), .int .i64 (-7), .int .i64 (-7), .int .i64 (-7)] 64)
  have hw3 := (F2.trans f3 (fun _ _ h => h)).size
  have hd3 := hd.frame F3 (fun h => h)
  have e2 := hd3.cell (o := 2) (by omega)
  have e4 := hd3.cell (o := 4) (by omega)
  simp only [dkCell] at e2 e4
  have hdl3 := hd3.lt
  have hbl := hbk.lt
  rw [Hax.out] at e2
  rw [Hcx.out] at e4
  have hclb : (xs.length : Int) ≤ 1000 := by omega
  go_wp2_with fail
  refine wp_region_text (by kernel_rfl) (by kernel_rfl) ?_
  go_wp2_with fail
  refine ⟨by kernel_rfl, ?_⟩
  go_wp2_with fail
  refine wp_loop_rounds 1 ?_
  rw [rounds_succ]
  go_wp2_with fail
  refine wp_region_text (by kernel_rfl) (by kernel_rfl) ?_
  go_wp2_with fail
  refine ⟨by kernel_rfl, ?_⟩
  go_wp2_with fail
  go_loopg [7] xs.length (fun g iv wr => ∃ (i : Nat) (f' : Nat → Value), iv = .int .i64 i ∧ i + g = xs.length ∧ Fr (fun c => c = b) w wr ∧ Blk wr b xs.length f' ∧ (∀ k, k < i → f' k = (.string ⟨#[33]⟩)))
  case atStart => exact ⟨0, f, rfl, by omega, (F3.mono (fun _ _ h => h.elim)).drew.drew, (hbk.frame F3 (fun h => h)).drew.drew, fun k hk => by omega⟩
  case round =>
    obtain ⟨i, f', rfl, hg, hfr, hcb, hf'⟩ := hrel
    have hg' : i + gk = xs.length := hg
    clear hg
    have Hf : Hid _ := hf'
    clear hf' hst
    have hdw := hd.frame hfr (fun h => hbd h.symm)
    have hdwl := hdw.lt
    by_cases hlt : i < xs.length
    · have hI : decide ((i : Int) < (xs.length : Nat)) = true := decide_eq_true (by omega)
      have hib : (i : Int) ≤ 1000 := by omega
      have a0 := hcb.cell (o := i) hlt
      have z := hcb.frozen
      have hcbl := hcb.lt
      have hkey := hcb.set i (.string ⟨#[33]⟩)
      have FK := hfr.setC b i (.string ⟨#[33]⟩) (fun _ => rfl)
      have hst2 : ∀ k, k < i + 1 → upd f' i (.string ⟨#[33]⟩) k = (.string ⟨#[33]⟩) := fun k hk => by
        by_cases he : k = i
        · simp [upd, he]
        · simp only [upd]; rw [if_neg he]; exact Hf.out k (by omega)
      have Hst2 : Hid _ := hst2
      clear hst2
      go_wp2_with fail
      go_roundg (gk - 1)
      case measure => omega
      case rel => exact ⟨i + 1, _, by simp, by omega, FK, hkey, Hst2.out⟩
    · have hI : decide ((i : Int) < (xs.length : Nat)) = false := decide_eq_false (by omega)
      have hpI : decide ((0 : Int) < (xs.length : Nat)) = true := decide_eq_true (by omega)
      have d15 := hdw.cell (o := 15) (by omega)
      simp only [dkCell] at d15
      have dq := hdw.cell (show 10 + D.nc < 16 by omega)
      have d2 := hdw.cell (o := 2) (by omega)
      have d3 := hdw.cell (o := 3) (by omega)
      have d4 := hdw.cell (o := 4) (by omega)
      have d5 := hdw.cell (o := 5) (by omega)
      have hz := hdw.frozen
      have nab : (D.nc : Int) ≤ 3 := by omega
      have ht : (((D.nc : Int) + 1).tmod 4) = (((D.nc + 1) % 4 : Nat) : Int) := by rw [Int.tmod_eq_emod_of_nonneg (by omega)]; omega
      have hdF := ((((((hdw.set (10 + D.nc) D.cx).set 15 (.int .i64 ((D.nc + 1) % 4 : Nat))).set 2 (.slice none 0 0)).set 3 (.slice none 0 0)).set 4 (.slice none 0 0)).set 5 (.slice none 0 0)).congr (dk_cut D hnc)
      have FD := (((((((Fr.refl (fun c => c = d) wr).setC d (10 + D.nc) D.cx (fun _ => rfl)).setC d 15 (.int .i64 ((D.nc + 1) % 4 : Nat)) (fun _ => rfl))).setC d 2 (.slice none 0 0) (fun _ => rfl)).setC d 3 (.slice none 0 0) (fun _ => rfl)).setC d 4 (.slice none 0 0) (fun _ => rfl)).setC d 5 (.slice none 0 0) (fun _ => rfl)
      rw [Hcx.out] at hdF FD
      go_wp2_with fail
      refine wp_region_text (by kernel_rfl) (by kernel_rfl) ?_
      go_wp2_with fail
      refine ⟨by kernel_rfl, ?_⟩
      go_wp2_with fail
      have hob : ∀ i, i < 4 → ∀ x, isBk (D.oa i) x → ¬ x = b := fun i hi x hx e => hboa i hi (e ▸ hx)
      have hob2 : ∀ i, i < 4 → ∀ x, isBk (D.oc i) x → ¬ x = b := fun i hi x hx e => hboc i hi (e ▸ hx)
      have ho1 := Ho.out.frame hfr hob hob2
      have hii : i = xs.length := by omega
      have hLV : XAt wr (.slice (some ⟨b, 0, none⟩) xs.length xs.length) (List.replicate xs.length bang) := .inr ⟨b, _, _, f', by rw [List.length_replicate], hcb, by rw [List.length_replicate]; exact Nat.le_refl _, fun k hk => by
        rw [List.length_replicate] at hk
        rw [List.getElem_replicate]
        exact Hf.out k (by omega)⟩
      have hoF := OldOk.cut ho1 FD hxl (by rw [Hcx.out]; exact hLV) (fun hx => by rw [Hcx.out] at hx; exact hbd (isB_one hx).symm) hoa hoc
      have FF : Fr (fun x => x = d ∨ isBk D.ax x ∨ isBk D.cx x) w _ := (hfr.mono (S' := fun x => x = d ∨ isBk D.ax x ∨ isBk D.cx x) (fun x _ e => .inr (.inr (by rw [e, Hcx.out]; exact ⟨_, _, rfl⟩)))).trans FD (fun x _ e => .inl e)
      have hoF2 := OldOk.frame (D := cutD D) hoF ((Fr.refl (fun _ => False) _).drew) (fun _ _ _ _ h => h) (fun _ _ _ _ h => h)
      refine (untouchedF hdF.drew hoF2).mono ?_
      rintro v w5 ⟨rfl, f5⟩
      go_wp2_with fail
      go_ret
      exact ⟨rfl, (FF.drew).trans f5 (fun _ _ h => h.elim), cutD D, .inr (.inr rfl), (hdF.drew).frame f5 (fun h => h), hoF2.frame f5 (fun _ _ _ _ h => h) (fun _ _ _ _ h => h)⟩
end Go.Proofs.Qxb6500283aGreat
