/- The law: whole answers compared. -/
import Derived.Test.Qxb6500276aGreatLC1
namespace Go.Proofs.Qxb6500276aGreat
open Go Go.RowKit

set_option maxRecDepth 100000 in
set_option maxHeartbeats 4000000 in
theorem sameChecked {w : World} {x y : Cr} (h1 : AnsA w x) (h2 : AnsA w y) (e : y.2 = x.2) : Calls Tryz.prog 36 #[crV x, crV y] w fun v w' => v = .returned (.bool true) ∧ Fr (fun _ => False) w w' := by
  have F0 := ((Fr.refl (fun _ => False) w).alloc (crB x)).alloc (crB y)
  have X1 := (crB_blk w x).alloc (crB y)
  have X2 := crB_blk (w.alloc (crB x)) y
  rw [World.size_alloc] at X2
  obtain ⟨a, d⟩ := x
  obtain ⟨a', d'⟩ := y
  simp only at e
  subst e
  have K1 := h1.frame F0 (fun _ _ h => h)
  have K2 := h2.frame F0 (fun _ _ h => h)
  have HT := sameTree (r := d'.root) (e := 0) (p := 0) K1.hv K2.hv K1.nl
  have HH : Hid _ := And.intro F0 (And.intro X1 (And.intro X2 (And.intro K1 K2)))
  have hl1 : w.heap.size ≠ w.heap.size + 1 := by omega
  clear F0 X1 X2 K1 K2 h1 h2
  unfold treeV crB vV tV rV fV at HT
  unfold crV chkV vV tV rV fV
  simp only at HT ⊢
  go_enter Tryz.func36, Tryz.ntmps36
  go_wp2_with fail
  refine HT.mono ?_
  rintro v w1 ⟨rfl, f1⟩
  clear HT
  obtain ⟨F0, X1, X2, K1, K2⟩ := HH.out
  have Y1 := X1.frame f1 (fun h => h)
  have Y2 := X2.frame f1 (fun h => h)
  have HT := sameInts (K1.frame f1 (fun _ _ h => h)).ht (K2.frame f1 (fun _ _ h => h)).ht K1.tl
  have c0 := Y1.cell (o := 0) (by omega)
  have c1 := Y1.cell (o := 1) (by omega)
  have c2 := Y1.cell (o := 2) (by omega)
  have c3 := Y1.cell (o := 3) (by omega)
  have c4 := Y1.cell (o := 4) (by omega)
  have c5 := Y1.cell (o := 5) (by omega)
  have c6 := Y1.cell (o := 6) (by omega)
  have c7 := Y1.cell (o := 7) (by omega)
  have c8 := Y1.cell (o := 8) (by omega)
  have c9 := Y1.cell (o := 9) (by omega)
  simp only [crC, vV, tV, rV, fV] at c0 c1 c2 c3 c4 c5 c6 c7 c8 c9
  have d0 := Y2.cell (o := 0) (by omega)
  have d1 := Y2.cell (o := 1) (by omega)
  have d2 := Y2.cell (o := 2) (by omega)
  have d3 := Y2.cell (o := 3) (by omega)
  have d4 := Y2.cell (o := 4) (by omega)
  have d5 := Y2.cell (o := 5) (by omega)
  have d6 := Y2.cell (o := 6) (by omega)
  have d7 := Y2.cell (o := 7) (by omega)
  have d8 := Y2.cell (o := 8) (by omega)
  have d9 := Y2.cell (o := 9) (by omega)
  simp only [crC, vV, tV, rV, fV] at d0 d1 d2 d3 d4 d5 d6 d7 d8 d9
  have cl := Y1.lt
  have dl := Y2.lt
  have HP2 : Hid _ := f1
  clear F0 X1 X2 K1 K2 Y1 Y2 f1
  unfold tV at HT
  simp only at HT
  go_wp2_with fail
  refine HT.mono ?_
  rintro v w2 ⟨rfl, f2⟩
  clear HT c0 d0 c1 d1 c2 d2 c3 d3 c4 d4 c5 d5 c6 d6 c7 d7 c8 d8 c9 d9 cl dl
  have ff2 := HP2.out.trans f2 (fun _ _ h => h)
  obtain ⟨F0, X1, X2, K1, K2⟩ := HH.out
  have Y1 := X1.frame ff2 (fun h => h)
  have Y2 := X2.frame ff2 (fun h => h)
  have HT := sameInts (K1.frame ff2 (fun _ _ h => h)).hr (K2.frame ff2 (fun _ _ h => h)).hr K1.rl
  have c0 := Y1.cell (o := 0) (by omega)
  have c1 := Y1.cell (o := 1) (by omega)
  have c2 := Y1.cell (o := 2) (by omega)
  have c3 := Y1.cell (o := 3) (by omega)
  have c4 := Y1.cell (o := 4) (by omega)
  have c5 := Y1.cell (o := 5) (by omega)
  have c6 := Y1.cell (o := 6) (by omega)
  have c7 := Y1.cell (o := 7) (by omega)
  have c8 := Y1.cell (o := 8) (by omega)
  have c9 := Y1.cell (o := 9) (by omega)
  simp only [crC, vV, tV, rV, fV] at c0 c1 c2 c3 c4 c5 c6 c7 c8 c9
  have d0 := Y2.cell (o := 0) (by omega)
  have d1 := Y2.cell (o := 1) (by omega)
  have d2 := Y2.cell (o := 2) (by omega)
  have d3 := Y2.cell (o := 3) (by omega)
  have d4 := Y2.cell (o := 4) (by omega)
  have d5 := Y2.cell (o := 5) (by omega)
  have d6 := Y2.cell (o := 6) (by omega)
  have d7 := Y2.cell (o := 7) (by omega)
  have d8 := Y2.cell (o := 8) (by omega)
  have d9 := Y2.cell (o := 9) (by omega)
  simp only [crC, vV, tV, rV, fV] at d0 d1 d2 d3 d4 d5 d6 d7 d8 d9
  have cl := Y1.lt
  have dl := Y2.lt
  have HP3 : Hid _ := ff2
  clear F0 X1 X2 K1 K2 Y1 Y2 ff2
  unfold rV at HT
  simp only at HT
  go_wp2_with fail
  refine HT.mono ?_
  rintro v w3 ⟨rfl, f3⟩
  clear HT c0 d0 c1 d1 c2 d2 c3 d3 c4 d4 c5 d5 c6 d6 c7 d7 c8 d8 c9 d9 cl dl
  have ff3 := HP3.out.trans f3 (fun _ _ h => h)
  obtain ⟨F0, X1, X2, K1, K2⟩ := HH.out
  have Y1 := X1.frame ff3 (fun h => h)
  have Y2 := X2.frame ff3 (fun h => h)
  have HT := sameFuncs (K1.frame ff3 (fun _ _ h => h)).hf (K2.frame ff3 (fun _ _ h => h)).hf K1.fl
  have c0 := Y1.cell (o := 0) (by omega)
  have c1 := Y1.cell (o := 1) (by omega)
  have c2 := Y1.cell (o := 2) (by omega)
  have c3 := Y1.cell (o := 3) (by omega)
  have c4 := Y1.cell (o := 4) (by omega)
  have c5 := Y1.cell (o := 5) (by omega)
  have c6 := Y1.cell (o := 6) (by omega)
  have c7 := Y1.cell (o := 7) (by omega)
  have c8 := Y1.cell (o := 8) (by omega)
  have c9 := Y1.cell (o := 9) (by omega)
  simp only [crC, vV, tV, rV, fV] at c0 c1 c2 c3 c4 c5 c6 c7 c8 c9
  have d0 := Y2.cell (o := 0) (by omega)
  have d1 := Y2.cell (o := 1) (by omega)
  have d2 := Y2.cell (o := 2) (by omega)
  have d3 := Y2.cell (o := 3) (by omega)
  have d4 := Y2.cell (o := 4) (by omega)
  have d5 := Y2.cell (o := 5) (by omega)
  have d6 := Y2.cell (o := 6) (by omega)
  have d7 := Y2.cell (o := 7) (by omega)
  have d8 := Y2.cell (o := 8) (by omega)
  have d9 := Y2.cell (o := 9) (by omega)
  simp only [crC, vV, tV, rV, fV] at d0 d1 d2 d3 d4 d5 d6 d7 d8 d9
  have cl := Y1.lt
  have dl := Y2.lt
  have HP4 : Hid _ := ff3
  clear F0 X1 X2 K1 K2 Y1 Y2 ff3
  unfold fV at HT
  simp only at HT
  go_wp2_with fail
  refine HT.mono ?_
  rintro v w4 ⟨rfl, f4⟩
  clear HT c0 d0 c1 d1 c2 d2 c3 d3 c4 d4 c5 d5 c6 d6 c7 d7 c8 d8 c9 d9 cl dl
  have ff4 := HP4.out.trans f4 (fun _ _ h => h)
  go_wp2_with fail
  go_ret
  exact ⟨rfl, HH.out.1.trans ff4 (fun _ _ h => h)⟩
end Go.Proofs.Qxb6500276aGreat
