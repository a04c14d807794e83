/- The law: Again. -/
import Derived.Test.Qxb6500283aGreatHL2
namespace Go.Proofs.Qxb6500283aGreat
open Go Go.RowKit

/-- A list with no spare room. -/
def LVc (w : World) (v : Value) (cs : List (Nat → Int)) : Prop := (v = .slice none 0 0 ∧ cs = []) ∨ ∃ b f, v = .slice (some ⟨b, 0, none⟩) cs.length cs.length ∧ Blk w b (cs.length * 8) f ∧ HoldsC f cs
def LVx (w : World) (v : Value) (xs : List ByteArray) : Prop := (v = .slice none 0 0 ∧ xs = []) ∨ ∃ b f, v = .slice (some ⟨b, 0, none⟩) xs.length xs.length ∧ Blk w b xs.length f ∧ HoldsS f xs ∧ 0 < xs.length
theorem LVc.at {w : World} {v : Value} {cs : List (Nat → Int)} (h : LVc w v cs) : CAt w v cs := by
  rcases h with ⟨rfl, rfl⟩ | ⟨b, f, rfl, h1, h2⟩
  · exact .inl ⟨rfl, _, _, rfl⟩
  · exact .inr ⟨b, _, _, f, rfl, h1, Nat.le_refl _, h2⟩
theorem LVx.at {w : World} {v : Value} {cs : List ByteArray} (h : LVx w v cs) : XAt w v cs := by
  rcases h with ⟨rfl, rfl⟩ | ⟨b, f, rfl, h1, h2, _⟩
  · exact .inl ⟨rfl, _, _, rfl⟩
  · exact .inr ⟨b, _, _, f, rfl, h1, Nat.le_refl _, h2⟩
theorem lt16F {o : Nat} (h : o < 16) : o = 0 ∨ o = 1 ∨ o = 2 ∨ o = 3 ∨ o = 4 ∨ o = 5 ∨ o = 6 ∨ o = 7 ∨ o = 8 ∨ o = 9 ∨ o = 10 ∨ o = 11 ∨ o = 12 ∨ o = 13 ∨ o = 14 ∨ o = 15 := by omega
def clrD (D : Dk) : Dk := { D with ax := .slice none 0 0, am := .slice none 0 0, cx := .slice none 0 0, cm := .slice none 0 0 }
def allD (D : Dk) : Dk := { clrD D with oa := upd D.oa D.na D.ax, na := (D.na + 1) % 4 }
def cutD (D : Dk) : Dk := { clrD D with oc := upd D.oc D.nc D.cx, nc := (D.nc + 1) % 4 }
theorem dk_clr (D : Dk) : ∀ o, o < 16 → upd (upd (upd (upd (dkCell D) 2 (.slice none 0 0)) 3 (.slice none 0 0)) 4 (.slice none 0 0)) 5 (.slice none 0 0) o = dkCell (clrD D) o := by
  intro o ho
  rcases lt16F ho with rfl | rfl | rfl | rfl | rfl | rfl | rfl | rfl | rfl | rfl | rfl | rfl | rfl | rfl | rfl | rfl <;> simp [dkCell, upd, clrD]
theorem dk_all (D : Dk) (h : D.na < 4) : ∀ o, o < 16 → upd (upd (upd (upd (upd (upd (dkCell D) (6 + D.na) D.ax) 14 (.int .i64 ((D.na + 1) % 4 : Nat))) 2 (.slice none 0 0)) 3 (.slice none 0 0)) 4 (.slice none 0 0)) 5 (.slice none 0 0) o = dkCell (allD D) o := by
  intro o ho
  simp only [allD, clrD, upd]
  rcases lt16F ho with rfl | rfl | rfl | rfl | rfl | rfl | rfl | rfl | rfl | rfl | rfl | rfl | rfl | rfl | rfl | rfl <;>
  rcases (show D.na = 0 ∨ D.na = 1 ∨ D.na = 2 ∨ D.na = 3 by omega) with h | h | h | h <;> rw [h] <;> simp [dkCell, upd]
theorem dk_cut (D : Dk) (h : D.nc < 4) : ∀ o, o < 16 → upd (upd (upd (upd (upd (upd (dkCell D) (10 + D.nc) D.cx) 15 (.int .i64 ((D.nc + 1) % 4 : Nat))) 2 (.slice none 0 0)) 3 (.slice none 0 0)) 4 (.slice none 0 0)) 5 (.slice none 0 0) o = dkCell (cutD D) o := by
  intro o ho
  simp only [cutD, clrD, upd]
  rcases lt16F ho with rfl | rfl | rfl | rfl | rfl | rfl | rfl | rfl | rfl | rfl | rfl | rfl | rfl | rfl | rfl | rfl <;>
  rcases (show D.nc = 0 ∨ D.nc = 1 ∨ D.nc = 2 ∨ D.nc = 3 by omega) with h | h | h | h <;> rw [h] <;> simp [dkCell, upd]
theorem OldOk.frame {S : Nat → Prop} {w w' : World} {D : Dk} (h : OldOk w D) (k : Fr S w w') (ha : ∀ i, i < 4 → ∀ b, isBk (D.oa i) b → ¬ S b) (hc : ∀ i, i < 4 → ∀ b, isBk (D.oc i) b → ¬ S b) : OldOk w' D :=
  ⟨fun i hi => by obtain ⟨n, hn, hv⟩ := h.a i hi; exact ⟨n, hn, hv.frame k (ha i hi)⟩, fun i hi => by obtain ⟨n, hn, hv⟩ := h.c i hi; exact ⟨n, hn, hv.frame k (hc i hi)⟩⟩
theorem OldOk.cg {w : World} {D D' : Dk} (h : OldOk w D) (e1 : D'.oa = D.oa) (e2 : D'.oc = D.oc) : OldOk w D' := ⟨by rw [e1]; exact h.a, by rw [e2]; exact h.c⟩
theorem OldOk.all {wr w' : World} {d : Nat} {D : Dk} {n : Nat} (ho : OldOk wr D) (q : Fr (fun c => c = d) wr w') (hn : n ≤ 1000) (hv : CAt wr D.ax (List.replicate n stpC)) (hx : ¬ isBk D.ax d) (hoa : ∀ i, i < 4 → ¬ isBk (D.oa i) d) (hoc : ∀ i, i < 4 → ¬ isBk (D.oc i) d) : OldOk w' (allD D) := by
  refine ⟨fun k hk => ?_, fun k hk => ?_⟩
  · by_cases he : k = D.na
    · exact ⟨n, hn, by rw [show (allD D).oa k = D.ax by simp [allD, upd, he]]; exact hv.frame q (fun x hb e => hx (e ▸ hb))⟩
    · obtain ⟨n, hn, hv⟩ := ho.a k hk
      exact ⟨n, hn, by rw [show (allD D).oa k = D.oa k by simp [allD, upd, he]]; exact hv.frame q (fun x hb e => hoa k hk (e ▸ hb))⟩
  · obtain ⟨n, hn, hv⟩ := ho.c k hk
    exact ⟨n, hn, hv.frame q (fun x hb e => hoc k hk (e ▸ hb))⟩
theorem OldOk.cut {wr w' : World} {d : Nat} {D : Dk} {n : Nat} (ho : OldOk wr D) (q : Fr (fun c => c = d) wr w') (hn : n ≤ 1000) (hv : XAt wr D.cx (List.replicate n bang)) (hx : ¬ isBk D.cx d) (hoa : ∀ i, i < 4 → ¬ isBk (D.oa i) d) (hoc : ∀ i, i < 4 → ¬ isBk (D.oc i) d) : OldOk w' (cutD D) := by
  refine ⟨fun k hk => ?_, fun k hk => ?_⟩
  · obtain ⟨n, hn, hv⟩ := ho.a k hk
    exact ⟨n, hn, hv.frame q (fun x hb e => hoa k hk (e ▸ hb))⟩
  · by_cases he : k = D.nc
    · exact ⟨n, hn, by rw [show (cutD D).oc k = D.cx by simp [cutD, upd, he]]; exact hv.frame q (fun x hb e => hx (e ▸ hb))⟩
    · obtain ⟨n, hn, hv⟩ := ho.c k hk
      exact ⟨n, hn, by rw [show (cutD D).oc k = D.oc k by simp [cutD, upd, he]]; exact hv.frame q (fun x hb e => hoc k hk (e ▸ hb))⟩
theorem isB_one {b x n k : Nat} (h : isBk (.slice (some ⟨b, 0, none⟩) n k) x) : x = b := by
  obtain ⟨_, _, e⟩ := h
  injection e with e
  injection e with e
  injection e with e
  exact e.symm
def AgF (w : World) (d : Nat) (D : Dk) (v : Ending) (w' : World) : Prop :=
  v = .returned (.bool true) ∧ Fr (fun b => b = d ∨ isBk D.ax b ∨ isBk D.cx b) w w' ∧ ∃ D', (D' = clrD D ∨ D' = allD D ∨ D' = cutD D) ∧ Blk w' d 16 (dkCell D') ∧ OldOk w' D'
set_option maxRecDepth 100000 in
set_option maxHeartbeats 1500000 in
theorem againF_nil {w : World} {d : Nat} {D : Dk} {cs : List (Nat → Int)} {xs : List ByteArray} (hd : Blk w d 16 (dkCell D)) (hax : D.ax = .slice none 0 0) (hcs : cs = []) (hcx : D.cx = .slice none 0 0) (hxs : xs = []) (hcm : CAt w D.am cs) (hxm : XAt w D.cm xs) (hcl : cs.length ≤ 1000) (hxl : xs.length ≤ 1000) (ho : OldOk w D) (hoa : ∀ i, i < 4 → ¬ isBk (D.oa i) d) (hoc : ∀ i, i < 4 → ¬ isBk (D.oc i) d) :
    Calls Tryz.prog 47 #[.pointer (some ⟨d, 0, none⟩)] w (AgF w d D) := by
  subst hcs hxs
  have hA0 : CAt w D.ax [] := .inl ⟨rfl, _, _, hax⟩
  have hX0 := (show LVx w D.cx [] from .inl ⟨hcx, rfl⟩).at
  have Hax : Hid _ := hax
  have Hcx : Hid _ := hcx
  clear hax hcx
  have hdl := hd.lt
  have c2 := hd.cell (o := 2) (by omega)
  have c3 := hd.cell (o := 3) (by omega)
  simp only [dkCell] at c2 c3
  have F0 := (Fr.refl (fun _ => False) w).drew
  have Ho : Hid _ := ho
  clear ho
  go_enter Tryz.func47, Tryz.ntmps47
  go_wp2_with fail
  refine wp_region_text (by kernel_rfl) (by kernel_rfl) ?_
  go_wp2_with fail
  refine (sameAll_any (hA0.frame F0 (fun _ _ h => h)) (hcm.frame F0 (fun _ _ h => h)) hcl).mono ?_
  rintro v w1 ⟨rfl, f1⟩
  have F1 := F0.trans f1 (fun _ _ h => h)
  have hd1 := hd.frame F1 (fun h => h)
  clear c2 c3
  have c4 := hd1.cell (o := 4) (by omega)
  have c5 := hd1.cell (o := 5) (by omega)
  simp only [dkCell] at c4 c5
  have hdl1 := hd1.lt
  have F1d := F1.drew
  go_wp2_with fail
  refine ⟨by kernel_rfl, ?_⟩
  go_wp2_with fail
  refine wp_region_text (by kernel_rfl) (by kernel_rfl) ?_
  go_wp2_with fail
  refine (sameCut_any (hX0.frame F1d (fun _ _ h => h)) (hxm.frame F1d (fun _ _ h => h)) hxl).mono ?_
  rintro v w2 ⟨rfl, f2⟩
  have F2 := F1d.trans f2 (fun _ _ h => h)
  clear c4 c5 hcm hxm
  go_wp2_with fail
  refine ⟨by kernel_rfl, ?_⟩
  go_wp2_with fail
  refine (stampF_any _).mono ?_
  rintro v w3 ⟨rfl, f3⟩
  rw [stV]
  have hst : Blk (w3.alloc (.cells #[.int .i64 (-7), .int .i64 (-7), .int .i64 (-7), .int .i64 (-7), .int .i64 (-7), .int .i64 (-7), .int .i64 (-7), .int .i64 (-7)] 64)) w3.heap.size 8 (fun _ => .int .i64 (-7)) := capB w3 stpC
  have F3 := (F2.trans f3 (fun _ _ h => h)).alloc (.cells #[.int .i64 (-7), .int .i64 (-7), .int .i64 (-7), .int .i64 (-7), .int .i64 (-7), .int .i64 (-7), .int .i64 (-7), .int .i64 (-7)] 64)
  have hw3 := (F2.trans f3 (fun _ _ h => h)).size
  have hd3 := hd.frame F3 (fun h => h)
  have e2 := hd3.cell (o := 2) (by omega)
  have e4 := hd3.cell (o := 4) (by omega)
  simp only [dkCell] at e2 e4
  have hdl3 := hd3.lt
  have z3 := hd3.frozen
  have e3 := hd3.cell (o := 3) (by omega)
  have e5 := hd3.cell (o := 5) (by omega)
  rw [Hax.out] at e2
  rw [Hcx.out] at e4
  go_wp2_with fail
  refine wp_region_text (by kernel_rfl) (by kernel_rfl) ?_
  go_wp2_with fail
  refine ⟨by kernel_rfl, ?_⟩
  go_wp2_with fail
  refine wp_loop_rounds 1 ?_
  rw [rounds_succ]
  go_wp2_with fail
  clear hw3
  refine wp_region_text (by kernel_rfl) (by kernel_rfl) ?_
  go_wp2_with fail
  refine ⟨by kernel_rfl, ?_⟩
  go_wp2_with fail
  refine wp_loop_rounds 1 ?_
  rw [rounds_succ]
  go_wp2_with fail
  have hdF := ((((hd3.set 2 (.slice none 0 0)).set 3 (.slice none 0 0)).set 4 (.slice none 0 0)).set 5 (.slice none 0 0)).congr (dk_clr D)
  have kF := ((((Fr.refl (fun c => c = d) (w3.alloc (.cells #[.int .i64 (-7), .int .i64 (-7), .int .i64 (-7), .int .i64 (-7), .int .i64 (-7), .int .i64 (-7), .int .i64 (-7), .int .i64 (-7)] 64))).setC d 2 (.slice none 0 0) (fun _ => rfl)).setC d 3 (.slice none 0 0) (fun _ => rfl)).setC d 4 (.slice none 0 0) (fun _ => rfl)).setC d 5 (.slice none 0 0) (fun _ => rfl)
  have FF : Fr (fun b => b = d ∨ isBk D.ax b ∨ isBk D.cx b) w _ := (F3.mono (fun _ _ h => h.elim)).trans kF (fun _ _ h => .inl h)
  have hoF : OldOk _ (clrD D) := (OldOk.frame (D := D) Ho.out ((F3.mono (S' := fun c => c = d) (fun _ _ h => h.elim)).trans kF (fun _ _ h => h)) (fun i hi b hb e => hoa i hi (e ▸ hb)) (fun i hi b hb e => hoc i hi (e ▸ hb))).cg rfl rfl
  have hoF2 := OldOk.frame (D := clrD D) hoF ((Fr.refl (fun _ => False) _).drew.drew) (fun _ _ _ _ h => h) (fun _ _ _ _ h => h)
  refine (untouchedF hdF.drew.drew hoF2).mono ?_
  rintro v w5 ⟨rfl, f5⟩
  go_wp2_with fail
  go_ret
  exact ⟨rfl, (FF.drew.drew).trans f5 (fun _ _ h => h.elim), clrD D, .inl rfl, (hdF.drew.drew).frame f5 (fun h => h), hoF2.frame f5 (fun _ _ _ _ h => h) (fun _ _ _ _ h => h)⟩
set_option maxRecDepth 100000 in
set_option maxHeartbeats 1500000 in
theorem againF_zero {w : World} {d : Nat} {D : Dk} {cs : List (Nat → Int)} {xs : List ByteArray} (hd : Blk w d 16 (dkCell D)) {b0 : Nat} (hax : D.ax = .slice (some ⟨b0, 0, none⟩) 0 0) (hcs : cs = []) (hcx : D.cx = .slice none 0 0) (hxs : xs = []) (hcm : CAt w D.am cs) (hxm : XAt w D.cm xs) (hcl : cs.length ≤ 1000) (hxl : xs.length ≤ 1000) (ho : OldOk w D) (hoa : ∀ i, i < 4 → ¬ isBk (D.oa i) d) (hoc : ∀ i, i < 4 → ¬ isBk (D.oc i) d) :
    Calls Tryz.prog 47 #[.pointer (some ⟨d, 0, none⟩)] w (AgF w d D) := by
  subst hcs hxs
  have hA0 : CAt w D.ax [] := .inl ⟨rfl, _, _, hax⟩
  have hX0 := (show LVx w D.cx [] from .inl ⟨hcx, rfl⟩).at
  have Hax : Hid _ := hax
  have Hcx : Hid _ := hcx
  clear hax hcx
  have hdl := hd.lt
  have c2 := hd.cell (o := 2) (by omega)
  have c3 := hd.cell (o := 3) (by omega)
  simp only [dkCell] at c2 c3
  have F0 := (Fr.refl (fun _ => False) w).drew
  have Ho : Hid _ := ho
  clear ho
  go_enter Tryz.func47, Tryz.ntmps47
  go_wp2_with fail
  refine wp_region_text (by kernel_rfl) (by kernel_rfl) ?_
  go_wp2_with fail
  refine (sameAll_any (hA0.frame F0 (fun _ _ h => h)) (hcm.frame F0 (fun _ _ h => h)) hcl).mono ?_
  rintro v w1 ⟨rfl, f1⟩
  have F1 := F0.trans f1 (fun _ _ h => h)
  have hd1 := hd.frame F1 (fun h => h)
  clear c2 c3
  have c4 := hd1.cell (o := 4) (by omega)
  have c5 := hd1.cell (o := 5) (by omega)
  simp only [dkCell] at c4 c5
  have hdl1 := hd1.lt
  have F1d := F1.drew
  go_wp2_with fail
  refine ⟨by kernel_rfl, ?_⟩
  go_wp2_with fail
  refine wp_region_text (by kernel_rfl) (by kernel_rfl) ?_
  go_wp2_with fail
  refine (sameCut_any (hX0.frame F1d (fun _ _ h => h)) (hxm.frame F1d (fun _ _ h => h)) hxl).mono ?_
  rintro v w2 ⟨rfl, f2⟩
  have F2 := F1d.trans f2 (fun _ _ h => h)
  clear c4 c5 hcm hxm
  go_wp2_with fail
  refine ⟨by kernel_rfl, ?_⟩
  go_wp2_with fail
  refine (stampF_any _).mono ?_
  rintro v w3 ⟨rfl, f3⟩
  rw [stV]
  have hst : Blk (w3.alloc (.cells #[.int .i64 (-7), .int .i64 (-7), .int .i64 (-7), .int .i64 (-7), .int .i64 (-7), .int .i64 (-7), .int .i64 (-7), .int .i64 (-7)] 64)) w3.heap.size 8 (fun _ => .int .i64 (-7)) := capB w3 stpC
  have F3 := (F2.trans f3 (fun _ _ h => h)).alloc (.cells #[.int .i64 (-7), .int .i64 (-7), .int .i64 (-7), .int .i64 (-7), .int .i64 (-7), .int .i64 (-7), .int .i64 (-7), .int .i64 (-7)] 64)
  have hw3 := (F2.trans f3 (fun _ _ h => h)).size
  have hd3 := hd.frame F3 (fun h => h)
  have e2 := hd3.cell (o := 2) (by omega)
  have e4 := hd3.cell (o := 4) (by omega)
  simp only [dkCell] at e2 e4
  have hdl3 := hd3.lt
  have z3 := hd3.frozen
  have e3 := hd3.cell (o := 3) (by omega)
  have e5 := hd3.cell (o := 5) (by omega)
  rw [Hax.out] at e2
  rw [Hcx.out] at e4
  go_wp2_with fail
  refine wp_region_text (by kernel_rfl) (by kernel_rfl) ?_
  go_wp2_with fail
  refine ⟨by kernel_rfl, ?_⟩
  go_wp2_with fail
  refine wp_loop_rounds 1 ?_
  rw [rounds_succ]
  go_wp2_with fail
  clear hw3
  refine wp_region_text (by kernel_rfl) (by kernel_rfl) ?_
  go_wp2_with fail
  refine ⟨by kernel_rfl, ?_⟩
  go_wp2_with fail
  refine wp_loop_rounds 1 ?_
  rw [rounds_succ]
  go_wp2_with fail
  have hdF := ((((hd3.set 2 (.slice none 0 0)).set 3 (.slice none 0 0)).set 4 (.slice none 0 0)).set 5 (.slice none 0 0)).congr (dk_clr D)
  have kF := ((((Fr.refl (fun c => c = d) (w3.alloc (.cells #[.int .i64 (-7), .int .i64 (-7), .int .i64 (-7), .int .i64 (-7), .int .i64 (-7), .int .i64 (-7), .int .i64 (-7), .int .i64 (-7)] 64))).setC d 2 (.slice none 0 0) (fun _ => rfl)).setC d 3 (.slice none 0 0) (fun _ => rfl)).setC d 4 (.slice none 0 0) (fun _ => rfl)).setC d 5 (.slice none 0 0) (fun _ => rfl)
  have FF : Fr (fun b => b = d ∨ isBk D.ax b ∨ isBk D.cx b) w _ := (F3.mono (fun _ _ h => h.elim)).trans kF (fun _ _ h => .inl h)
  have hoF : OldOk _ (clrD D) := (OldOk.frame (D := D) Ho.out ((F3.mono (S' := fun c => c = d) (fun _ _ h => h.elim)).trans kF (fun _ _ h => h)) (fun i hi b hb e => hoa i hi (e ▸ hb)) (fun i hi b hb e => hoc i hi (e ▸ hb))).cg rfl rfl
  have hoF2 := OldOk.frame (D := clrD D) hoF ((Fr.refl (fun _ => False) _).drew.drew) (fun _ _ _ _ h => h) (fun _ _ _ _ h => h)
  refine (untouchedF hdF.drew.drew hoF2).mono ?_
  rintro v w5 ⟨rfl, f5⟩
  go_wp2_with fail
  go_ret
  exact ⟨rfl, (FF.drew.drew).trans f5 (fun _ _ h => h.elim), clrD D, .inl rfl, (hdF.drew.drew).frame f5 (fun h => h), hoF2.frame f5 (fun _ _ _ _ h => h) (fun _ _ _ _ h => h)⟩
def upd8 (f : Nat → Value) (b : Nat) : Nat → Value := (upd (upd (upd (upd (upd (upd (upd (upd f (b) (.int .i64 (-7))) (b + 1) (.int .i64 (-7))) (b + 2) (.int .i64 (-7))) (b + 3) (.int .i64 (-7))) (b + 4) (.int .i64 (-7))) (b + 5) (.int .i64 (-7))) (b + 6) (.int .i64 (-7))) (b + 7) (.int .i64 (-7)))
theorem upd8_in (f : Nat → Value) (b j : Nat) (h : j < 8) : upd8 f b (b + j) = .int .i64 (-7) := by
  obtain rfl | rfl | rfl | rfl | rfl | rfl | rfl | rfl : j = 0 ∨ j = 1 ∨ j = 2 ∨ j = 3 ∨ j = 4 ∨ j = 5 ∨ j = 6 ∨ j = 7 := by omega
  all_goals simp [upd8, upd]
theorem upd8_out (f : Nat → Value) (b o : Nat) (h : o < b ∨ b + 8 ≤ o) : upd8 f b o = f o := by
  unfold upd8
  simp only [upd]
  rw [if_neg (by omega), if_neg (by omega), if_neg (by omega), if_neg (by omega), if_neg (by omega), if_neg (by omega), if_neg (by omega), if_neg (by omega)]
theorem stamped8 {f : Nat → Value} {i : Nat} (h : ∀ k, k < i → ∀ j, j < 8 → f (k * 8 + j) = .int .i64 (-7)) : ∀ k, k < i + 1 → ∀ j, j < 8 → upd8 f (i * 8) (k * 8 + j) = .int .i64 (-7) := by
  intro k hk j hj
  by_cases he : k = i
  · subst he; exact upd8_in _ _ j hj
  · rw [upd8_out _ _ _ (by omega)]; exact h k (by omega) j hj
set_option maxRecDepth 100000 in
set_option maxHeartbeats 1500000 in
theorem againF_all {w : World} {d : Nat} {D : Dk} {cs : List (Nat → Int)} {xs : List ByteArray} (hd : Blk w d 16 (dkCell D)) {b : Nat} {f : Nat → Value} (hax : D.ax = .slice (some ⟨b, 0, none⟩) cs.length cs.length) (hbk : Blk w b (cs.length * 8) f) (hhf : HoldsC f cs) (hp : 0 < cs.length) (hbd : b ≠ d) (hboa : ∀ i, i < 4 → ¬ isBk (D.oa i) b) (hboc : ∀ i, i < 4 → ¬ isBk (D.oc i) b) (hcx : D.cx = .slice none 0 0) (hxs : xs = []) (hcm : CAt w D.am cs) (hxm : XAt w D.cm xs) (hcl : cs.length ≤ 1000) (hxl : xs.length ≤ 1000) (ho : OldOk w D) (hoa : ∀ i, i < 4 → ¬ isBk (D.oa i) d) (hoc : ∀ i, i < 4 → ¬ isBk (D.oc i) d) (hna : D.na < 4) :
    Calls Tryz.prog 47 #[.pointer (some ⟨d, 0, none⟩)] w (AgF w d D) := by
  subst hxs
  have hA0 : CAt w D.ax cs := .inr ⟨b, _, _, f, hax, hbk, Nat.le_refl _, hhf⟩
  have hX0 : XAt w D.cx [] := .inl ⟨rfl, _, _, hcx⟩
  have Hax : Hid _ := hax
  have Hcx : Hid _ := hcx
  clear hax hcx hhf
  have hdl := hd.lt
  have c2 := hd.cell (o := 2) (by omega)
  have c3 := hd.cell (o := 3) (by omega)
  simp only [dkCell] at c2 c3
  have F0 := (Fr.refl (fun _ => False) w).drew
  have Ho : Hid _ := ho
  clear ho
  go_enter Tryz.func47, Tryz.ntmps47
  go_wp2_with fail
  refine wp_region_text (by kernel_rfl) (by kernel_rfl) ?_
  go_wp2_with fail
  refine (sameAll_any (hA0.frame F0 (fun _ _ h => h)) (hcm.frame F0 (fun _ _ h => h)) hcl).mono ?_
  rintro v w1 ⟨rfl, f1⟩
  have F1 := F0.trans f1 (fun _ _ h => h)
  have hd1 := hd.frame F1 (fun h => h)
  clear c2 c3
  have c4 := hd1.cell (o := 4) (by omega)
  have c5 := hd1.cell (o := 5) (by omega)
  simp only [dkCell] at c4 c5
  have hdl1 := hd1.lt
  have F1d := F1.drew
  go_wp2_with fail
  refine ⟨by kernel_rfl, ?_⟩
  go_wp2_with fail
  refine wp_region_text (by kernel_rfl) (by kernel_rfl) ?_
  go_wp2_with fail
  refine (sameCut_any (hX0.frame F1d (fun _ _ h => h)) (hxm.frame F1d (fun _ _ h => h)) hxl).mono ?_
  rintro v w2 ⟨rfl, f2⟩
  have F2 := F1d.trans f2 (fun _ _ h => h)
  clear c4 c5 hcm hxm
  go_wp2_with fail
  refine ⟨by kernel_rfl, ?_⟩
  go_wp2_with fail
  refine (stampF_any _).mono ?_
  rintro v w3 ⟨rfl, f3⟩
  rw [stV]
  have hst : Blk (w3.alloc (.cells #[.int .i64 (-7), .int .i64 (-7), .int .i64 (-7), .int .i64 (-7), .int .i64 (-7), .int .i64 (-7), .int .i64 (-7), .int .i64 (-7)] 64)) w3.heap.size 8 (fun _ => .int .i64 (-7)) := capB w3 stpC
  have F3 := (F2.trans f3 (fun _ _ h => h)).alloc (.cells #[.int .i64 (-7), .int .i64 (-7), .int .i64 (-7), .int .i64 (-7), .int .i64 (-7), .int .i64 (-7), .int .i64 (-7), .int .i64 (-7)] 64)
  have hw3 := (F2.trans f3 (fun _ _ h => h)).size
  have hd3 := hd.frame F3 (fun h => h)
  have e2 := hd3.cell (o := 2) (by omega)
  have e4 := hd3.cell (o := 4) (by omega)
  simp only [dkCell] at e2 e4
  have hdl3 := hd3.lt
  have hbl := hbk.lt
  rw [Hax.out] at e2
  clear e4
  have hclb : (cs.length : Int) ≤ 1000 := by omega
  go_wp2_with fail
  refine wp_region_text (by kernel_rfl) (by kernel_rfl) ?_
  go_wp2_with fail
  refine ⟨by kernel_rfl, ?_⟩
  go_wp2_with fail
  go_loopg [5] cs.length (fun g iv wr => ∃ (i : Nat) (f' : Nat → Value), iv = .int .i64 i ∧ i + g = cs.length ∧ Fr (fun c => c = b) w wr ∧ Blk wr w3.heap.size 8 (fun _ => .int .i64 (-7)) ∧ Blk wr b (cs.length * 8) f' ∧ (∀ k, k < i → ∀ j, j < 8 → f' (k * 8 + j) = .int .i64 (-7)))
  case atStart => exact ⟨0, f, rfl, by omega, (F3.mono (fun _ _ h => h.elim)).drew, hst.drew, (hbk.frame F3 (fun h => h)).drew, fun k hk => by omega⟩
  case round =>
    obtain ⟨i, f', rfl, hg, hfr, hS, hcb, hf'⟩ := hrel
    have hg' : i + gk = cs.length := hg
    clear hg
    have Hf : Hid _ := hf'
    clear hf' hst
    have hdw := hd.frame hfr (fun h => hbd h.symm)
    have hdwl := hdw.lt
    by_cases hlt : i < cs.length
    · have hI : decide ((i : Int) < (cs.length : Nat)) = true := decide_eq_true (by omega)
      have hib : (i : Int) ≤ 1000 := by omega
      have s0 := hS.cell (o := 0) (by omega)
      have s1 := hS.cell (o := 1) (by omega)
      have s2 := hS.cell (o := 2) (by omega)
      have s3 := hS.cell (o := 3) (by omega)
      have s4 := hS.cell (o := 4) (by omega)
      have s5 := hS.cell (o := 5) (by omega)
      have s6 := hS.cell (o := 6) (by omega)
      have s7 := hS.cell (o := 7) (by omega)
      have a0 := hcb.cell (o := i * 8) (by omega)
      have a1 := hcb.cell (o := i * 8 + 1) (by omega)
      have a2 := hcb.cell (o := i * 8 + 2) (by omega)
      have a3 := hcb.cell (o := i * 8 + 3) (by omega)
      have a4 := hcb.cell (o := i * 8 + 4) (by omega)
      have a5 := hcb.cell (o := i * 8 + 5) (by omega)
      have a6 := hcb.cell (o := i * 8 + 6) (by omega)
      have a7 := hcb.cell (o := i * 8 + 7) (by omega)
      have z := hcb.frozen
      have hSl := hS.lt
      have hcbl := hcb.lt
      have hkey := (((((((((hcb).set (i * 8) (.int .i64 (-7))).set (i * 8 + 1) (.int .i64 (-7))).set (i * 8 + 2) (.int .i64 (-7))).set (i * 8 + 3) (.int .i64 (-7))).set (i * 8 + 4) (.int .i64 (-7))).set (i * 8 + 5) (.int .i64 (-7))).set (i * 8 + 6) (.int .i64 (-7))).set (i * 8 + 7) (.int .i64 (-7))).congr (g := upd8 f' (i * 8)) (fun o _ => rfl)
      have FK := ((((((((hfr).setC b (i * 8) (.int .i64 (-7)) (fun _ => rfl)).setC b (i * 8 + 1) (.int .i64 (-7)) (fun _ => rfl)).setC b (i * 8 + 2) (.int .i64 (-7)) (fun _ => rfl)).setC b (i * 8 + 3) (.int .i64 (-7)) (fun _ => rfl)).setC b (i * 8 + 4) (.int .i64 (-7)) (fun _ => rfl)).setC b (i * 8 + 5) (.int .i64 (-7)) (fun _ => rfl)).setC b (i * 8 + 6) (.int .i64 (-7)) (fun _ => rfl)).setC b (i * 8 + 7) (.int .i64 (-7)) (fun _ => rfl)
      have FS := (((((((((Fr.refl (fun c => c = b) wr)).setC b (i * 8) (.int .i64 (-7)) (fun _ => rfl)).setC b (i * 8 + 1) (.int .i64 (-7)) (fun _ => rfl)).setC b (i * 8 + 2) (.int .i64 (-7)) (fun _ => rfl)).setC b (i * 8 + 3) (.int .i64 (-7)) (fun _ => rfl)).setC b (i * 8 + 4) (.int .i64 (-7)) (fun _ => rfl)).setC b (i * 8 + 5) (.int .i64 (-7)) (fun _ => rfl)).setC b (i * 8 + 6) (.int .i64 (-7)) (fun _ => rfl)).setC b (i * 8 + 7) (.int .i64 (-7)) (fun _ => rfl)
      go_wp2_with fail
      go_roundg (gk - 1)
      case measure => omega
      case rel => exact ⟨i + 1, _, by simp, by omega, FK, hS.frame FS (by omega), hkey, stamped8 Hf.out⟩
    · have hI : decide ((i : Int) < (cs.length : Nat)) = false := decide_eq_false (by omega)
      have hpI : decide ((0 : Int) < (cs.length : Nat)) = true := decide_eq_true (by omega)
      have d4 := hdw.cell (o := 4) (by omega)
      have d14 := hdw.cell (o := 14) (by omega)
      simp only [dkCell] at d4 d14
      rw [Hcx.out] at d4
      go_wp2_with fail
      refine wp_region_text (by kernel_rfl) (by kernel_rfl) ?_
      go_wp2_with fail
      refine ⟨by kernel_rfl, ?_⟩
      go_wp2_with fail
      refine wp_loop_rounds 1 ?_
      rw [rounds_succ]
      have dq := hdw.cell (show 6 + D.na < 16 by omega)
      have d2 := hdw.cell (o := 2) (by omega)
      have d3 := hdw.cell (o := 3) (by omega)
      have d5 := hdw.cell (o := 5) (by omega)
      have hz := hdw.frozen
      have nab : (D.na : Int) ≤ 3 := by omega
      have ht : (((D.na : Int) + 1).tmod 4) = (((D.na + 1) % 4 : Nat) : Int) := by rw [Int.tmod_eq_emod_of_nonneg (by omega)]; omega
      have hdF := ((((((hdw.set (6 + D.na) D.ax).set 14 (.int .i64 ((D.na + 1) % 4 : Nat))).set 2 (.slice none 0 0)).set 3 (.slice none 0 0)).set 4 (.slice none 0 0)).set 5 (.slice none 0 0)).congr (dk_all D hna)
      have FD := (((((((Fr.refl (fun c => c = d) wr).setC d (6 + D.na) D.ax (fun _ => rfl)).setC d 14 (.int .i64 ((D.na + 1) % 4 : Nat)) (fun _ => rfl))).setC d 2 (.slice none 0 0) (fun _ => rfl)).setC d 3 (.slice none 0 0) (fun _ => rfl)).setC d 4 (.slice none 0 0) (fun _ => rfl)).setC d 5 (.slice none 0 0) (fun _ => rfl)
      rw [Hax.out] at hdF FD
      go_wp2_with fail
      refine wp_region_text (by kernel_rfl) (by kernel_rfl) ?_
      go_wp2_with fail
      refine ⟨by kernel_rfl, ?_⟩
      go_wp2_with fail
      have hob : ∀ i, i < 4 → ∀ x, isBk (D.oa i) x → ¬ x = b := fun i hi x hx e => hboa i hi (e ▸ hx)
      have hob2 : ∀ i, i < 4 → ∀ x, isBk (D.oc i) x → ¬ x = b := fun i hi x hx e => hboc i hi (e ▸ hx)
      have ho1 := Ho.out.frame hfr hob hob2
      have hii : i = cs.length := by omega
      have hLV : CAt wr (.slice (some ⟨b, 0, none⟩) cs.length cs.length) (List.replicate cs.length stpC) := .inr ⟨b, _, _, f', by rw [List.length_replicate], hcb, by rw [List.length_replicate]; exact Nat.le_refl _, fun k hk j hj => by
        rw [List.length_replicate] at hk
        rw [List.getElem_replicate]
        exact Hf.out k (by omega) j hj⟩
      have hoF := OldOk.all ho1 FD hcl (by rw [Hax.out]; exact hLV) (fun hx => by rw [Hax.out] at hx; exact hbd (isB_one hx).symm) hoa hoc
      have FF : Fr (fun x => x = d ∨ isBk D.ax x ∨ isBk D.cx x) w _ := (hfr.mono (S' := fun x => x = d ∨ isBk D.ax x ∨ isBk D.cx x) (fun x _ e => .inr (.inl (by rw [e, Hax.out]; exact ⟨_, _, rfl⟩)))).trans FD (fun x _ e => .inl e)
      have hoF2 := OldOk.frame (D := allD D) hoF ((Fr.refl (fun _ => False) _).drew.drew) (fun _ _ _ _ h => h) (fun _ _ _ _ h => h)
      refine (untouchedF hdF.drew.drew hoF2).mono ?_
      rintro v w5 ⟨rfl, f5⟩
      go_wp2_with fail
      go_ret
      exact ⟨rfl, (FF.drew.drew).trans f5 (fun _ _ h => h.elim), allD D, .inr (.inl rfl), (hdF.drew.drew).frame f5 (fun h => h), hoF2.frame f5 (fun _ _ _ _ h => h) (fun _ _ _ _ h => h)⟩
end Go.Proofs.Qxb6500283aGreat
