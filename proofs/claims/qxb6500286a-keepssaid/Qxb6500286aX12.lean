/- SameMeaning. -/
import Derived.Test.Qxb6500286aX11
import Derived.Test.Qxb6500286aW12
namespace Go.Proofs.Qxb6500286a
open Go Go.RowKit

def foundF (e : Int) (ok : Bool) (c : Cp) (j : Nat) : Value := match j with | 0 => .int .i64 e | 1 => .int .i64 0 | 2 => .bool ok | j + 3 => .int .i64 (c j)
theorem Blk.found (w : World) (le : Int) (lo : Bool) (lc : Cp) : Blk (w.alloc (.cells #[.int .i64 le, .int .i64 0, .bool lo, .int .i64 (lc 0), .int .i64 (lc 1), .int .i64 (lc 2), .int .i64 (lc 3), .int .i64 (lc 4), .int .i64 (lc 5), .int .i64 (lc 6), .int .i64 (lc 7)] 59)) w.heap.size 11 (foundF le lo lc) := Blk.new w _ _ _ fun o ho => by
  obtain rfl | rfl | rfl | rfl | rfl | rfl | rfl | rfl | rfl | rfl | rfl : o = 0 ∨ o = 1 ∨ o = 2 ∨ o = 3 ∨ o = 4 ∨ o = 5 ∨ o = 6 ∨ o = 7 ∨ o = 8 ∨ o = 9 ∨ o = 10 := by simp at ho; omega
  all_goals rfl
def MPostK (w : World) (s x xg : Nat) (e : Ending) (w' : World) : Prop := e = .returned (.bool true) ∧ SAny w' s x ∧ RAny w' xg ⟨#[]⟩ ∧ Fr (fun b => b = x ∨ SAt s b ∨ b = xg) w w'
theorem answersK {p : ByteArray} {o o' : Ans} (h : EndsL p o) (h' : ModelL p o') : o = o' := answers h h'
set_option maxRecDepth 100000 in
set_option maxHeartbeats 16000000 in
theorem sameMeaning_any {w : World} {s x xg : Nat} (hA : SAny w s x) (hG : RAny w xg ⟨#[]⟩) (hxg : xg ≠ x) (hsg : ¬ SAt s xg) (p sub : ByteArray) (fr : Int) :
    Calls Try.prog 14 #[.pointer (some ⟨s, 0, none⟩), .agg #[.pointer (some ⟨xg, 0, none⟩)], .string p, .string sub, .int .i64 fr] w (MPostK w s x xg) := by
  have fb := (Fr.refl (fun _ => False) w).alloc (.cells #[.pointer (some ⟨xg, 0, none⟩)] 27)
  have hbb : Blk (w.alloc (.cells #[.pointer (some ⟨xg, 0, none⟩)] 27)) w.heap.size 1 (fun _ => .pointer (some ⟨xg, 0, none⟩)) := Blk.new w _ _ _ fun o ho => by
    obtain rfl : o = 0 := by simpa using ho
    rfl
  have hA0 := hA.frame fb (fun h => h) (fun _ _ h => h)
  have hG0 := hG.frame fb (fun h => h)
  have hxl : x < w.heap.size := by
    obtain ⟨_, _, hX, _⟩ := hA
    obtain ⟨f, iv, ns, g, t, r, e, q, hb, _⟩ := hX
    exact hb.lt
  have hsl : s + 5 < w.heap.size := by
    obtain ⟨⟨out, _, hS⟩, _⟩ := hA
    exact hS.cells.2.2.2.2
  have hgl : xg < w.heap.size := by
    obtain ⟨f, iv, ns, g, t, r, e, q, hb, _⟩ := hG
    exact hb.lt
  clear hA hG
  go_enter Try.func14, Try.ntmps14
  go_wp2_with fail
  refine (core_any hA0 p).mono ?_
  rintro v w1 ⟨o1, hM1, hP1, hA1, f1⟩
  have HM1 : Hid _ := hM1
  have hbb1 := hbb.frame f1 (fun e => e.elim (fun e => by omega) (fun e => by unfold SAt at e; omega))
  have hG1 := hG0.frame f1 (fun e => e.elim hxg hsg)
  have hw1 := f1.size
  simp only [World.size_alloc] at hw1
  have FS : ∀ b, (b = x ∨ SAt s b) → (b = x ∨ SAt s b ∨ b = xg) := fun b h => h.elim .inl (fun h => .inr (.inl h))
  have F1 := (fb.mono (S' := fun b => b = x ∨ SAt s b ∨ b = xg) (fun _ _ h => h.elim)).trans f1 (fun b _ h => FS b h)
  -- the answer of Core, by its kind
  have hcase : (∃ e : Int, ∃ q : Nat, coreO o1 = .error (e, q) ∧ e ≠ 0 ∧ ((∃ e', o1 = .error e' ∧ e'.1 = e ∧ e'.2 = q) ∨ ((∃ t, o1 = .ok t) ∧ e = 8 ∧ q = 0))) ∨ ∃ ns y g, o1 = .ok (ns, y, g) ∧ coreO o1 = .ok (coreL ns y, (coreL ns y).length - 1, g) ∧ (1 ≤ (coreL ns y).length ∧ (coreL ns y).length ≤ 31) := by
    cases o1 with
    | error e => exact .inl ⟨e.1, e.2, rfl, ModelL.err hM1, .inl ⟨e, rfl, rfl, rfl⟩⟩
    | ok t =>
      obtain ⟨ns, y, g⟩ := t
      by_cases hz : 31 < (zz ns y).2
      · exact .inl ⟨8, 0, if_pos hz, by decide, .inr ⟨⟨_, rfl⟩, rfl, rfl⟩⟩
      · exact .inr ⟨ns, y, g, rfl, if_neg hz, coreL_len (ModelL.tree hM1).1 (by omega)⟩
  clear hM1
  rcases hcase with ⟨e, q, hco, he, hoo⟩ | ⟨ns, y, g, rfl, hco, hcl⟩
  · rw [hco] at hP1
    obtain rfl : v = .returned (trErr (e, q)) := hP1
    clear hco
    have te : (e == 0) = false := by simpa using he
    have te' : (e != 0) = true := by simpa using he
    have fA := (Fr.refl (fun _ => False) w1).alloc (.cells #[.slice none 0 0, .int .i64 (-1), .int .i64 0, .int .i64 e, .int .i64 (q : Nat)] 41)
    have hTA := (Blk.tv w1 (.slice none 0 0) (.int .i64 (-1)) (.int .i64 0) (.int .i64 e) (.int .i64 (q : Nat)))
    unfold trErr
    go_wp2_with fail
    refine (sound_err he q _).mono ?_
    rintro v w2 ⟨rfl, f2⟩
    have kA := fA.trans f2 (fun _ _ h => h)
    have hTA2 := hTA.frame f2 (fun h => h)
    have hbb2 := hbb1.frame kA (fun h => h)
    have hA2 := hA1.frame kA (fun h => h) (fun _ _ h => h)
    have hG2 := hG1.frame kA (fun h => h)
    have F2 := F1.trans kA (fun _ _ h => h.elim)
    have hw2 := kA.size
    have b0 := hbb2.cell (o := 0) (by omega)
    have lb := hbb2.lt
    have lA := hTA2.lt
    go_wp2_with fail
    refine (parseR_any (p := p) hG2).mono ?_
    rintro v w3 ⟨o2, hE2, hP2, hG3, f3⟩
    have hoe := answersK hE2 HM1.out
    subst hoe
    have hTA3 := hTA2.frame f3 (by omega)
    have hA3 := hA2.frame f3 hxg.symm (fun b hb h => hsg (h ▸ hb))
    have F3 := F2.trans f3 (fun b _ h => .inr (.inr h))
    have lA3 := hTA3.lt
    have a0 := hTA3.cell (o := 0) (by omega)
    have a1 := hTA3.cell (o := 1) (by omega)
    have a2 := hTA3.cell (o := 2) (by omega)
    have a3 := hTA3.cell (o := 3) (by omega)
    have a4 := hTA3.cell (o := 4) (by omega)
    simp only [trF5] at a0 a1 a2 a3 a4
    rcases hoo with ⟨e', rfl, rfl, rfl⟩ | ⟨⟨t, rfl⟩, rfl, rfl⟩
    · obtain rfl : v = .returned (trErr e') := hP2
      have fB := (Fr.refl (fun _ => False) w3).alloc (.cells #[.slice none 0 0, .int .i64 (-1), .int .i64 0, .int .i64 e'.1, .int .i64 (e'.2 : Nat)] 41)
      unfold trErr
      go_wp2_with fail
      go_ret
      exact ⟨rfl, hA3.frame fB (fun h => h) (fun _ _ h => h), hG3.frame fB (fun h => h), F3.trans fB (fun _ _ h => h.elim)⟩
    · obtain ⟨ns, y, g⟩ := t
      obtain ⟨b, hb, rfl, f, hbB, hbf⟩ := hP2
      have fB := (Fr.refl (fun _ => False) w3).alloc (.cells #[.slice (some ⟨b, 0, none⟩) ns.length ns.length, .int .i64 (y : Nat), .int .i64 (g : Nat), .int .i64 0, .int .i64 0] 41)
      go_wp2_with fail
      go_ret
      exact ⟨rfl, hA3.frame fB (fun h => h) (fun _ _ h => h), hG3.frame fB (fun h => h), F3.trans fB (fun _ _ h => h.elim)⟩
  · rw [hco] at hP1
    obtain ⟨b, hb, rfl, f, hbB, hbf⟩ := hP1
    have hK := keepOk HM1.out
    obtain ⟨hT, hg⟩ := ModelL.tree HM1.out
    have hyl : y < ns.length := by have := hT.root; omega
    obtain ⟨⟨r, r', hI, hW, hI', hW', hEq⟩, hwf, hchk⟩ := hK
    clear hco
    obtain ⟨cl, Hcl⟩ : ∃ cl, Hid (cl = coreL ns y) := ⟨_, rfl⟩
    rw [← Hcl.out] at hI' hwf hchk hbB hbf hcl ⊢
    have hNb := hbf.at hbB (Nat.le_refl _)
    have hbl := hbB.lt
    have hb' : w.heap.size + 1 ≤ b := by simpa using hb
    have fA := (Fr.refl (fun _ => False) w1).alloc (.cells #[.slice (some ⟨b, 0, none⟩) cl.length cl.length, .int .i64 ((cl.length - 1 : Nat) : Int), .int .i64 (g : Nat), .int .i64 0, .int .i64 0] 41)
    have hTA := (Blk.tv w1 (.slice (some ⟨b, 0, none⟩) cl.length cl.length) (.int .i64 ((cl.length - 1 : Nat) : Int)) (.int .i64 (g : Nat)) (.int .i64 0) (.int .i64 0))
    have hSo := sound_ok (cp := cl.length) (hNb.frame fA (fun h => h)) (by rw [World.size_alloc]; omega) hcl.1 hcl.2 hg hwf hchk
    have HSo : Hid _ := hSo
    have HcL : Hid _ := hcl
    have HI' : Hid _ := hI'
    have HI : Hid _ := hI
    clear hSo hcl hI' hI hchk hwf hb
    go_wp2_with fail
    refine Calls.mono HSo.out ?_
    rintro v w2 ⟨rfl, f2⟩
    have kA := fA.trans f2 (fun _ _ h => h)
    have hTA2 := hTA.frame f2 (fun h => h)
    have hbb2 := hbb1.frame kA (fun h => h)
    have hA2 := hA1.frame kA (fun h => h) (fun _ _ h => h)
    have hG2 := hG1.frame kA (fun h => h)
    have hN2 := hNb.frame kA (fun h => h)
    have F2 := F1.trans kA (fun _ _ h => h.elim)
    have hw2 := kA.size
    have b0 := hbb2.cell (o := 0) (by omega)
    have lb := hbb2.lt
    have lA := hTA2.lt
    clear HSo
    go_wp2_with fail
    refine (parseR_any (p := p) hG2).mono ?_
    rintro v w3 ⟨o2, hE2, hP2, hG3, f3⟩
    have hoe := answersK hE2 HM1.out
    subst hoe
    obtain ⟨b2, hb2, rfl, ff, hbB2, hbf2⟩ := hP2
    have hN3 := hN2.frame f3 (by omega)
    have hTA3 := hTA2.frame f3 (by omega)
    have hA3 := hA2.frame f3 hxg.symm (fun b hb h => hsg (h ▸ hb))
    have F3 := F2.trans f3 (fun b _ h => .inr (.inr h))
    have lA3 := hTA3.lt
    have hNs := hbf2.at hbB2 (Nat.le_refl _)
    have lb2 := hbB2.lt
    have fB := (Fr.refl (fun _ => False) w3).alloc (.cells #[.slice (some ⟨b2, 0, none⟩) ns.length ns.length, .int .i64 (y : Nat), .int .i64 (g : Nat), .int .i64 0, .int .i64 0] 41)
    have hTB := (Blk.tv w3 (.slice (some ⟨b2, 0, none⟩) ns.length ns.length) (.int .i64 (y : Nat)) (.int .i64 (g : Nat)) (.int .i64 0) (.int .i64 0))
    have hw3 := f3.size
    have a0 := hTA3.cell (o := 0) (by omega)
    have a1 := hTA3.cell (o := 1) (by omega)
    have a2 := hTA3.cell (o := 2) (by omega)
    have a3 := hTA3.cell (o := 3) (by omega)
    have a4 := hTA3.cell (o := 4) (by omega)
    simp only [trF5] at a0 a1 a2 a3 a4
    have hL1 := left_any (s := sub) (cp := cl.length) (g := (g : Nat)) HI'.out hW' (hN3.frame fB (fun h => h)) (by rw [World.size_alloc]; omega) fr
    rw [← lfO_congr (hEq sub)] at hL1
    obtain ⟨le, Hle⟩ : ∃ le, Hid (le = lfE sub fr) := ⟨_, rfl⟩
    obtain ⟨lo, Hlo⟩ : ∃ lo, Hid (lo = okOf (lfO sub fr (wy sub r))) := ⟨_, rfl⟩
    obtain ⟨lc, Hlc⟩ : ∃ lc, Hid (lc = cpOf (lfO sub fr (wy sub r))) := ⟨_, rfl⟩
    rw [← Hle.out, ← Hlo.out, ← Hlc.out] at hL1
    have HL1 : Hid _ := hL1
    clear hL1
    go_wp2_with fail
    refine Calls.mono HL1.out ?_
    rintro v w4 ⟨rfl, f4⟩
    have hTB4 := hTB.frame f4 (fun h => h)
    have k4 := fB.trans f4 (fun _ _ h => h)
    have fC := (Fr.refl (fun _ => False) w4).alloc (.cells #[.int .i64 le, .int .i64 0, .bool lo, .int .i64 (lc 0), .int .i64 (lc 1), .int .i64 (lc 2), .int .i64 (lc 3), .int .i64 (lc 4), .int .i64 (lc 5), .int .i64 (lc 6), .int .i64 (lc 7)] 59)
    have hFa := Blk.found w4 le lo lc
    have lB4 := hTB4.lt
    have c0 := hTB4.cell (o := 0) (by omega)
    have c1 := hTB4.cell (o := 1) (by omega)
    have c2 := hTB4.cell (o := 2) (by omega)
    have c3 := hTB4.cell (o := 3) (by omega)
    have c4 := hTB4.cell (o := 4) (by omega)
    simp only [trF5] at c0 c1 c2 c3 c4
    have hL2 := left_any (s := sub) (cp := ns.length) (g := (g : Nat)) HI.out hW ((hNs.frame k4 (fun h => h)).frame fC (fun h => h)) (by rw [World.size_alloc]; have := k4.size; omega) fr
    rw [← Hle.out, ← Hlo.out, ← Hlc.out] at hL2
    have HL2 : Hid _ := hL2
    clear hL2
    unfold foundV
    go_wp2_with fail
    refine Calls.mono HL2.out ?_
    rintro v w5 ⟨rfl, f5⟩
    have hFa5 := hFa.frame f5 (fun h => h)
    have k5 := (k4.trans fC (fun _ _ h => h)).trans f5 (fun _ _ h => h)
    have fD := (Fr.refl (fun _ => False) w5).alloc (.cells #[.int .i64 le, .int .i64 0, .bool lo, .int .i64 (lc 0), .int .i64 (lc 1), .int .i64 (lc 2), .int .i64 (lc 3), .int .i64 (lc 4), .int .i64 (lc 5), .int .i64 (lc 6), .int .i64 (lc 7)] 59)
    have lF := hFa5.lt
    have z0 := hFa5.cell (o := 0) (by omega)
    have z1 := hFa5.cell (o := 1) (by omega)
    have z2 := hFa5.cell (o := 2) (by omega)
    have z3 := hFa5.cell (o := 3) (by omega)
    have z4 := hFa5.cell (o := 4) (by omega)
    have z5 := hFa5.cell (o := 5) (by omega)
    have z6 := hFa5.cell (o := 6) (by omega)
    have z7 := hFa5.cell (o := 7) (by omega)
    have z8 := hFa5.cell (o := 8) (by omega)
    have z9 := hFa5.cell (o := 9) (by omega)
    have z10 := hFa5.cell (o := 10) (by omega)
    simp only [foundF] at z0 z1 z2 z3 z4 z5 z6 z7 z8 z9 z10
    have hSF := sameFound_any le 0 lo lc (w5.alloc (.cells #[.int .i64 le, .int .i64 0, .bool lo, .int .i64 (lc 0), .int .i64 (lc 1), .int .i64 (lc 2), .int .i64 (lc 3), .int .i64 (lc 4), .int .i64 (lc 5), .int .i64 (lc 6), .int .i64 (lc 7)] 59))
    unfold foundV at hSF
    have HSF : Hid _ := hSF
    clear hSF
    unfold foundV
    go_wp2_with fail
    refine Calls.mono HSF.out ?_
    rintro v w6 ⟨rfl, f6⟩
    have k6 := (k5.trans fD (fun _ _ h => h)).trans f6 (fun _ _ h => h)
    go_wp2_with fail
    go_ret
    exact ⟨rfl, hA3.frame k6 (fun h => h) (fun _ _ h => h), hG3.frame k6 (fun h => h), F3.trans k6 (fun _ _ h => h.elim)⟩
end Go.Proofs.Qxb6500286a
