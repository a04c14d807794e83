/- Core. -/
import Derived.Test.Qxb6500283aGreatW10
namespace Go.Proofs.Qxb6500283aGreat
open Go Go.RowKit

def trF (v0 v1 v2 v3 v4 : Value) (j : Nat) : Value := match j with | 0 => v0 | 1 => v1 | 2 => v2 | 3 => v3 | _ => v4
theorem Blk.tr5 (w : World) (v0 v1 v2 v3 v4 : Value) : Blk (w.alloc (.cells #[v0, v1, v2, v3, v4] 148)) w.heap.size 5 (trF v0 v1 v2 v3 v4) :=
  Blk.new w _ _ _ fun o ho => by
    rcases lt5 (show o < 5 by simpa using ho) with rfl | rfl | rfl | rfl | rfl <;> rfl
theorem SM.out {w : World} {s x : Nat} {out : List Nd} {ws : List Tk} {rs : List Nat} (h : SM w s x out ws rs) : w.cell? ⟨s, 3, none⟩ = some (.slice (some ⟨s + 3, 0, none⟩) 31 31) ∧ ∃ fo, Blk w (s + 3) 341 fo ∧ Holds11 fo out := by
  obtain ⟨g, fo, fw, fr, hB, hL, hO, ho, hW, hw, hR, hr⟩ := h
  exact ⟨by rw [hB.cell (by omega), hL.o3], fo, hO, ho⟩
set_option maxRecDepth 100000 in
set_option maxHeartbeats 16000000 in
theorem core_any {w : World} {s x : Nat} (hA : SAny w s x) (p : ByteArray) : Calls Tryz.prog 68 #[.pointer (some ⟨s, 0, none⟩), .string p] w fun v w' => ∃ o, ModelL p o ∧ ParsePost w (coreO o) v w' ∧ SAny w' s x ∧ Fr (fun b => b = x ∨ SAt s b) w w' := by
  have hA0 := hA
  obtain ⟨⟨out, hout, hS⟩, hZ, hX, hsx⟩ := hA
  have hsl := hS.cells.2.2.2.2
  have hxl : x < w.heap.size := by
    obtain ⟨f, iv, ns, g, t, r, e, q, hb, _⟩ := hX
    exact hb.lt
  have hR1 := Blk.tr w (.slice none 0 0)
  have k1 : Fr (fun _ => False) w (w.alloc (.cells #[.slice none 0 0, .int .i64 0, .int .i64 0, .int .i64 0, .int .i64 0] 148)) := (Fr.refl _ _).alloc _
  have hA1 := hA0.frame k1 (fun h => h) (fun _ _ h => h)
  go_enter Tryz.func68, Tryz.ntmps68
  by_cases hbig : 128 < p.size
  · have hbig' : (128 : Int) < p.size := by omega
    go_wp2_with fail
    refine (refused_any _ 12 0).mono ?_
    rintro v w2 ⟨rfl, f2⟩
    have hR2 := hR1.frame f2 (fun h => h)
    have hAx := hA1.frame f2 (fun h => h) (fun _ _ h => h)
    have F2 : Fr (fun b => b = x ∨ SAt s b) w w2 := (k1.trans f2 (fun _ _ h => h)).mono (fun _ _ h => h.elim)
    have lR := hR2.lt
    have zR := hR2.frozen
    have m0 := hR2.cell (o := 0) (by omega)
    have m1 := hR2.cell (o := 1) (by omega)
    have m2 := hR2.cell (o := 2) (by omega)
    have m3 := hR2.cell (o := 3) (by omega)
    have m4 := hR2.cell (o := 4) (by omega)
    unfold trErr
    go_wp2_with fail
    obtain ⟨r0, r1, r2, r3, r4⟩ := tail_cells0 hR2 (.slice none 0 0) (.int .i64 (-1)) (.int .i64 0) (.int .i64 12) (.int .i64 0)
    have FR := ((((((Fr.refl (fun b => b = w.heap.size) w2).setC w.heap.size 0 (.slice none 0 0) (fun _ => rfl)).setC w.heap.size 1 (.int .i64 (-1)) (fun _ => rfl)).setC w.heap.size 2 (.int .i64 0) (fun _ => rfl)).setC w.heap.size 3 (.int .i64 12) (fun _ => rfl)).setC w.heap.size 4 (.int .i64 0) (fun _ => rfl))
    exact bodyPost_ret (v := trErr ((12, 0) : Er)) (by simp [results, Tryz.results68, go_sem, trErr, r0, r1, r2, r3, r4]) rfl ⟨.error (12, 0), .inl ⟨hbig, rfl⟩, rfl, hAx.frame FR (by omega) (fun b hb h => by unfold SAt at hb; omega), F2.trans FR (fun b hb h => by omega)⟩

  · have hbig' : (p.size : Int) ≤ 128 := by omega
    have hbd : decide ((128 : Int) < p.size) = false := decide_eq_false (by omega)
    clear hbig
    obtain ⟨_, _, hX1, _⟩ := hA1
    have hS1 := hS.frame k1 (fun _ _ h => h)
    have hZ1 := hZ.frame k1 (fun h => h) (fun h => h)
    have c0 := hS1.cells.1
    have l1 := hR1.lt
    go_wp2_with fail
    refine (parseR_any hX1).mono ?_
    rintro v w2 ⟨o, hE, hP, hX2, f2⟩
    have hM := hE.model w2
    clear hE c0
    have hR2 := hR1.frame f2 (by omega)
    have hS2 := hS1.frame f2 (fun b hb h => hsx (by subst h; unfold SBld at hb; unfold SAt; omega))
    have hZ2 := hZ1.frame f2 (fun h => hsx (by unfold SAt; omega)) (fun h => hsx (by unfold SAt; omega))
    have F2 : Fr (fun b => b = x ∨ SAt s b) w w2 := (k1.mono (fun _ _ h => h.elim)).trans f2 (fun b _ h => .inl h)
    have l2 := hR2.lt
    cases o with
    | error e =>
      obtain rfl : v = .returned (trErr e) := hP
      have he := hM.err
      have te : (e.1 == 0) = false := by simpa using he
      have te' : (e.1 != 0) = true := by simpa using he
      have k3 : Fr (fun _ => False) w2 (w2.alloc (.cells #[.slice none 0 0, .int .i64 (-1), .int .i64 0, .int .i64 e.1, .int .i64 (e.2 : Nat)] 148)) := (Fr.refl _ _).alloc _
      have hAx0 : SAny w2 s x := ⟨⟨out, hout, hS2⟩, hZ2, hX2, hsx⟩
      unfold trErr
      go_wp2_with fail
      refine (refused_any _ e.1 e.2).mono ?_
      rintro v w3 ⟨rfl, f3⟩
      have hR3 := (hR2.frame k3 (fun h => h)).frame f3 (fun h => h)
      have hAx := (hAx0.frame k3 (fun h => h) (fun _ _ h => h)).frame f3 (fun h => h) (fun _ _ h => h)
      have F3 := (F2.trans k3 (fun _ _ h => h.elim)).trans f3 (fun _ _ h => h.elim)
      have lR := hR3.lt
      have zR := hR3.frozen
      have m0 := hR3.cell (o := 0) (by omega)
      have m1 := hR3.cell (o := 1) (by omega)
      have m2 := hR3.cell (o := 2) (by omega)
      have m3 := hR3.cell (o := 3) (by omega)
      have m4 := hR3.cell (o := 4) (by omega)
      unfold trErr
      go_wp2_with fail
      obtain ⟨r0, r1, r2, r3, r4⟩ := tail_cells0 hR3 (.slice none 0 0) (.int .i64 (-1)) (.int .i64 0) (.int .i64 (e).1) (.int .i64 ((e).2 : Nat))
      have FR := ((((((Fr.refl (fun b => b = w.heap.size) w3).setC w.heap.size 0 (.slice none 0 0) (fun _ => rfl)).setC w.heap.size 1 (.int .i64 (-1)) (fun _ => rfl)).setC w.heap.size 2 (.int .i64 0) (fun _ => rfl)).setC w.heap.size 3 (.int .i64 (e).1) (fun _ => rfl)).setC w.heap.size 4 (.int .i64 ((e).2 : Nat)) (fun _ => rfl))
      exact bodyPost_ret (v := trErr (e)) (by simp [results, Tryz.results68, go_sem, trErr, r0, r1, r2, r3, r4]) rfl ⟨.error e, hM, rfl, hAx.frame FR (by omega) (fun b hb h => by unfold SAt at hb; omega), F3.trans FR (fun b hb h => by omega)⟩

    | ok t =>
      obtain ⟨ns, y, g⟩ := t
      obtain ⟨b, hb, rfl, f, hbB, hbf⟩ := hP
      obtain ⟨hT, hg⟩ := hM.tree
      have hyl : y < ns.length := by have := hT.root; omega
      have hyI : (y : Int) ≤ 23 := by have := hT.root; have := hT.len; omega
      have HM : Hid _ := hM
      clear hM
      have hb' : w.heap.size + 1 ≤ b := by simpa using hb
      have hbl := hbB.lt
      have k3 : Fr (fun _ => False) w2 (w2.alloc (.cells #[.slice (some ⟨b, 0, none⟩) ns.length ns.length, .int .i64 (y : Nat), .int .i64 (g : Nat), .int .i64 0, .int .i64 0] 148)) := (Fr.refl _ _).alloc _
      have hT3 := Blk.tr5 w2 (.slice (some ⟨b, 0, none⟩) ns.length ns.length) (.int .i64 (y : Nat)) (.int .i64 (g : Nat)) (.int .i64 0) (.int .i64 0)
      have hR3 := hR2.frame k3 (fun h => h)
      have hS3 := hS2.frame k3 (fun _ _ h => h)
      have hZ3 := hZ2.frame k3 (fun h => h) (fun h => h)
      have hX3 := hX2.frame k3 (fun h => h)
      have hN3 : NM (w2.alloc (.cells #[.slice (some ⟨b, 0, none⟩) ns.length ns.length, .int .i64 (y : Nat), .int .i64 (g : Nat), .int .i64 0, .int .i64 0] 148)) b ns := ⟨f, hbB.frame k3 (fun h => h), hbf⟩
      have F3 := F2.trans k3 (fun _ _ h => h.elim)
      go_wp2_with fail
      refine (measure_any hS3 (hZ3.zero ns) hN3 (by omega) hT.len hT.wf hT.rb).mono ?_
      rintro v w4 ⟨rfl, hZ4, f4⟩
      have hS4 := hS3.frame f4 (fun b hb h => by unfold SBld at hb; omega)
      have hX4 := hX3.frame f4 (fun h => hsx (by unfold SAt; omega))
      have hN4 := hN3.frame f4 (by omega)
      have hR4 := hR3.frame f4 (by omega)
      have hT4 := hT3.frame f4 (by omega)
      have F4 := F3.trans f4 (fun b _ h => .inr (by unfold SAt; omega))
      have c2 := hS4.cells.2.2.1
      have c4 := hZ4.size hyl hT.len
      have t0 := hT4.cell (o := 0) (by omega)
      have t1 := hT4.cell (o := 1) (by omega)
      simp only [trF] at t0 t1
      have l4 := hT4.lt
      have q4 : s + 2 < w4.heap.size := by omega
      have q5 : s < w4.heap.size := by omega
      by_cases hbz : 31 < (zz ns y).2
      · have zd : decide ((31 : Int) < ((zz ns y).2 : Nat)) = true := decide_eq_true (by omega)
        have zi : (31 : Int) < ((zz ns y).2 : Nat) := by omega
        have HO : Hid (coreO (.ok (ns, y, g)) = .error (8, 0)) := if_pos hbz
        have hAx0 : SAny w4 s x := ⟨⟨out, hout, hS4⟩, hZ4.zero' _, hX4, hsx⟩
        have hAd : SAny w4.drew s x := hAx0.frame ((Fr.refl (fun _ => False) w4).drew) (fun h => h) (fun _ _ h => h)
        have hRd : Blk w4.drew w.heap.size 5 _ := hR4.drew
        have FD := F4.drew
        go_wp2_with fail
        refine wp_region_text (by kernel_rfl) (by kernel_rfl) ?_
        go_wp2_with fail
        refine ⟨by kernel_rfl, ?_⟩
        go_wp2_with fail
        refine (refused_any _ 8 0).mono ?_
        rintro v w5 ⟨rfl, f5⟩
        have hR5 := hRd.frame f5 (fun h => h)
        have hAx := hAd.frame f5 (fun h => h) (fun _ _ h => h)
        have F5 := FD.trans f5 (fun _ _ h => h.elim)
        clear c2 c4 t0 t1
        have lR := hR5.lt
        have zR := hR5.frozen
        have m0 := hR5.cell (o := 0) (by omega)
        have m1 := hR5.cell (o := 1) (by omega)
        have m2 := hR5.cell (o := 2) (by omega)
        have m3 := hR5.cell (o := 3) (by omega)
        have m4 := hR5.cell (o := 4) (by omega)
        unfold trErr
        go_wp2_with fail
        obtain ⟨r0, r1, r2, r3, r4⟩ := tail_cells0 hR5 (.slice none 0 0) (.int .i64 (-1)) (.int .i64 0) (.int .i64 8) (.int .i64 0)
        have FR := ((((((Fr.refl (fun b => b = w.heap.size) w5).setC w.heap.size 0 (.slice none 0 0) (fun _ => rfl)).setC w.heap.size 1 (.int .i64 (-1)) (fun _ => rfl)).setC w.heap.size 2 (.int .i64 0) (fun _ => rfl)).setC w.heap.size 3 (.int .i64 8) (fun _ => rfl)).setC w.heap.size 4 (.int .i64 0) (fun _ => rfl))
        exact bodyPost_ret (v := trErr ((8, 0) : Er)) (by simp [results, Tryz.results68, go_sem, trErr, r0, r1, r2, r3, r4]) rfl ⟨.ok (ns, y, g), HM.out, (by rw [HO.out]; rfl), hAx.frame FR (by omega) (fun b hb h => by unfold SAt at hb; omega), F5.trans FR (fun b hb h => by omega)⟩

      · have zd : decide ((31 : Int) < ((zz ns y).2 : Nat)) = false := decide_eq_false (by omega)
        have zi : (((zz ns y).2 : Nat) : Int) ≤ 31 := by omega
        have hlen := coreL_len hT (by omega)
        have HO : Hid (coreO (.ok (ns, y, g)) = .ok (coreL ns y, (coreL ns y).length - 1, g)) := if_neg hbz
        have hk4 : Fr (fun _ => False) w4 w4.drew := (Fr.refl _ w4).drew
        have hbu := buildS_any (ncap := ns.length) (hS4.frame hk4 (fun _ _ h => h)) (hZ4.frame hk4 (fun h => h) (fun h => h)) (hN4.frame hk4 (fun h => h)) (by unfold SBld; omega) hT.len hT.wf hT.rb hT.cb hyl (by omega)
        have hbu : Calls Tryz.prog 86 #[.pointer (some ⟨s, 0, none⟩), .slice (some ⟨b, 0, none⟩) ns.length ns.length, .int .i64 (y : Nat)] w4.drew fun v w' => v = .returned (.tuple #[]) ∧ SM w' s x (coreL ns y) [] [] ∧ Fr (fun b => SBld s b) w4.drew w' := hbu
        have HB : Hid _ := hbu
        clear hbu
        obtain ⟨cl, HC⟩ : ∃ cl, Hid (cl = coreL ns y) := ⟨_, rfl⟩
        rw [← HC.out] at HB HO hlen
        go_wp2_with fail
        refine wp_region_text (by kernel_rfl) (by kernel_rfl) ?_
        go_wp2_with fail
        refine ⟨by kernel_rfl, ?_⟩
        go_wp2_with fail
        refine Calls.mono HB.out ?_
        rintro v w5 ⟨rfl, hS5, f5⟩
        have f5 := hk4.mono (S' := fun b => SBld s b) (fun _ _ h => h.elim) |>.trans f5 (fun _ _ h => h)
        have hX5 := hX4.frame f5 (fun h => hsx (by unfold SBld at h; unfold SAt; omega))
        have hZ5 := hZ4.bld f5
        have hR5 := hR4.frame f5 (by unfold SBld; omega)
        have hT5 := hT4.frame f5 (by unfold SBld; omega)
        have F5 := F4.trans f5 (fun b _ h => .inr (by unfold SBld at h; unfold SAt; omega))
        clear c2 c4 t0 t1
        have d4 := hS5.cells.2.2.2.1
        obtain ⟨d3, fo, hO5, hfo⟩ := hS5.out
        have l5 := hT5.lt
        have q6 : s + 3 < w5.heap.size := by omega
        have q7 : s < w5.heap.size := by omega
        have hlenI : (cl.length : Int) ≤ 31 := by omega
        have hlenI1 : (1 : Int) ≤ cl.length := by omega
        go_wp2_with (refine wpList_makeB (by rfl) 106 _ _ (by rfl) 97 11 88 nd0V cl.length (by rfl) (by rfl) Tryz.underlying106 (by kernel_rfl) (by kernel_rfl) (by kernel_rfl) (by omega) (by omega) ?_; intro w6 f6 z6 b6)
        have hS6 := hS5.frame f6 (fun _ _ h => h)
        have hX6 := hX5.frame f6 (fun h => h)
        have hZ6 := hZ5.frame f6 (fun h => h) (fun h => h)
        have hR6 := hR5.frame f6 (fun h => h)
        have hT6 := hT5.frame f6 (fun h => h)
        have hO6 := hO5.frame f6 (fun h => h)
        have F6 := F5.trans f6 (fun _ _ h => h.elim)
        have e4 := hS6.cells.2.2.2.1
        have e3 := hS6.out.1
        have l6 := hT6.lt
        have q8 : s + 3 < w6.heap.size := by omega
        have q9 : s < w6.heap.size := by omega
        clear d3 d4
        have hn31 : cl.length * 11 ≤ 341 := by omega
        refine wp_region_text (by kernel_rfl) (by kernel_rfl) ?_
        go_wp2_with (refine wpList_copyA (by rfl) _ _ 106 106 (by rfl) 97 11 w5.heap.size 0 cl.length cl.length (s + 3) 0 cl.length 31 (cl.length * 11) 341 cl.length _ fo (by rfl) (by rfl) Tryz.underlying106 (by kernel_rfl) (by simp) b6 hO6 (by omega) (by omega) (fun j hj => by rw [Nat.zero_add]; exact hfo.one j hj) ?_; intro w7 f7 b7)
        refine ⟨by kernel_rfl, ?_⟩
        have kd : Fr (fun _ => False) w6 w6.drew := (Fr.refl _ w6).drew
        have f7 := (kd.mono (S' := fun b => b = w5.heap.size) (fun _ _ h => h.elim)).trans f7 (fun _ _ h => h)
        have hW5 : s + 5 < w5.heap.size := by omega
        have hX7 := hX6.frame f7 (by omega)
        have hS7 := hS6.frame f7 (fun b hb h => by unfold SBld at hb; omega)
        have hZ7 := hZ6.frame f7 (by omega) (by omega)
        have hR7 := hR6.frame f7 (by omega)
        have hT7 := hT6.frame f7 (by omega)
        have F7 := F6.trans f7 (fun b hb h => by omega)
        clear e3 e4
        have g4 := hS7.cells.2.2.2.1
        have u2 := hT7.cell (o := 2) (by omega)
        simp only [trF] at u2
        have l7 := hT7.lt
        have q10 : s < w7.heap.size := by omega
        have lR := hR7.lt
        have zR := hR7.frozen
        have m0 := hR7.cell (o := 0) (by omega)
        have m1 := hR7.cell (o := 1) (by omega)
        have m2 := hR7.cell (o := 2) (by omega)
        have m3 := hR7.cell (o := 3) (by omega)
        have m4 := hR7.cell (o := 4) (by omega)
        have hAx0 : SAny w7 s x := ⟨⟨cl, hlen.2, hS7⟩, hZ7.zero' _, hX7, hsx⟩
        have Z6 : Hid _ := z6
        clear z6
        go_wp2_with fail
        refine wp_region_text (by kernel_rfl) (by kernel_rfl) ?_
        go_wp2_with fail
        refine ⟨by kernel_rfl, ?_⟩
        go_wp2_with fail
        have hcast : (cl.length : Int) - 1 = ((cl.length - 1 : Nat) : Int) := by omega
        rw [hcast]
        obtain ⟨r0, r1, r2, r3, r4⟩ := tail_cells hR7 (.slice (some ⟨w5.heap.size, 0, none⟩) cl.length cl.length) (.int .i64 ((cl.length - 1 : Nat) : Int)) (.int .i64 (g : Nat)) (.int .i64 0) (.int .i64 0)
        have FR := (((((((Fr.refl (fun b => b = w.heap.size) w7).setC w.heap.size 0 (.slice (some ⟨w5.heap.size, 0, none⟩) cl.length cl.length) (fun _ => rfl)).setC w.heap.size 1 (.int .i64 ((cl.length - 1 : Nat) : Int)) (fun _ => rfl)).setC w.heap.size 2 (.int .i64 (g : Nat)) (fun _ => rfl)).setC w.heap.size 3 (.int .i64 0) (fun _ => rfl)).setC w.heap.size 4 (.int .i64 0) (fun _ => rfl))).drew
        exact bodyPost_ret (v := .agg #[.slice (some ⟨w5.heap.size, 0, none⟩) cl.length cl.length, .int .i64 ((cl.length - 1 : Nat) : Int), .int .i64 (g : Nat), .int .i64 0, .int .i64 0]) (by simp [results, Tryz.results68, go_sem, r0, r1, r2, r3, r4]) rfl ⟨.ok (ns, y, g), HM.out, (by rw [HO.out]; exact ⟨w5.heap.size, by omega, rfl, _, b7.frame FR (by omega), hfo.laid⟩), hAx0.frame FR (by omega) (fun b hb h => by unfold SAt at hb; omega), F7.trans FR (fun b hb h => by omega)⟩
end Go.Proofs.Qxb6500283aGreat
