/- The real Parse. -/
import Derived.Test.Qxb6500283aGreatB10b
import Derived.Test.Qxb6500283aGreatC3
namespace Go.Proofs.Qxb6500283aGreat
open Go Go.RowKit

def trErr (e : Er) : Value := .agg #[.slice none 0 0, .int .i64 (-1), .int .i64 0, .int .i64 e.1, .int .i64 (e.2 : Nat)]
def ParsePost (w : World) (o : Ans) (v : Ending) (w' : World) : Prop :=
  match o with
  | .error e => v = .returned (trErr e)
  | .ok (ns, y, g) => ∃ b, w.heap.size ≤ b ∧ v = .returned (.agg #[.slice (some ⟨b, 0, none⟩) ns.length ns.length, .int .i64 (y : Nat), .int .i64 (g : Nat), .int .i64 0, .int .i64 0]) ∧ ∃ f, Blk w' b (ns.length * 11) f ∧ Holds11 f ns
def EndsL (p : ByteArray) (o : Ans) : Prop := (128 < p.size ∧ o = .error (12, 0)) ∨ (p.size ≤ 128 ∧ Ends p rs0 o)
theorem RAny.setP {w : World} {x : Nat} {p p' : ByteArray} (h : RAny w x p) : RAny (w.setCell ⟨x, 0, none⟩ (.string p')) x p' := by
  obtain ⟨f, iv, ns, g, t, r, e, q, hb, hL, h2⟩ := h
  exact ⟨_, iv, ns, g, t, r, e, q, hb.set 0 _, hL.setP, h2⟩
theorem RAny.frame {S : Nat → Prop} {w w' : World} {x : Nat} {p : ByteArray} (h : RAny w x p) (k : Fr S w w') (hx : ¬ S x) : RAny w' x p := by
  obtain ⟨f, iv, ns, g, t, r, e, q, hb, hL, h2⟩ := h
  exact ⟨f, iv, ns, g, t, r, e, q, hb.frame k hx, hL, h2⟩
/-- The tail of Parse behind an error. -/
theorem tail_cells {w : World} {b : Nat} {f : Nat → Value} (h : Blk w b 5 f) (v0 v1 v2 v3 v4 : Value) : (((((w.setCell ⟨b, 0, none⟩ v0).setCell ⟨b, 1, none⟩ v1).setCell ⟨b, 2, none⟩ v2).setCell ⟨b, 3, none⟩ v3).setCell ⟨b, 4, none⟩ v4).drew.cell? ⟨b, 0, none⟩ = some v0 ∧
    (((((w.setCell ⟨b, 0, none⟩ v0).setCell ⟨b, 1, none⟩ v1).setCell ⟨b, 2, none⟩ v2).setCell ⟨b, 3, none⟩ v3).setCell ⟨b, 4, none⟩ v4).drew.cell? ⟨b, 1, none⟩ = some v1 ∧
    (((((w.setCell ⟨b, 0, none⟩ v0).setCell ⟨b, 1, none⟩ v1).setCell ⟨b, 2, none⟩ v2).setCell ⟨b, 3, none⟩ v3).setCell ⟨b, 4, none⟩ v4).drew.cell? ⟨b, 2, none⟩ = some v2 ∧
    (((((w.setCell ⟨b, 0, none⟩ v0).setCell ⟨b, 1, none⟩ v1).setCell ⟨b, 2, none⟩ v2).setCell ⟨b, 3, none⟩ v3).setCell ⟨b, 4, none⟩ v4).drew.cell? ⟨b, 3, none⟩ = some v3 ∧
    (((((w.setCell ⟨b, 0, none⟩ v0).setCell ⟨b, 1, none⟩ v1).setCell ⟨b, 2, none⟩ v2).setCell ⟨b, 3, none⟩ v3).setCell ⟨b, 4, none⟩ v4).drew.cell? ⟨b, 4, none⟩ = some v4 := by
  have h5 := (((((h.set 0 v0).set 1 v1).set 2 v2).set 3 v3).set 4 v4).drew
  refine ⟨?_, ?_, ?_, ?_, ?_⟩
  · have := h5.cell (o := 0) (by omega); simpa [upd] using this
  · have := h5.cell (o := 1) (by omega); simpa [upd] using this
  · have := h5.cell (o := 2) (by omega); simpa [upd] using this
  · have := h5.cell (o := 3) (by omega); simpa [upd] using this
  · have := h5.cell (o := 4) (by omega); simpa [upd] using this
set_option maxRecDepth 100000 in
set_option maxHeartbeats 16000000 in
theorem parseR_any {w : World} {x : Nat} {p : ByteArray} (hA : RAny w x ⟨#[]⟩) : Calls Tryz.prog 84 #[.pointer (some ⟨x, 0, none⟩), .string p] w fun v w' => ∃ o, EndsL p o ∧ ParsePost w o v w' ∧ RAny w' x ⟨#[]⟩ ∧ Fr (fun b => b = x) w w' := by
  have hA0 := hA
  obtain ⟨f, iv0, ns0, g0, t0, r0, e0, q0, hb, hL0, hwf0, hl0, hg0, hd0⟩ := hA
  have hxl := hb.lt
  have z := hb.frozen
  go_enter Tryz.func84, Tryz.ntmps84
  by_cases hbig : 128 < p.size
  · have hbig' : (128 : Int) < p.size := by omega
    go_wp2_with fail
    refine bodyPost_ret (v := trErr (12, 0)) (by simp [results, Tryz.results84, go_sem, trErr]) rfl ⟨.error (12, 0), .inl ⟨hbig, rfl⟩, rfl, ?_, ?_⟩
    · exact hA0.frame (S := fun _ => False) ((Fr.refl _ _).alloc _) (fun h => h)
    · exact (Fr.refl _ _).alloc _
  · have hbig' : (p.size : Int) ≤ 128 := by omega
    have hbd : decide ((128 : Int) < p.size) = false := decide_eq_false (by omega)
    have Hs : Hid _ := Nat.not_lt.1 hbig
    clear hbig
    have y0 := hb.cell (o := 0) (by omega)
    have y1 := hb.cell (o := 1) (by omega)
    have y290 := hb.cell (o := 290) (by omega)
    have y321 := hb.cell (o := 321) (by omega)
    have y322 := hb.cell (o := 322) (by omega)
    have y324 := hb.cell (o := 324) (by omega)
    have y323 := hb.cell (o := 323) (by omega)
    have y291 := hb.cell (o := 291) (by omega)
    have y292 := hb.cell (o := 292) (by omega)
    have y293 := hb.cell (o := 293) (by omega)
    have y294 := hb.cell (o := 294) (by omega)
    have y295 := hb.cell (o := 295) (by omega)
    have hbI := ((((((((((((hb.set 0 (.string p)).set 1 (.int .i64 0)).set 290 (.int .i64 0)).set 321 (.int .i64 0)).set 322 (.int .i64 0)).set 324 (.int .i64 0)).set 323 (.int .i64 0)).set 291 (.int .i64 (-1))).set 292 (.int .i64 (-1))).set 293 (.int .i64 (-1))).set 294 (.int .i64 0)).set 295 (.int .i64 0)).alloc (.cells #[.slice none 0 0, .int .i64 0, .int .i64 0, .int .i64 0, .int .i64 0] 148)
    have FI := (((((((((((((Fr.refl (fun b => b = x) w).setC x 0 (.string p) (fun _ => rfl)).setC x 1 (.int .i64 0) (fun _ => rfl)).setC x 290 (.int .i64 0) (fun _ => rfl)).setC x 321 (.int .i64 0) (fun _ => rfl)).setC x 322 (.int .i64 0) (fun _ => rfl)).setC x 324 (.int .i64 0) (fun _ => rfl)).setC x 323 (.int .i64 0) (fun _ => rfl)).setC x 291 (.int .i64 (-1)) (fun _ => rfl)).setC x 292 (.int .i64 (-1)) (fun _ => rfl)).setC x 293 (.int .i64 (-1)) (fun _ => rfl)).setC x 294 (.int .i64 0) (fun _ => rfl)).setC x 295 (.int .i64 0) (fun _ => rfl)).alloc (.cells #[.slice none 0 0, .int .i64 0, .int .i64 0, .int .i64 0, .int .i64 0] 148)
    have hRI := Blk.tr ((((((((((((w.setCell ⟨x, 0, none⟩ (.string p)).setCell ⟨x, 1, none⟩ (.int .i64 0)).setCell ⟨x, 290, none⟩ (.int .i64 0)).setCell ⟨x, 321, none⟩ (.int .i64 0)).setCell ⟨x, 322, none⟩ (.int .i64 0)).setCell ⟨x, 324, none⟩ (.int .i64 0)).setCell ⟨x, 323, none⟩ (.int .i64 0)).setCell ⟨x, 291, none⟩ (.int .i64 (-1))).setCell ⟨x, 292, none⟩ (.int .i64 (-1))).setCell ⟨x, 293, none⟩ (.int .i64 (-1))).setCell ⟨x, 294, none⟩ (.int .i64 0)).setCell ⟨x, 295, none⟩ (.int .i64 0)) (.slice none 0 0)
    simp only [World.size_setCell] at hRI
    have hLI := Lay.fresh (f := _) (p := p) (show (upd (upd (upd (upd (upd (upd (upd (upd (upd (upd (upd (upd f 0 (.string p)) 1 (.int .i64 0)) 290 (.int .i64 0)) 321 (.int .i64 0)) 322 (.int .i64 0)) 324 (.int .i64 0)) 323 (.int .i64 0)) 291 (.int .i64 (-1))) 292 (.int .i64 (-1))) 293 (.int .i64 (-1))) 294 (.int .i64 0)) 295 (.int .i64 0)) 0 = _ by simp [upd]) (by simp [upd]) (by simp [upd]) (fun j hj => by rcases lt5 hj with rfl | rfl | rfl | rfl | rfl <;> simp [upd, frCell, fr0, oi]) (by simp [upd]) (by simp [upd]) (by simp [upd]) (by simp [upd])
    have hMI : RMem _ x p rs0 := ⟨_, 0, hbI, hLI⟩
    go_wp2_with fail
    go_loopg [] p.size (fun gk wr => (∃ T, RMem wr x p T ∧ RsOk p T ∧ (∀ o, Ends p T o → Ends p rs0 o) ∧ T.s.i + gk = p.size ∧ Blk wr w.heap.size 5 (trCell (.slice none 0 0)) ∧ Fr (fun b => b = x) w wr) ∨ (∃ e : Er, RErr wr x p e.1 (e.2 : Nat) ∧ e.1 ≠ 0 ∧ Ends p rs0 (.error e) ∧ Blk wr w.heap.size 5 (trCell (.slice none 0 0)) ∧ Fr (fun b => b = x) w wr))
    case atStart => exact .inl ⟨rs0, hMI, rsOk0 p, fun _ h => h, by simp [rs0], hRI, FI⟩
    case round =>
      clear hbI FI hRI hMI y0 y1 y290 y321 y322 y324 y323 y291 y292 y293 y294 y295 z
      rcases hrel with ⟨T, hM, hT, hE, hig, hR, FJ⟩ | ⟨er, hRe, hne, hEn, hR, FJ⟩
      · have hig' : T.s.i + gk = p.size := hig
        clear hig
        have HE : Hid _ := hE
        clear hE
        obtain ⟨d0, d1, ce, zx, lx⟩ := hM.cells
        have lR := hR.lt
        by_cases hlt : T.s.i < p.size
        · have hltd : decide ((T.s.i : Int) < p.size) = true := decide_eq_true (by omega)
          go_wp2_with fail
          refine (stepR_any hM hT (by have := Hs.out; omega) hlt).mono ?_
          rintro e w1 ⟨rfl, res, hst, f1, hP⟩
          have hR1 := hR.frame f1 (by omega)
          have F1 := FJ.trans f1 (fun _ _ h => h)
          clear d0 d1 ce zx
          cases res with
          | error er =>
            go_wp2_with fail
            go_roundg 0
            case measure => omega
            case rel => exact .inr ⟨er, hP, hst.ne hlt, HE.out _ (Ends.err hlt hst), hR1, F1⟩
          | ok T1 =>
            have hT1 := hT.step hlt hst
            have h1 := hst.lt hlt
            have h2 := hT1.s.i
            go_wp2_with fail
            go_roundg (p.size - T1.s.i)
            case measure => omega
            case rel => exact .inl ⟨T1, hP, hT1, fun o h => HE.out o (Ends.step hlt hst h), by omega, hR1, F1⟩
        · have hltd : decide ((T.s.i : Int) < p.size) = false := decide_eq_false (by omega)
          have hfin : Ends p rs0 (finR T) := HE.out _ (Ends.fin (by omega))
          have HF : Hid _ := hfin
          clear hfin
          go_wp2_with fail
          refine (joinR_any hM hT).mono ?_
          rintro e w1 ⟨rfl, f1, hP⟩
          have hR1 := hR.frame f1 (by omega)
          have F1 := FJ.trans f1 (fun _ _ h => h)
          clear d0 d1 ce zx
          cases hj : joinR T with
          | error er =>
            rw [hj] at hP
            have hRe : RErr w1 x p er.1 (er.2 : Nat) := hP
            have hne : er.1 ≠ 0 := by have := joinR_err hj; omega
            have hEn : Ends p rs0 (.error er) := by have := HF.out; unfold finR at this; rw [hj] at this; exact this
            clear hP
            have hRe' := hRe
            obtain ⟨f9, iv9, ns9, g9, t9, r9, hb9, hL9, hx9⟩ := hRe'
            have c23 := hb9.cell (o := 323) (by omega)
            rw [hL9.er] at c23
            have c24 := hb9.cell (o := 324) (by omega)
            rw [hL9.ps] at c24
            have c00 := hb9.cell (o := 0) (by omega)
            have z9 := hb9.frozen
            have lx9 := hb9.lt
            have lR9 := hR1.lt
            have zR9 := hR1.frozen
            have m0 := hR1.cell (o := 0) (by omega)
            have m1 := hR1.cell (o := 1) (by omega)
            have m2 := hR1.cell (o := 2) (by omega)
            have m3 := hR1.cell (o := 3) (by omega)
            have m4 := hR1.cell (o := 4) (by omega)
            have te : (er.1 == 0) = false := by simpa using hne
            have te' : (er.1 != 0) = true := by simpa using hne
            have HEn : Hid _ := hEn
            clear hEn
            have hRx := hR1.setOther ⟨x, 0, none⟩ (.string ⟨#[]⟩) (show w.heap.size ≠ x by omega)
            have hAE := (RErr.any hRe).setP (p' := ⟨#[]⟩)
            go_wp2_with fail
            refine wp_region_text (by kernel_rfl) (by kernel_rfl) ?_
            go_wp2_with fail
            refine ⟨by kernel_rfl, ?_⟩
            go_wp2_with fail
            obtain ⟨r0, r1, r2, r3, r4⟩ := tail_cells hRx (.slice none 0 0) (.int .i64 (-1)) (.int .i64 0) (.int .i64 er.1) (.int .i64 (er.2 : Nat))
            refine bodyPost_ret (v := trErr er) (by simp [results, Tryz.results84, go_sem, trErr, r0, r1, r2, r3, r4]) rfl ⟨.error er, .inr ⟨Hs.out, HEn.out⟩, rfl, ?_, ?_⟩
            · exact hAE.frame (S := fun b => b = w.heap.size) (((((((Fr.refl (fun b => b = w.heap.size) _).setC w.heap.size 0 _ (fun _ => rfl)).setC w.heap.size 1 _ (fun _ => rfl)).setC w.heap.size 2 _ (fun _ => rfl)).setC w.heap.size 3 _ (fun _ => rfl)).setC w.heap.size 4 _ (fun _ => rfl)).drew) (by omega)
            · exact (((((((F1).setC x 0 _ (fun _ => rfl)).setC w.heap.size 0 _ (fun h => by omega)).setC w.heap.size 1 _ (fun h => by omega)).setC w.heap.size 2 _ (fun h => by omega)).setC w.heap.size 3 _ (fun h => by omega)).setC w.heap.size 4 _ (fun h => by omega)).drew
          | ok T1 =>
            rw [hj] at hP
            have hM1 : RMem w1 x p T1 := hP
            have hT1 := hT.join hj
            obtain ⟨_, _, ce, _, lx1⟩ := hM1.cells
            clear hP
            go_wp2_with fail
            refine (foldR_any hM1 hT1).mono ?_
            rintro e w2 ⟨rfl, f2, hP⟩
            have hR2 := hR1.frame f2 (by omega)
            have F2 := F1.trans f2 (fun _ _ h => h)
            clear ce
            cases hf : foldR T1 with
            | error er =>
              rw [hf] at hP
              have hRe : RErr w2 x p er.1 (er.2 : Nat) := hP
              have hne : er.1 ≠ 0 := by have := foldR_err hf; omega
              have hEn : Ends p rs0 (.error er) := by have := HF.out; unfold finR at this; rw [hj] at this; simp only at this; rw [hf] at this; exact this
              clear hP
              have hRe' := hRe
              obtain ⟨f9, iv9, ns9, g9, t9, r9, hb9, hL9, hx9⟩ := hRe'
              have c23 := hb9.cell (o := 323) (by omega)
              rw [hL9.er] at c23
              have c24 := hb9.cell (o := 324) (by omega)
              rw [hL9.ps] at c24
              have c00 := hb9.cell (o := 0) (by omega)
              have z9 := hb9.frozen
              have lx9 := hb9.lt
              have lR9 := hR2.lt
              have zR9 := hR2.frozen
              have m0 := hR2.cell (o := 0) (by omega)
              have m1 := hR2.cell (o := 1) (by omega)
              have m2 := hR2.cell (o := 2) (by omega)
              have m3 := hR2.cell (o := 3) (by omega)
              have m4 := hR2.cell (o := 4) (by omega)
              have te : (er.1 == 0) = false := by simpa using hne
              have te' : (er.1 != 0) = true := by simpa using hne
              have HEn : Hid _ := hEn
              clear hEn
              have hRx := hR2.setOther ⟨x, 0, none⟩ (.string ⟨#[]⟩) (show w.heap.size ≠ x by omega)
              have hAE := (RErr.any hRe).setP (p' := ⟨#[]⟩)
              go_wp2_with fail
              refine wp_region_text (by kernel_rfl) (by kernel_rfl) ?_
              go_wp2_with fail
              refine ⟨by kernel_rfl, ?_⟩
              go_wp2_with fail
              obtain ⟨r0, r1, r2, r3, r4⟩ := tail_cells hRx (.slice none 0 0) (.int .i64 (-1)) (.int .i64 0) (.int .i64 er.1) (.int .i64 (er.2 : Nat))
              refine bodyPost_ret (v := trErr er) (by simp [results, Tryz.results84, go_sem, trErr, r0, r1, r2, r3, r4]) rfl ⟨.error er, .inr ⟨Hs.out, HEn.out⟩, rfl, ?_, ?_⟩
              · exact hAE.frame (S := fun b => b = w.heap.size) (((((((Fr.refl (fun b => b = w.heap.size) _).setC w.heap.size 0 _ (fun _ => rfl)).setC w.heap.size 1 _ (fun _ => rfl)).setC w.heap.size 2 _ (fun _ => rfl)).setC w.heap.size 3 _ (fun _ => rfl)).setC w.heap.size 4 _ (fun _ => rfl)).drew) (by omega)
              · exact (((((((F2).setC x 0 _ (fun _ => rfl)).setC w.heap.size 0 _ (fun h => by omega)).setC w.heap.size 1 _ (fun h => by omega)).setC w.heap.size 2 _ (fun h => by omega)).setC w.heap.size 3 _ (fun h => by omega)).setC w.heap.size 4 _ (fun h => by omega)).drew
            | ok T2 =>
              rw [hf] at hP
              have hM2 : RMem w2 x p T2 := hP
              have hFold := hT1.fold hf
              have hEn2 : Ends p rs0 (if T2.r ≠ [] then .error (1, T2.f.at_) else .ok (T2.s.ns, T2.f.alt.getD 0, T2.s.g)) := by have := HF.out; unfold finR at this; rw [hj] at this; simp only at this; rw [hf] at this; exact this
              clear hP
              obtain ⟨hT2, hx1, hx2, ⟨y, hy⟩, hx3, hx4⟩ := hFold
              clear hx1 hx2 hx3 hx4
              obtain ⟨f9, q9, hb9, hL9⟩ := hM2
              obtain ⟨⟨hwf2, hlen2, hg32, _⟩, _, _, hd2⟩ := hT2
              obtain ⟨⟨i2, ns, g⟩, ⟨al, ct, at', num, pl⟩, r⟩ := T2
              simp only at hL9 hwf2 hlen2 hg32 hd2 hy hEn2
              subst hy
              have ce := hb9.cell (o := 323) (by omega)
              rw [hL9.er] at ce
              have cd := hb9.cell (o := 321) (by omega)
              rw [hL9.dp] at cd
              have c0 := hb9.cell (o := 0) (by omega)
              have cn := hb9.cell (o := 290) (by omega)
              rw [hL9.n] at cn
              have z9 := hb9.frozen
              have lx9 := hb9.lt
              have lR9 := hR2.lt
              clear hM1 hT1 hM hT HF
              cases r with
              | cons s r' =>
                simp only [List.length_cons] at cd hd2
                have st4 := hL9.st.1 4 (by omega)
                simp only [List.length_cons, frCell] at st4
                have c4 := hb9.cell (o := 291 + (r'.length + 1) * 5 + 4) (by omega)
                rw [st4] at c4
                have hr5 : r'.length < 5 := by omega
                rw [if_pos (by simp)] at hEn2
                have dpos : decide ((0 : Int) < (r'.length : Int) + 1) = true := decide_eq_true (by omega)
                go_wp2_with fail
                refine wp_region_text (by kernel_rfl) (by kernel_rfl) ?_
                go_wp2_with fail
                refine (failR_any hb9.drew 1 pl).mono ?_
                rintro e w3 ⟨rfl, hb3, f3⟩
                have hRe : RErr w3 x p 1 ((pl : Nat) : Int) := ⟨_, i2, ns, g, _, s :: r', hb3, hL9.setE hlen2 (by simp; omega) 1 pl, hwf2, hlen2, hg32, by simp; omega⟩
                have hR3 := hR2.drew.frame f3 (by omega)
                have F3 := F2.drew.trans f3 (fun _ _ h => h)
                have hEn : Ends p rs0 (.error ((1 : Int), pl)) := hEn2
                clear ce cd c0 cn z9 lx9 lR9 hb9 hL9 hb3 hEn2 st4 c4 dpos
                have hRe' := hRe
                obtain ⟨f9, iv9, ns9, g9, t9, r9, hb9, hL9, hx9⟩ := hRe'
                have c23 := hb9.cell (o := 323) (by omega)
                rw [hL9.er] at c23
                have c24 := hb9.cell (o := 324) (by omega)
                rw [hL9.ps] at c24
                have c00 := hb9.cell (o := 0) (by omega)
                have z9 := hb9.frozen
                have lx9 := hb9.lt
                have lR9 := hR3.lt
                have zR9 := hR3.frozen
                have m0 := hR3.cell (o := 0) (by omega)
                have m1 := hR3.cell (o := 1) (by omega)
                have m2 := hR3.cell (o := 2) (by omega)
                have m3 := hR3.cell (o := 3) (by omega)
                have m4 := hR3.cell (o := 4) (by omega)
                have HEn : Hid _ := hEn
                clear hEn
                have hRx := hR3.setOther ⟨x, 0, none⟩ (.string ⟨#[]⟩) (show w.heap.size ≠ x by omega)
                have hAE := (RErr.any hRe).setP (p' := ⟨#[]⟩)
                go_wp2_with fail
                refine ⟨by kernel_rfl, ?_⟩
                go_wp2_with fail
                refine wp_region_text (by kernel_rfl) (by kernel_rfl) ?_
                go_wp2_with fail
                refine ⟨by kernel_rfl, ?_⟩
                go_wp2_with fail
                obtain ⟨r0, r1, r2, r3, r4⟩ := tail_cells hRx (.slice none 0 0) (.int .i64 (-1)) (.int .i64 0) (.int .i64 1) (.int .i64 (pl : Nat))
                refine bodyPost_ret (v := trErr ((1 : Int), pl)) (by simp [results, Tryz.results84, go_sem, trErr, r0, r1, r2, r3, r4]) rfl ⟨.error ((1 : Int), pl), .inr ⟨Hs.out, HEn.out⟩, rfl, ?_, ?_⟩
                · exact hAE.frame (S := fun b => b = w.heap.size) (((((((Fr.refl (fun b => b = w.heap.size) _).setC w.heap.size 0 _ (fun _ => rfl)).setC w.heap.size 1 _ (fun _ => rfl)).setC w.heap.size 2 _ (fun _ => rfl)).setC w.heap.size 3 _ (fun _ => rfl)).setC w.heap.size 4 _ (fun _ => rfl)).drew) (by omega)
                · exact (((((((F3).setC x 0 _ (fun _ => rfl)).setC w.heap.size 0 _ (fun h => by omega)).setC w.heap.size 1 _ (fun h => by omega)).setC w.heap.size 2 _ (fun h => by omega)).setC w.heap.size 3 _ (fun h => by omega)).setC w.heap.size 4 _ (fun h => by omega)).drew
              | nil =>
                simp only [List.length_nil] at cd
                rw [if_neg (by simp)] at hEn2
                simp only [Option.getD] at hEn2
                have HEn : Hid _ := hEn2
                clear hEn2
                have hbx := hb9.set 0 (.string ⟨#[]⟩)
                have hLx := hL9.setP (p' := ⟨#[]⟩)
                have Fx := F2.setC x 0 (.string ⟨#[]⟩) (fun _ => rfl)
                have hRx := hR2.setOther ⟨x, 0, none⟩ (.string ⟨#[]⟩) (show w.heap.size ≠ x by omega)
                go_wp2_with (refine wpList_makeB (by rfl) 106 _ _ (by rfl) 97 11 88 nd0V ns.length (by rfl) (by rfl) Tryz.underlying106 (by kernel_rfl) (by kernel_rfl) (by kernel_rfl) (by omega) (by omega) ?_; intro w4 f4 z4 b4; simp only [World.size_setCell] at z4 b4)
                have hb4 := hbx.frame f4 (by simp)
                have hR4 := hRx.frame f4 (by simp)
                have F4 := Fx.trans f4 (fun _ _ h => h.elim)
                clear ce cd c0 cn z9 hbx hRx Fx
                go_wp2_with fail
                go_loopg [6] ns.length (fun gk kv wr => ∃ (k : Nat) (fo : Nat → Value), kv = .int .i64 k ∧ k + gk = ns.length ∧ Blk wr w2.heap.size (ns.length * 11) fo ∧ (∀ k' (h : k' < ns.length), k' < k → ∀ j, j < 11 → fo (k' * 11 + j) = ndCell ns[k'] j) ∧ Blk wr x 325 (upd f9 0 (.string ⟨#[]⟩)) ∧ Blk wr w.heap.size 5 (trCell (.slice none 0 0)) ∧ Fr (fun b => b = x) w wr)
                case atStart => exact ⟨0, _, rfl, by omega, b4, fun k' _ h => by omega, hb4, hR4, F4⟩
                case round =>
                  obtain ⟨k, fo, rfl, hkg, hbo, hfo, hbk, hRk, Fk⟩ := hrel
                  have hkg' : k + gk = ns.length := hkg
                  clear hkg
                  have Hfo : Hid _ := hfo
                  clear hfo b4 z4 f4 hb4 hR4 F4
                  have cn := hbk.cell (o := 290) (by omega)
                  rw [hLx.n] at cn
                  have lo := hbo.lt
                  have lx := hbk.lt
                  have lR := hRk.lt
                  have zo := hbo.frozen
                  have zR := hRk.frozen
                  have hwle : w.heap.size < w2.heap.size := lR9
                  by_cases hk : k < ns.length
                  · have hk24 : k < 24 := by omega
                    have hkI : (k : Int) < ns.length := by omega
                    have n0 := hbk.cell (o := 2 + k * 11 + 0) (by omega)
                    rw [hLx.nd k hk 0 (by omega)] at n0
                    have n1 := hbk.cell (o := 2 + k * 11 + 1) (by omega)
                    rw [hLx.nd k hk 1 (by omega)] at n1
                    have n2 := hbk.cell (o := 2 + k * 11 + 2) (by omega)
                    rw [hLx.nd k hk 2 (by omega)] at n2
                    have n3 := hbk.cell (o := 2 + k * 11 + 3) (by omega)
                    rw [hLx.nd k hk 3 (by omega)] at n3
                    have n4 := hbk.cell (o := 2 + k * 11 + 4) (by omega)
                    rw [hLx.nd k hk 4 (by omega)] at n4
                    have n5 := hbk.cell (o := 2 + k * 11 + 5) (by omega)
                    rw [hLx.nd k hk 5 (by omega)] at n5
                    have n6 := hbk.cell (o := 2 + k * 11 + 6) (by omega)
                    rw [hLx.nd k hk 6 (by omega)] at n6
                    have n7 := hbk.cell (o := 2 + k * 11 + 7) (by omega)
                    rw [hLx.nd k hk 7 (by omega)] at n7
                    have n8 := hbk.cell (o := 2 + k * 11 + 8) (by omega)
                    rw [hLx.nd k hk 8 (by omega)] at n8
                    have n9 := hbk.cell (o := 2 + k * 11 + 9) (by omega)
                    rw [hLx.nd k hk 9 (by omega)] at n9
                    have n10 := hbk.cell (o := 2 + k * 11 + 10) (by omega)
                    rw [hLx.nd k hk 10 (by omega)] at n10
                    simp only [ndCell, Nat.add_zero] at n0 n1 n2 n3 n4 n5 n6 n7 n8 n9 n10
                    have o0 := hbo.cell (o := k * 11) (by omega)
                    have o1 := hbo.cell (o := k * 11 + 1) (by omega)
                    have o2 := hbo.cell (o := k * 11 + 2) (by omega)
                    have o3 := hbo.cell (o := k * 11 + 3) (by omega)
                    have o4 := hbo.cell (o := k * 11 + 4) (by omega)
                    have o5 := hbo.cell (o := k * 11 + 5) (by omega)
                    have o6 := hbo.cell (o := k * 11 + 6) (by omega)
                    have o7 := hbo.cell (o := k * 11 + 7) (by omega)
                    have o8 := hbo.cell (o := k * 11 + 8) (by omega)
                    have o9 := hbo.cell (o := k * 11 + 9) (by omega)
                    have o10 := hbo.cell (o := k * 11 + 10) (by omega)
                    have hboN : Blk _ w2.heap.size (ns.length * 11) (upd11 fo (k * 11) ns[k]) := (((((((((((hbo.set (k * 11) (.int .i64 ns[k].kind)).set (k * 11 + 1) (.int .i64 ns[k].a)).set (k * 11 + 2) (.int .i64 ns[k].b)).set (k * 11 + 3) (.int .i64 ns[k].mn)).set (k * 11 + 4) (.int .i64 ns[k].mx)).set (k * 11 + 5) (.int .i64 ns[k].cap)).set (k * 11 + 6) (.bool ns[k].lz)).set (k * 11 + 7) (.int .u64 (wd ns[k].st 0 : Nat))).set (k * 11 + 8) (.int .u64 (wd ns[k].st 1 : Nat))).set (k * 11 + 9) (.int .u64 (wd ns[k].st 2 : Nat))).set (k * 11 + 10) (.int .u64 (wd ns[k].st 3 : Nat)))
                    go_wp2_with fail
                    go_roundg (gk - 1)
                    case measure => omega
                    case rel =>
                      refine ⟨k + 1, upd11 fo (k * 11) ns[k], by simp, by omega, hboN, fun k' h' hk' j hj => ?_, ?_, ?_, ?_⟩
                      · by_cases he : k' = k
                        · subst he; exact upd11_in _ _ _ j hj
                        · rw [upd11_out _ _ _ _ (by omega)]; exact Hfo.out k' h' (by omega) j hj
                      · exact hbk.frame (S := fun b => b = w2.heap.size) (((((((((((((Fr.refl (fun b => b = w2.heap.size) wr).setC w2.heap.size (k * 11) (.int .i64 ns[k].kind) (fun _ => rfl)).setC w2.heap.size (k * 11 + 1) (.int .i64 ns[k].a) (fun _ => rfl)).setC w2.heap.size (k * 11 + 2) (.int .i64 ns[k].b) (fun _ => rfl)).setC w2.heap.size (k * 11 + 3) (.int .i64 ns[k].mn) (fun _ => rfl)).setC w2.heap.size (k * 11 + 4) (.int .i64 ns[k].mx) (fun _ => rfl)).setC w2.heap.size (k * 11 + 5) (.int .i64 ns[k].cap) (fun _ => rfl)).setC w2.heap.size (k * 11 + 6) (.bool ns[k].lz) (fun _ => rfl)).setC w2.heap.size (k * 11 + 7) (.int .u64 (wd ns[k].st 0 : Nat)) (fun _ => rfl)).setC w2.heap.size (k * 11 + 8) (.int .u64 (wd ns[k].st 1 : Nat)) (fun _ => rfl)).setC w2.heap.size (k * 11 + 9) (.int .u64 (wd ns[k].st 2 : Nat)) (fun _ => rfl)).setC w2.heap.size (k * 11 + 10) (.int .u64 (wd ns[k].st 3 : Nat)) (fun _ => rfl))) (by omega)
                      · exact hRk.frame (S := fun b => b = w2.heap.size) (((((((((((((Fr.refl (fun b => b = w2.heap.size) wr).setC w2.heap.size (k * 11) (.int .i64 ns[k].kind) (fun _ => rfl)).setC w2.heap.size (k * 11 + 1) (.int .i64 ns[k].a) (fun _ => rfl)).setC w2.heap.size (k * 11 + 2) (.int .i64 ns[k].b) (fun _ => rfl)).setC w2.heap.size (k * 11 + 3) (.int .i64 ns[k].mn) (fun _ => rfl)).setC w2.heap.size (k * 11 + 4) (.int .i64 ns[k].mx) (fun _ => rfl)).setC w2.heap.size (k * 11 + 5) (.int .i64 ns[k].cap) (fun _ => rfl)).setC w2.heap.size (k * 11 + 6) (.bool ns[k].lz) (fun _ => rfl)).setC w2.heap.size (k * 11 + 7) (.int .u64 (wd ns[k].st 0 : Nat)) (fun _ => rfl)).setC w2.heap.size (k * 11 + 8) (.int .u64 (wd ns[k].st 1 : Nat)) (fun _ => rfl)).setC w2.heap.size (k * 11 + 9) (.int .u64 (wd ns[k].st 2 : Nat)) (fun _ => rfl)).setC w2.heap.size (k * 11 + 10) (.int .u64 (wd ns[k].st 3 : Nat)) (fun _ => rfl))) (by omega)
                      · exact Fk.trans (((((((((((((Fr.refl (fun b => b = w2.heap.size) wr).setC w2.heap.size (k * 11) (.int .i64 ns[k].kind) (fun _ => rfl)).setC w2.heap.size (k * 11 + 1) (.int .i64 ns[k].a) (fun _ => rfl)).setC w2.heap.size (k * 11 + 2) (.int .i64 ns[k].b) (fun _ => rfl)).setC w2.heap.size (k * 11 + 3) (.int .i64 ns[k].mn) (fun _ => rfl)).setC w2.heap.size (k * 11 + 4) (.int .i64 ns[k].mx) (fun _ => rfl)).setC w2.heap.size (k * 11 + 5) (.int .i64 ns[k].cap) (fun _ => rfl)).setC w2.heap.size (k * 11 + 6) (.bool ns[k].lz) (fun _ => rfl)).setC w2.heap.size (k * 11 + 7) (.int .u64 (wd ns[k].st 0 : Nat)) (fun _ => rfl)).setC w2.heap.size (k * 11 + 8) (.int .u64 (wd ns[k].st 1 : Nat)) (fun _ => rfl)).setC w2.heap.size (k * 11 + 9) (.int .u64 (wd ns[k].st 2 : Nat)) (fun _ => rfl)).setC w2.heap.size (k * 11 + 10) (.int .u64 (wd ns[k].st 3 : Nat)) (fun _ => rfl))) (fun b hb h => by omega)
                  · have hkn : k = ns.length := by omega
                    have hkI : decide ((k : Int) < ns.length) = false := decide_eq_false (by omega)
                    have st0 := hLx.st.1 0 (by omega)
                    simp only [List.length_nil, frCell, oi, Nat.zero_mul, Nat.add_zero] at st0
                    have ca := hbk.cell (o := 291) (by omega)
                    rw [st0] at ca
                    have cg := hbk.cell (o := 322) (by omega)
                    rw [hLx.gr] at cg
                    have m0 := hRk.cell (o := 0) (by omega)
                    have m1 := hRk.cell (o := 1) (by omega)
                    have m2 := hRk.cell (o := 2) (by omega)
                    have m3 := hRk.cell (o := 3) (by omega)
                    have m4 := hRk.cell (o := 4) (by omega)
                    have FR : Fr (fun b => b = w.heap.size) wr _ := (((((((Fr.refl (fun b => b = w.heap.size) wr).setC w.heap.size 0 (.slice (some ⟨w2.heap.size, 0, none⟩) ns.length ns.length) (fun _ => rfl)).setC w.heap.size 1 (.int .i64 (y : Nat)) (fun _ => rfl)).setC w.heap.size 2 (.int .i64 (g : Nat)) (fun _ => rfl)).setC w.heap.size 3 (.int .i64 0) (fun _ => rfl)).setC w.heap.size 4 (.int .i64 0) (fun _ => rfl)).drew)
                    go_wp2_with fail
                    refine wp_region_text (by kernel_rfl) (by kernel_rfl) ?_
                    go_wp2_with fail
                    refine ⟨by kernel_rfl, ?_⟩
                    go_wp2_with fail
                    obtain ⟨r0, r1, r2, r3, r4⟩ := tail_cells hRk (.slice (some ⟨w2.heap.size, 0, none⟩) ns.length ns.length) (.int .i64 (y : Nat)) (.int .i64 (g : Nat)) (.int .i64 0) (.int .i64 0)
                    refine bodyPost_ret (v := .agg #[.slice (some ⟨w2.heap.size, 0, none⟩) ns.length ns.length, .int .i64 (y : Nat), .int .i64 (g : Nat), .int .i64 0, .int .i64 0]) (by simp [results, Tryz.results84, go_sem, r0, r1, r2, r3, r4]) rfl ⟨.ok (ns, y, g), .inr ⟨Hs.out, HEn.out⟩, ⟨w2.heap.size, by omega, rfl, fo, hbo.frame FR (by omega), fun k' h' j hj => Hfo.out k' h' (by omega) j hj⟩, ?_, ?_⟩
                    · exact ⟨_, _, ns, g, _, [], 0, q9, hbk.frame FR (by omega), hLx, hwf2, hlen2, hg32, by simp⟩
                    · exact Fk.trans FR (fun b hb h => by omega)
      · have hEnd := hEn
        clear hEnd
        have hRe' := hRe
        obtain ⟨f9, iv9, ns9, g9, t9, r9, hb9, hL9, hx9⟩ := hRe'
        have c23 := hb9.cell (o := 323) (by omega)
        rw [hL9.er] at c23
        have c24 := hb9.cell (o := 324) (by omega)
        rw [hL9.ps] at c24
        have c00 := hb9.cell (o := 0) (by omega)
        have z9 := hb9.frozen
        have lx9 := hb9.lt
        have lR9 := hR.lt
        have zR9 := hR.frozen
        have m0 := hR.cell (o := 0) (by omega)
        have m1 := hR.cell (o := 1) (by omega)
        have m2 := hR.cell (o := 2) (by omega)
        have m3 := hR.cell (o := 3) (by omega)
        have m4 := hR.cell (o := 4) (by omega)
        have te : (er.1 == 0) = false := by simpa using hne
        have te' : (er.1 != 0) = true := by simpa using hne
        have HEn : Hid _ := hEn
        clear hEn
        have hRx := hR.setOther ⟨x, 0, none⟩ (.string ⟨#[]⟩) (show w.heap.size ≠ x by omega)
        have hAE := (RErr.any hRe).setP (p' := ⟨#[]⟩)
        go_wp2_with fail
        refine wp_region_text (by kernel_rfl) (by kernel_rfl) ?_
        go_wp2_with fail
        refine ⟨by kernel_rfl, ?_⟩
        go_wp2_with fail
        obtain ⟨r0, r1, r2, r3, r4⟩ := tail_cells hRx (.slice none 0 0) (.int .i64 (-1)) (.int .i64 0) (.int .i64 er.1) (.int .i64 (er.2 : Nat))
        refine bodyPost_ret (v := trErr er) (by simp [results, Tryz.results84, go_sem, trErr, r0, r1, r2, r3, r4]) rfl ⟨.error er, .inr ⟨Hs.out, HEn.out⟩, rfl, ?_, ?_⟩
        · exact hAE.frame (S := fun b => b = w.heap.size) (((((((Fr.refl (fun b => b = w.heap.size) _).setC w.heap.size 0 _ (fun _ => rfl)).setC w.heap.size 1 _ (fun _ => rfl)).setC w.heap.size 2 _ (fun _ => rfl)).setC w.heap.size 3 _ (fun _ => rfl)).setC w.heap.size 4 _ (fun _ => rfl)).drew) (by omega)
        · exact (((((((FJ).setC x 0 _ (fun _ => rfl)).setC w.heap.size 0 _ (fun h => by omega)).setC w.heap.size 1 _ (fun h => by omega)).setC w.heap.size 2 _ (fun h => by omega)).setC w.heap.size 3 _ (fun h => by omega)).setC w.heap.size 4 _ (fun h => by omega)).drew
end Go.Proofs.Qxb6500283aGreat
