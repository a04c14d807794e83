import Derived.Test.Qxb6500283aGreatPmWSearch2
namespace Go.Proofs.Qxb6500283aGreat
open Go Go.RowKit

theorem LInv.mk0 {f f' : Nat → Int} {W m : Nat} (h : LInv f W 64) (hz : f' (W * 130 + 128) = 0) (hs : ∀ pc, pc < 64 → f' (W * 130 + 64 + pc) = f (W * 130 + 64 + pc)) : LInv f' W m :=
  ⟨by omega, by omega, fun pc hpc => by rw [hs pc hpc]; exact h.sp pc hpc, fun k hk => by omega⟩

def capsOf (r : Bool × PS) : Nat → Int := if r.1 then r.2.b else fun _ => -1
set_option maxRecDepth 100000 in
set_option maxHeartbeats 4000000 in
theorem search_main {w : World} {x : Nat} {s : PS} (h : PRep w x s) (hC : CInv s) (p : List In) (pb cap : Nat) (hok : OkProg p) (hp : PAt w pb p) (hpb : ¬ pOwn x pb) (str : ByteArray) (hsz : str.size ≤ 256) (from_ : Nat) (hfrom : from_ ≤ str.size) :
    Calls Tryz.prog 56 #[.pointer (some ⟨x, 0, none⟩), .slice (some ⟨pb, 0, none⟩) p.length cap, .string str, .int .i64 from_] w fun e w' =>
      e = .returned (foundK 0 0 (scanS p str from_ s).1 (capsOf (scanS p str from_ s))) ∧ PRep w' x (scanS p str from_ s).2 ∧ Fr (pOwn x) w w' := by
  have hm := hok.max
  have hlen : p.length < 1000000 := by omega
  have hpos := hok.pos
  have c1 : w.cell? ⟨x, 265, none⟩ = some (.int .i64 (s.f 265)) := h.int (by omega) (by unfold intCell; omega)
  have g1 := h.main.frozen 265
  have b0 := h.main.lt
  have b6 := h.no.lt
  have h1 := h.setF 265 0 (by unfold intCell; omega)
  have f1 := (Fr.refl (pOwn x) w).pset0 265 (.int .i64 0)
  have Hgood : Hid _ := (progOK_iff p).2 hok
  obtain ⟨st0, hst0⟩ : ∃ st0 : PS, st0 = { s with f := upd (upd (upd s.f 265 0) 128 0) 258 0 } := ⟨_, rfl⟩
  have hG0 : GInv p st0 := by
    rw [hst0]
    refine ⟨LInv.mk0 hC.l0 (by simp [upd]) (fun pc hpc => ?_), LInv.mk0 hC.l1 (by simp [upd]) (fun pc hpc => ?_), ?_, ?_⟩
    · simp [upd, show (0 * 130 + 64 + pc) ≠ 258 by omega, show (0 * 130 + 64 + pc) ≠ 128 by omega, show (0 * 130 + 64 + pc) ≠ 265 by omega]
    · simp [upd, show (1 * 130 + 64 + pc) ≠ 258 by omega, show (1 * 130 + 64 + pc) ≠ 128 by omega, show (1 * 130 + 64 + pc) ≠ 265 by omega]
    · simp [upd]; exact hC.sp
    · simp [upd]
  have h265 : st0.f 265 = 0 := by rw [hst0]; simp [upd]
  obtain ⟨R, hR⟩ : ∃ R, R = scanS p str from_ s := ⟨_, rfl⟩
  have hR' : R = scanFrom p str (str.size + 1 - from_) from_ 0 false st0 := by rw [hR, scanS, hst0]
  rw [← hR]
  have HR : Hid _ := hR'
  have Hst0 : Hid _ := hst0
  have H265 : Hid _ := h265
  have HG0 : Hid _ := hG0
  clear hR hR' hst0 h265 hG0
  have t1 : decide ((256 : Int) < (str.size : Int)) = false := by simp; omega
  have t2 : decide ((from_ : Int) < 0) = false := by simp
  have t3 : decide (str.size < from_) = false := by simp; omega
  go_enter Tryz.func56, Tryz.ntmps56
  go_wp2_with fail
  refine (progok_any p pb cap (hp.frame (f1.alloc _) hpb) hlen).mono ?_
  rintro e w1 ⟨rfl, f2⟩
  rw [Hgood.out]
  have h2 := (h1.alloc _).frame f2 (fun _ _ h => h)
  have f2' := f2.mono (S' := pOwn x) (fun _ _ h => h.elim)
  have c2 : w1.cell? ⟨x, 128, none⟩ = some (.int .i64 (upd s.f 265 0 128)) := h2.int (by omega) (by unfold intCell; omega)
  have c3 : w1.cell? ⟨x, 258, none⟩ = some (.int .i64 (upd s.f 265 0 258)) := h2.int (by omega) (by unfold intCell; omega)
  have g2 := h2.main.frozen 128
  have g3 := h2.main.frozen 258
  have h3 := (h2.setF 128 0 (by unfold intCell; omega)).setF 258 0 (by unfold intCell; omega)
  have f3 := (f2'.pset0 128 (.int .i64 0)).pset0 258 (.int .i64 0)
  go_wp2_with fail
  go_loopg [10, 11, 12] (str.size + 1 - from_) (fun g wv hv av wr => ∃ (W at_ : Nat) (hit : Bool) (st : PS), wv = .int .i64 W ∧ hv = .bool hit ∧ av = .int .i64 at_ ∧ W < 2 ∧ at_ + g = str.size + 1 ∧ GInv p st ∧ st.f 265 + g * 20000 ≤ 6000000 ∧
      R = scanFrom p str g at_ W hit st ∧ PRep wr x st ∧ Fr (pOwn x) ((w.setCell ⟨x, 265, none⟩ (.int .i64 0)).alloc (.cells #[.int .i64 0, .int .i64 0, .bool false, .int .i64 0, .int .i64 0, .int .i64 0, .int .i64 0, .int .i64 0, .int .i64 0, .int .i64 0, .int .i64 0] 66)) wr)
  case atStart =>
    refine ⟨0, from_, false, st0, rfl, rfl, rfl, by omega, by omega, HG0.out, by rw [H265.out]; omega, HR.out, ?_, f3⟩
    rw [Hst0.out]; exact h3
  case round =>
    obtain ⟨W, at_, hit, st, rfl, rfl, rfl, hW, hat, hG, hst, hRg, hr, hfr⟩ := hrel
    have Hb : Hid (_ ∧ _) := ⟨hat, hRg⟩
    have hat2 : at_ ≤ str.size + 1 := by omega
    clear c2 c3 g2 g3 h3 f3 f2' h2 f2
    by_cases hlt : at_ ≤ str.size
    · obtain ⟨g', rfl⟩ : ∃ g', gk = g' + 1 := ⟨gk - 1, by omega⟩
      have hst' : Hid _ := hst
      have hRg' : R = scanFrom p str (g' + 1) at_ W hit st := hRg
      clear hat hRg hst
      cases hit with
      | true =>
        have hscan : scanFrom p str (g' + 1) at_ W true st = (if st.f (W * 130 + 128) = 0 then (true, st) else scanFrom p str g' (at_ + 1) (1 - W) (true || (stepS p str W at_ st).1) (stepS p str W at_ st).2) := by simp [scanFrom]
        have hst2 : st.f 265 + g' * 20000 + 20000 ≤ 6000000 := by have := hst'.out; omega
        have hst' : Hid (st.f 265 + g' * 20000 + 19300 ≤ 6000000) := (by omega : st.f 265 + g' * 20000 + 19300 ≤ 6000000)
        have Hscan : Hid _ := hscan
        clear hscan hst2
        obtain ⟨n, hn⟩ := Int.eq_ofNat_of_zero_le (hG.list hW).n0
        have hn1 := (hG.list hW).n1
        have hn64 : n ≤ 64 := by omega
        have e1 : wr.cell? ⟨x, W * 130 + 128, none⟩ = some (.int .i64 n) := by rw [← hn]; exact hr.int (by omega) (by unfold intCell; omega)
        by_cases hz : n = 0
        · have HRes : Hid (R = (true, st)) := by
            rw [hRg', Hscan.out]
            rw [if_pos (by omega)]
            exact rfl
          have Hz : Hid _ := hz
          rw [hz] at e1
          clear hRg' hn hn1 hz
          have r0 : wr.cell? ⟨x, 263, none⟩ = some (.slice (some ⟨x + 5, 0, none⟩) 8 8) := hr.main.cell (by omega)
          have q0 : wr.cell? ⟨x + 5, 0, none⟩ = some (.int .i64 (st.b 0)) := hr.bs.cell (by omega)
          have q1 : wr.cell? ⟨x + 5, 1, none⟩ = some (.int .i64 (st.b 1)) := hr.bs.cell (by omega)
          have q2 : wr.cell? ⟨x + 5, 2, none⟩ = some (.int .i64 (st.b 2)) := hr.bs.cell (by omega)
          have q3 : wr.cell? ⟨x + 5, 3, none⟩ = some (.int .i64 (st.b 3)) := hr.bs.cell (by omega)
          have q4 : wr.cell? ⟨x + 5, 4, none⟩ = some (.int .i64 (st.b 4)) := hr.bs.cell (by omega)
          have q5 : wr.cell? ⟨x + 5, 5, none⟩ = some (.int .i64 (st.b 5)) := hr.bs.cell (by omega)
          have q6 : wr.cell? ⟨x + 5, 6, none⟩ = some (.int .i64 (st.b 6)) := hr.bs.cell (by omega)
          have q7 : wr.cell? ⟨x + 5, 7, none⟩ = some (.int .i64 (st.b 7)) := hr.bs.cell (by omega)
          have z0 : x < wr.heap.size := hr.main.lt
          have z5 : x + 5 < wr.heap.size := hr.bs.lt
          have hc := hfr.newCell (by unfold pOwn; simp only [World.size_setCell]; omega)
          have hf := hfr.newFrozen (by unfold pOwn; simp only [World.size_setCell]; omega)
          simp only [World.size_setCell] at hc hf
          have z9 : w.heap.size < wr.heap.size := by have := hfr.size; simp at this; omega
          go_wp2_with fail
          refine wp_loop_rounds 9 ?_
          repeat any_goals (rw [rounds_succ]; go_wp2_with fail)
          have hR := HRes.out
          refine bodyPost_ret (v := foundK 0 0 true st.b) (by simp [results, Tryz.results56, go_sem, hc, foundK, z9]) rfl ?_
          rw [hR]
          refine ⟨rfl, ?_, ?_⟩
          · exact (setNew11 hr (by omega) _ _ _ _ _ _ _ _ _ _ _).alloc _
          · refine Fr.alloc ?_ _
            repeat' refine Fr.setNew ?_ (Nat.le_refl _)
            exact (f1.alloc _).trans hfr (fun _ _ h => h)
        · have hb : ((n : Int) == 0) = false := by simpa using hz
          have hT : TInv p W n st := ⟨hG.list hW, hG.list (W := 1 - W) (by omega), hn, hG.s0⟩
          have hS := hG.step hok hW str at_
          have hRg2 : R = scanFrom p str g' (at_ + 1) (1 - W) (true || (stepS p str W at_ st).1) (stepS p str W at_ st).2 := by
            rw [hRg', Hscan.out]
            rw [if_neg (by omega)]
          have HRg2 : Hid _ := hRg2
          have HS : Hid _ := hS
          have HT : Hid _ := hT
          obtain ⟨O, hO'⟩ : ∃ O, O = 1 - W := ⟨_, rfl⟩
          have hO : (1 : Int) - (W : Int) = (O : Int) := by omega
          have hO2 : O < 2 := by omega
          have HO : Hid _ := hO'
          have hp1 : PAt wr pb p := hp.frame ((f1.alloc _).trans hfr (fun _ _ h => h)) hpb
          have hbd : st.f 265 ≤ 900000000 := by have := hst'.out; omega
          have Hbd : Hid _ := hbd
          clear hRg' hRg2 hS hT hn hn1 hz hO' hbd
          go_wp2_with fail
          refine (step_any hr p pb cap hok hp1 hpb str hsz W at_ n hW hlt HT.out Hbd.out).mono ?_
          rintro e w5 ⟨rfl, h5, f5⟩
          cases hwon : (stepS p str W at_ st).1 with
          | false =>
            have HRg3 : Hid _ := HRg2.out
            have Hw : Hid _ := hwon
            clear hwon HRg2
            go_wp2_with fail
            go_roundg g'
            case measure => omega
            case rel =>
              have a1 := HRg3.out
              rw [Hw.out, ← HO.out] at a1
              obtain ⟨s1, s2, s3⟩ := HS.out
              have s4 := hst'.out
              exact ⟨O, at_ + 1, true, _, rfl, rfl, by simp, hO2, by have := Hb.out.1; omega, s1, by omega, by rw [a1]; simp, h5, hfr.trans f5 (fun _ _ h => h)⟩
          | true =>
            have HRg3 : Hid _ := HRg2.out
            have Hw : Hid _ := hwon
            clear hwon HRg2
            go_wp2_with fail
            go_roundg g'
            case measure => omega
            case rel =>
              have a1 := HRg3.out
              rw [Hw.out, ← HO.out] at a1
              obtain ⟨s1, s2, s3⟩ := HS.out
              have s4 := hst'.out
              exact ⟨O, at_ + 1, true, _, rfl, rfl, by simp, hO2, by have := Hb.out.1; omega, s1, by omega, by rw [a1]; simp, h5, hfr.trans f5 (fun _ _ h => h)⟩
      | false =>
        have hscan : scanFrom p str (g' + 1) at_ W false st = (if (addSM p str.size W 0 at_ { st with r := upd (cpy st.r 0 (fun _ => -1) 0 8) 0 at_ }).f (W * 130 + 128) = 0 then (false, addSM p str.size W 0 at_ { st with r := upd (cpy st.r 0 (fun _ => -1) 0 8) 0 at_ }) else scanFrom p str g' (at_ + 1) (1 - W) (false || (stepS p str W at_ (addSM p str.size W 0 at_ { st with r := upd (cpy st.r 0 (fun _ => -1) 0 8) 0 at_ })).1) (stepS p str W at_ (addSM p str.size W 0 at_ { st with r := upd (cpy st.r 0 (fun _ => -1) 0 8) 0 at_ })).2) := by simp [scanFrom]
        have hadd := hG.add hok hW str.size at_ (upd (cpy st.r 0 (fun _ => -1) 0 8) 0 at_)
        have Hscan : Hid _ := hscan
        have Hadd : Hid _ := hadd
        have HRg' : Hid _ := hRg'
        clear hscan hadd hRg'
        have k1 : wr.cell? ⟨x, 262, none⟩ = some (.slice (some ⟨x + 4, 0, none⟩) 8 8) := hr.main.cell (by omega)
        have k2 : wr.cell? ⟨x, 264, none⟩ = some (.slice (some ⟨x + 6, 0, none⟩) 8 8) := hr.main.cell (by omega)
        go_wp2_with fail
        refine wp_region_text (by kernel_rfl) (by kernel_rfl) ?_
        go_wp2_with (refine wpList_copyA (by rfl) _ _ 105 105 (by rfl) 3 1 (x + 4) 0 8 8 (x + 6) 0 8 8 8 8 8 (ints st.r) (ints fun _ => -1) (by rfl) (by rfl) Tryz.underlying105 (by kernel_rfl) (by rfl) (hr.drew.rg) (hr.drew.no) (by omega) (by omega) (fun _ _ => rfl) ?_; intro w3 f3 k3)
        refine ⟨by kernel_rfl, ?_⟩
        rw [lay_ints] at k3
        have h3 := hr.drew.ofR f3 k3
        have f3' := hfr.drew.trans f3 (fun i hi e => by unfold pOwn; omega)
        have k4 : w3.cell? ⟨x, 262, none⟩ = some (.slice (some ⟨x + 4, 0, none⟩) 8 8) := h3.main.cell (by omega)
        have k5 : w3.cell? ⟨x + 4, 0, none⟩ = some (.int .i64 (cpy st.r 0 (fun _ => -1) 0 8 0)) := h3.rg.cell (by omega)
        have g5 := h3.rg.frozen 0
        have h4 := h3.setR 0 at_
        have f4 := f3'.psetM 4 0 (.int .i64 at_) (by omega)
        have ht0 := hG.s0
        have ht1 : st.f 265 ≤ 1000000000 := by have := hst'.out; omega
        go_wp2_with fail
        refine (add_any h4 p pb cap hok (hp.frame ((f1.alloc _).trans f4 (fun _ _ h => h)) hpb) hpb str.size W 0 at_ hW hpos (hG.list hW) ht0 ht1).mono ?_
        rintro e w4 ⟨rfl, h5, f5⟩
        have f6 := f4.trans f5 (fun _ _ h => h)
        clear k1 k2 k4 k5 g5 h3 h4 f3 f4 f5 f3' k3
        obtain ⟨st1, hst1⟩ : ∃ st1, st1 = addSM p str.size W 0 at_ { st with r := upd (cpy st.r 0 (fun _ => -1) 0 8) 0 at_ } := ⟨_, rfl⟩
        have hscan := Hscan.out
        obtain ⟨hG1, hs1, hs2⟩ := Hadd.out
        have hRg' := HRg'.out
        rw [← hst1] at hscan hG1 hs1 hs2 h5
        have hst2 : st1.f 265 + g' * 20000 + 19300 ≤ 6000000 := by have := hst'.out; omega
        have Hscan' : Hid _ := hscan
        have hst' : Hid _ := hst2
        clear hscan hst1 Hscan Hadd hst2 hs1 hs2 ht0 ht1 HRg'
        obtain ⟨n, hn⟩ := Int.eq_ofNat_of_zero_le (hG1.list hW).n0
        have hn1 := (hG1.list hW).n1
        have hn64 : n ≤ 64 := by omega
        have e1 : w4.cell? ⟨x, W * 130 + 128, none⟩ = some (.int .i64 n) := by rw [← hn]; exact h5.int (by omega) (by unfold intCell; omega)
        by_cases hz : n = 0
        · have HRes : Hid (R = (false, st1)) := by
            rw [hRg', Hscan'.out]
            rw [if_pos (by omega)]
            exact rfl
          have Hz : Hid _ := hz
          rw [hz] at e1
          clear hRg' hn hn1 hz
          go_wp2_with fail
          refine (nothingK_any _).mono ?_
          rintro e w9 ⟨rfl, f9⟩
          have f8 := f6.trans f9 (fun _ _ h => h.elim)
          have hc := f8.newCell (by unfold pOwn; simp only [World.size_setCell]; omega)
          have hf := f8.newFrozen (by unfold pOwn; simp only [World.size_setCell]; omega)
          simp only [World.size_setCell] at hc hf
          have h9 := h5.frame f9 (fun _ _ h => h)
          unfold foundK
          go_wp2_with fail
          have hR := HRes.out
          refine bodyPost_ret (v := foundK 0 0 false fun _ => -1) (by simp [results, Tryz.results56, go_sem, hc, foundK]) rfl ?_
          rw [hR]
          refine ⟨rfl, ?_, ?_⟩
          · exact setNew11 h9 (by omega) _ _ _ _ _ _ _ _ _ _ _
          · repeat' refine Fr.setNew ?_ (Nat.le_refl _)
            exact (f1.alloc _).trans f8 (fun _ _ h => h)
        · have hb : ((n : Int) == 0) = false := by simpa using hz
          have hT : TInv p W n st1 := ⟨hG1.list hW, hG1.list (W := 1 - W) (by omega), hn, hG1.s0⟩
          have hS := hG1.step hok hW str at_
          have hRg2 : R = scanFrom p str g' (at_ + 1) (1 - W) (false || (stepS p str W at_ st1).1) (stepS p str W at_ st1).2 := by
            rw [hRg', Hscan'.out]
            rw [if_neg (by omega)]
          have HRg2 : Hid _ := hRg2
          have HS : Hid _ := hS
          have HT : Hid _ := hT
          obtain ⟨O, hO'⟩ : ∃ O, O = 1 - W := ⟨_, rfl⟩
          have hO : (1 : Int) - (W : Int) = (O : Int) := by omega
          have hO2 : O < 2 := by omega
          have HO : Hid _ := hO'
          have hp1 : PAt w4 pb p := hp.frame ((f1.alloc _).trans f6 (fun _ _ h => h)) hpb
          have hbd : st1.f 265 ≤ 900000000 := by have := hst'.out; omega
          have Hbd : Hid _ := hbd
          clear hRg' hRg2 hS hT hn hn1 hz hO' hbd
          go_wp2_with fail
          refine (step_any h5 p pb cap hok hp1 hpb str hsz W at_ n hW hlt HT.out Hbd.out).mono ?_
          rintro e w5 ⟨rfl, h5, f5⟩
          cases hwon : (stepS p str W at_ st1).1 with
          | false =>
            have HRg3 : Hid _ := HRg2.out
            have Hw : Hid _ := hwon
            clear hwon HRg2
            go_wp2_with fail
            go_roundg g'
            case measure => omega
            case rel =>
              have a1 := HRg3.out
              rw [Hw.out, ← HO.out] at a1
              obtain ⟨s1, s2, s3⟩ := HS.out
              have s4 := hst'.out
              exact ⟨O, at_ + 1, false, _, rfl, rfl, by simp, hO2, by have := Hb.out.1; omega, s1, by omega, by rw [a1]; simp, h5, f6.trans f5 (fun _ _ h => h)⟩
          | true =>
            have HRg3 : Hid _ := HRg2.out
            have Hw : Hid _ := hwon
            clear hwon HRg2
            go_wp2_with fail
            go_roundg g'
            case measure => omega
            case rel =>
              have a1 := HRg3.out
              rw [Hw.out, ← HO.out] at a1
              obtain ⟨s1, s2, s3⟩ := HS.out
              have s4 := hst'.out
              exact ⟨O, at_ + 1, true, _, rfl, rfl, by simp, hO2, by have := Hb.out.1; omega, s1, by omega, by rw [a1]; simp, h5, f6.trans f5 (fun _ _ h => h)⟩
    · have hg0 : gk = 0 := by omega
      have HRes : Hid (R = (hit, st)) := by rw [hRg, hg0]; rfl
      clear hat hRg hst hg0
      -- the loop is left with hit, st in the world wr (PRep: HR, Fr from W0: hfr)
      cases hit with
      | false =>
        go_wp2_with fail
        refine (nothingK_any _).mono ?_
        rintro e w9 ⟨rfl, f9⟩
        have f8 := hfr.trans f9 (fun _ _ h => h.elim)
        have hc := f8.newCell (by unfold pOwn; simp only [World.size_setCell]; omega)
        have hf := f8.newFrozen (by unfold pOwn; simp only [World.size_setCell]; omega)
        simp only [World.size_setCell] at hc hf
        have h9 := hr.frame f9 (fun _ _ h => h)
        unfold foundK
        go_wp2_with fail
        have hR := HRes.out
        refine bodyPost_ret (v := foundK 0 0 false fun _ => -1) (by simp [results, Tryz.results56, go_sem, hc, foundK]) rfl ?_
        rw [hR]
        refine ⟨rfl, ?_, ?_⟩
        · exact setNew11 h9 (by omega) _ _ _ _ _ _ _ _ _ _ _
        · repeat' refine Fr.setNew ?_ (Nat.le_refl _)
          exact (f1.alloc _).trans f8 (fun _ _ h => h)
      | true =>
        have r0 : wr.cell? ⟨x, 263, none⟩ = some (.slice (some ⟨x + 5, 0, none⟩) 8 8) := hr.main.cell (by omega)
        have q0 : wr.cell? ⟨x + 5, 0, none⟩ = some (.int .i64 (st.b 0)) := hr.bs.cell (by omega)
        have q1 : wr.cell? ⟨x + 5, 1, none⟩ = some (.int .i64 (st.b 1)) := hr.bs.cell (by omega)
        have q2 : wr.cell? ⟨x + 5, 2, none⟩ = some (.int .i64 (st.b 2)) := hr.bs.cell (by omega)
        have q3 : wr.cell? ⟨x + 5, 3, none⟩ = some (.int .i64 (st.b 3)) := hr.bs.cell (by omega)
        have q4 : wr.cell? ⟨x + 5, 4, none⟩ = some (.int .i64 (st.b 4)) := hr.bs.cell (by omega)
        have q5 : wr.cell? ⟨x + 5, 5, none⟩ = some (.int .i64 (st.b 5)) := hr.bs.cell (by omega)
        have q6 : wr.cell? ⟨x + 5, 6, none⟩ = some (.int .i64 (st.b 6)) := hr.bs.cell (by omega)
        have q7 : wr.cell? ⟨x + 5, 7, none⟩ = some (.int .i64 (st.b 7)) := hr.bs.cell (by omega)
        have z0 : x < wr.heap.size := hr.main.lt
        have z5 : x + 5 < wr.heap.size := hr.bs.lt
        have hc := hfr.newCell (by unfold pOwn; simp only [World.size_setCell]; omega)
        have hf := hfr.newFrozen (by unfold pOwn; simp only [World.size_setCell]; omega)
        simp only [World.size_setCell] at hc hf
        have z9 : w.heap.size < wr.heap.size := by have := hfr.size; simp at this; omega
        go_wp2_with fail
        refine wp_loop_rounds 9 ?_
        repeat any_goals (rw [rounds_succ]; go_wp2_with fail)
        have hR := HRes.out
        refine bodyPost_ret (v := foundK 0 0 true st.b) (by simp [results, Tryz.results56, go_sem, hc, foundK, z9]) rfl ?_
        rw [hR]
        refine ⟨rfl, ?_, ?_⟩
        · exact (setNew11 hr (by omega) _ _ _ _ _ _ _ _ _ _ _).alloc _
        · refine Fr.alloc ?_ _
          repeat' refine Fr.setNew ?_ (Nat.le_refl _)
          exact (f1.alloc _).trans hfr (fun _ _ h => h)

end Go.Proofs.Qxb6500283aGreat
