import Derived.Test.Qxb6500283aGreatPmPikeT
namespace Go.Proofs.Qxb6500283aGreat
open Go Go.RowKit

theorem LInv.clear {f : Nat → Int} {W m : Nat} (h : LInv f W m) : LInv (upd f (W * 130 + 128) 0) W m :=
  ⟨by simp [upd], by simp [upd], fun pc hpc => by simp only [upd, show W * 130 + 64 + pc ≠ W * 130 + 128 by omega, if_false]; exact h.sp pc hpc, fun k hk => by simp [upd] at hk; omega⟩

/-- What a round of step's loop needs of the machine. -/
structure TInv (p : List In) (W n : Nat) (st : PS) : Prop where
  lW : LInv st.f W p.length
  lO : LInv st.f (1 - W) p.length
  n : st.f (W * 130 + 128) = n
  s0 : 0 ≤ st.f 265

theorem PRep.cpyB {w : World} {x : Nat} {s : PS} (h : PRep w x s) (o : Nat) (f : Nat → Int) (p n : Nat) :
    PRep (w.setCells (x + 5) o (rowOf (ints f) p n)) x { s with b := cpy s.b o f p n } :=
  ⟨h.main.setCellsOther _ (by omega) _ _, h.c0.setCellsOther _ (by omega) _ _, h.c1.setCellsOther _ (by omega) _ _, h.st.setCellsOther _ (by omega) _ _, h.rg.setCellsOther _ (by omega) _ _, by have := h.bs.setCells (rowOf (ints f) p n) o; rwa [lay_ints] at this, h.no.setCellsOther _ (by omega) _ _⟩
theorem PRep.cpyR {w : World} {x : Nat} {s : PS} (h : PRep w x s) (o : Nat) (f : Nat → Int) (p n : Nat) :
    PRep (w.setCells (x + 4) o (rowOf (ints f) p n)) x { s with r := cpy s.r o f p n } :=
  ⟨h.main.setCellsOther _ (by omega) _ _, h.c0.setCellsOther _ (by omega) _ _, h.c1.setCellsOther _ (by omega) _ _, h.st.setCellsOther _ (by omega) _ _, by have := h.rg.setCells (rowOf (ints f) p n) o; rwa [lay_ints] at this, h.bs.setCellsOther _ (by omega) _ _, h.no.setCellsOther _ (by omega) _ _⟩
theorem PRep.ofB {w w' : World} {x : Nat} {s : PS} {b : Nat → Int} (h : PRep w x s) (k : Fr (fun b => b = x + 5) w w') (hb : Blk w' (x + 5) 8 (ints b)) : PRep w' x { s with b := b } :=
  ⟨h.main.frame k (by omega), h.c0.frame k (by omega), h.c1.frame k (by omega), h.st.frame k (by omega), h.rg.frame k (by omega), hb, h.no.frame k (by omega)⟩
theorem PRep.ofR {w w' : World} {x : Nat} {s : PS} {r : Nat → Int} (h : PRep w x s) (k : Fr (fun b => b = x + 4) w w') (hb : Blk w' (x + 4) 8 (ints r)) : PRep w' x { s with r := r } :=
  ⟨h.main.frame k (by omega), h.c0.frame k (by omega), h.c1.frame k (by omega), h.st.frame k (by omega), hb, h.bs.frame k (by omega), h.no.frame k (by omega)⟩
theorem Fr.psets {x : Nat} {a w : World} (h : Fr (pOwn x) a w) (i o : Nat) (vs : List Value) (hi : i < 7) : Fr (pOwn x) a (w.setCells (x + i) o vs) := Fr.setCells _ (fun _ => by unfold pOwn; omega) _ _ h
set_option maxRecDepth 100000 in
set_option maxHeartbeats 2000000 in
theorem step_any {w : World} {x : Nat} {s : PS} (h : PRep w x s) (p : List In) (pb cap : Nat) (hok : OkProg p) (hp : PAt w pb p) (hpb : ¬ pOwn x pb) (str : ByteArray) (hsz : str.size ≤ 256) (W at_ n : Nat) (hW : W < 2) (hat : at_ ≤ str.size)
    (hT : TInv p W n s) (hs1 : s.f 265 ≤ 900000000) :
    Calls Tryz.prog 72 #[.pointer (some ⟨x, 0, none⟩), .slice (some ⟨pb, 0, none⟩) p.length cap, .string str, .int .i64 W, .int .i64 at_] w fun e w' =>
      e = .returned (.bool (stepS p str W at_ s).1) ∧ PRep w' x (stepS p str W at_ s).2 ∧ Fr (pOwn x) w w' := by
  have hm := hok.max
  have hn64 : n ≤ 64 := by have := hT.lW.n1; have := hT.n; omega
  have hO : (1 : Int) - (W : Int) = ((1 - W : Nat) : Int) := by omega
  have c1 : w.cell? ⟨x, (1 - W) * 130 + 128, none⟩ = some (.int .i64 (s.f ((1 - W) * 130 + 128))) := h.int (by omega) (by unfold intCell; omega)
  have g1 := h.main.frozen ((1 - W) * 130 + 128)
  have hT0 : TInv p W n { s with f := upd s.f ((1 - W) * 130 + 128) 0 } :=
    ⟨hT.lW.congr hm fun o h1 h2 => by simp [upd, show o ≠ (1 - W) * 130 + 128 by omega], hT.lO.clear, by simp only [upd, show W * 130 + 128 ≠ (1 - W) * 130 + 128 by omega, if_false]; exact hT.n, by simp only [upd, show (265 : Nat) ≠ (1 - W) * 130 + 128 by omega, if_false]; exact hT.s0⟩
  have e5 : ({ s with f := upd s.f ((1 - W) * 130 + 128) 0 } : PS).f 265 = s.f 265 := by simp only [upd, show (265 : Nat) ≠ (1 - W) * 130 + 128 by omega, if_false]
  obtain ⟨R, hR⟩ : ∃ R, R = stepS p str W at_ s := ⟨_, rfl⟩
  have hR' : R = stepFrom p str W at_ n 0 { s with f := upd s.f ((1 - W) * 130 + 128) 0 } := by rw [hR, stepS, hT.n, Int.toNat_natCast]
  rw [← hR]
  have HR : Hid (R = stepFrom p str W at_ n 0 { s with f := upd s.f ((1 - W) * 130 + 128) 0 }) := hR'
  obtain ⟨O, hO'⟩ : ∃ O, O = 1 - W := ⟨_, rfl⟩
  have hO2 : O < 2 := by omega
  have hOW : O ≠ W := by omega
  have h0 := h.setF (O * 130 + 128) 0 (by unfold intCell; omega)
  have f0 := (Fr.refl (pOwn x) w).pset0 (O * 130 + 128) (.int .i64 0)
  have E5 : Hid _ := e5
  rw [← hO'] at c1 g1 hO hT0 HR E5
  clear hR hR' e5
  have HO : Hid _ := hO'
  clear hO'
  go_enter Tryz.func72, Tryz.ntmps72
  go_wp2_with fail
  go_loopg [12] n (fun g kv wr => ∃ (k : Nat) (st : PS), kv = .int .i64 k ∧ k + g = n ∧ TInv p W n st ∧ st.f 265 + g * 301 ≤ 900000000 + n * 301 ∧ R = stepFrom p str W at_ g k st ∧ PRep wr x st ∧ Fr (pOwn x) w wr)
  case atStart => exact ⟨0, _, rfl, by omega, hT0, by have := E5.out; simp only at this ⊢; omega, HR.out, h0, f0⟩
  case round =>
    obtain ⟨k, st, rfl, hkg, hTi, hst, hRk, hr, hfr⟩ := hrel
    have Hb : Hid (_ ∧ _) := ⟨hkg, hRk⟩
    have hk64 : k ≤ 64 := by omega
    have d1 : wr.cell? ⟨x, W * 130 + 128, none⟩ = some (.int .i64 n) := by rw [← hTi.n]; exact hr.int (by omega) (by unfold intCell; omega)
    by_cases hlt : k < n
    · obtain ⟨g', rfl⟩ : ∃ g', gk = g' + 1 := ⟨gk - 1, by omega⟩
      have hn0 := hTi.n
      have hd := hTi.lW.ds k (by omega)
      obtain ⟨q, hq⟩ := Int.eq_ofNat_of_zero_le hd.1
      have hqm : q < p.length := by omega
      have hp1 := hp.frame hfr hpb
      have t0 := hTi.s0
      have t1 : st.f 265 ≤ 1000000000 := by omega
      have i0 := hp1 q hqm 0 (by omega)
      have i1 := hp1 q hqm 1 (by omega)
      have i2 := hp1 q hqm 2 (by omega)
      have i3 := hp1 q hqm 3 (by omega)
      have i4 := hp1 q hqm 4 (by omega)
      have i5 := hp1 q hqm 5 (by omega)
      have i6 := hp1 q hqm 6 (by omega)
      simp only [inCell, Nat.add_zero] at i0 i1 i2 i3 i4 i5 i6
      have hEq : stepFrom p str W at_ (g' + 1) k st = (if p[q].op = 6 then (true, { ({ st with f := upd st.f 265 (st.f 265 + 1) } : PS) with b := upd (cpy st.b 0 (st.g W) (k * 8) 8) 1 at_ })
          else if p[q].op = 0 ∧ at_ < str.size ∧ hasB p[q].s0 p[q].s1 p[q].s2 p[q].s3 (bt str at_) = true then
            stepFrom p str W at_ g' (k + 1) (addSM p str.size (1 - W) (q + 1) (at_ + 1) { ({ st with f := upd st.f 265 (st.f 265 + 1) } : PS) with r := cpy st.r 0 (st.g W) (k * 8) 8 })
          else stepFrom p str W at_ g' (k + 1) { st with f := upd st.f 265 (st.f 265 + 1) }) := by
        simp [stepFrom, hq, hqm]
      have HEq : Hid _ := hEq
      have d2 : wr.cell? ⟨x, W * 130 + k, none⟩ = some (.int .i64 q) := by have := hr.int (o := W * 130 + k) (by omega) (by unfold intCell; omega); rwa [hq] at this
      have d3 : wr.cell? ⟨x, 265, none⟩ = some (.int .i64 (st.f 265)) := hr.int (by omega) (by unfold intCell; omega)
      have g3 := hr.main.frozen 265
      have hr1 := hr.setF 265 (st.f 265 + 1) (by unfold intCell; omega)
      have hf1 := hfr.pset0 265 (.int .i64 (st.f 265 + 1))
      have b0 : x < wr.heap.size := hr.main.lt
      have hne1 : x ≠ pb := fun e => hpb (by unfold pOwn; omega)
      have hne2 : pb ≠ x := fun e => hne1 e.symm
      have hTi1 : TInv p W n { st with f := upd st.f 265 (st.f 265 + 1) } :=
        ⟨hTi.lW.congr hm fun o h1 h2 => by simp [upd, show o ≠ 265 by omega], hTi.lO.congr hm fun o h1 h2 => by simp [upd, show o ≠ 265 by omega], by simp only [upd, show W * 130 + 128 ≠ 265 by omega, if_false]; exact hTi.n, by simp only [upd, if_true]; omega⟩
      have hst' : Hid (st.f 265 + ((g' + 1 : Nat) : Int) * 301 ≤ 900000000 + n * 301) := hst
      clear hEq hq hd hkg hRk hst hn0
      by_cases o6 : p[q].op = 6
      · have HE := HEq.out
        rw [if_pos o6] at HE
        rw [o6] at i0
        have d4 : wr.cell? ⟨x, W * 130 + 129, none⟩ = some (.slice (some ⟨x + 1 + W, 0, none⟩) 512 512) := hr.capsCell hW
        have d5 : wr.cell? ⟨x, 263, none⟩ = some (.slice (some ⟨x + 5, 0, none⟩) 8 8) := hr.main.cell (by omega)
        have H6 : Hid _ := o6
        have HE' : Hid _ := HE
        clear HE o6 HEq
        go_wp2_with fail
        refine wp_region_text (by kernel_rfl) (by kernel_rfl) ?_
        go_wp2_with (refine wpList_copyA (by rfl) _ _ 105 105 (by rfl) 3 1 (x + 5) 0 8 8 (x + 1 + W) (k * 8) ((k + 1) * 8 - k * 8) (512 - k * 8) 8 512 8 (ints st.b) (ints (st.g W)) (by rfl) (by rfl) Tryz.underlying105 (by kernel_rfl) (by rw [show (k + 1) * 8 - k * 8 = 8 by omega]; rfl) (((hr1.alloc _).drew).bs) (((hr1.alloc _).drew).caps hW) (by omega) (by omega) (fun _ _ => rfl) ?_; intro w3 f3 k3)
        refine ⟨by kernel_rfl, ?_⟩
        rw [lay_ints] at k3
        have h3 := ((hr1.alloc _).drew).ofB f3 k3
        have f3' := (hf1.alloc _).drew.trans f3 (fun i hi e => by unfold pOwn; omega)
        have d6 : w3.cell? ⟨x, 263, none⟩ = some (.slice (some ⟨x + 5, 0, none⟩) 8 8) := h3.main.cell (by omega)
        have d7 : w3.cell? ⟨x + 5, 1, none⟩ = some (.int .i64 (cpy st.b 0 (st.g W) (k * 8) 8 1)) := h3.bs.cell (by omega)
        have g7 := h3.bs.frozen 1
        go_wp2_with fail
        go_ret
        obtain ⟨_, hRk⟩ := Hb.out
        rw [hRk, HE'.out]
        exact ⟨rfl, h3.setB 1 at_, f3'.psetM 5 _ _ (by omega)⟩
      · have hfin : ∀ (w' : World) (st2 : PS), stepFrom p str W at_ (g' + 1) k st = stepFrom p str W at_ g' (k + 1) st2 → TInv p W n st2 → st2.f 265 ≤ st.f 265 + 301 → PRep w' x st2 → Fr (pOwn x) w w' →
            ∃ (k2 : Nat) (st' : PS), Value.int .i64 ((k : Int) + 1) = .int .i64 k2 ∧ k2 + g' = n ∧ TInv p W n st' ∧ st'.f 265 + g' * 301 ≤ 900000000 + n * 301 ∧ R = stepFrom p str W at_ g' k2 st' ∧ PRep w' x st' ∧ Fr (pOwn x) w w' := by
          intro w' st2 h1 h2 h3 h4 h5
          obtain ⟨hkg, hRk⟩ := Hb.out
          have hs := hst'.out
          exact ⟨k + 1, st2, by simp, by omega, h2, by omega, hRk.trans h1, h4, h5⟩
        have HE := HEq.out
        rw [if_neg o6] at HE
        have Hfin : Hid _ := hfin
        have HE' : Hid _ := HE
        have b6 : (p[q].op == 6) = false := by simpa using o6
        have H6 : Hid (¬ p[q].op = 6) := o6
        clear HE o6 HEq hfin
        by_cases o0 : p[q].op = 0
        · by_cases hlt2 : at_ < str.size
          · obtain ⟨hkg, hRk⟩ := Hb.out
            have hqm1 : q + 1 < p.length := by
              have := hok.all q hqm
              unfold okIn at this
              omega
            clear hkg hRk
            have HE := HE'.out
            simp only [o0, hlt2, true_and] at HE
            rw [o0] at i0
            have hbt : bt str at_ = str[at_].toNat := by simp [bt, hlt2]
            rw [hbt] at HE
            have HE2 : Hid _ := HE
            have H0 : Hid _ := o0
            clear o0 HE hbt HE' b6
            go_wp2_with fail
            refine wp_region_text (by kernel_rfl) (by kernel_rfl) ?_
            go_wp2_with fail
            refine (has_set _ _ _ _ str[at_].toNat (UInt8.toNat_lt _) _).mono ?_
            rintro e w2 ⟨rfl, f2⟩
            have h2 := ((hr1.alloc _).drew).frame f2 (fun _ _ h => h)
            have f2' := (hf1.alloc _).drew.trans f2 (fun _ _ h => h.elim)
            cases hh : hasB p[q].s0 p[q].s1 p[q].s2 p[q].s3 str[at_].toNat with
            | false =>
              have HE := HE2.out
              rw [hh, if_neg (by simp)] at HE
              have HE3 : Hid _ := HE
              clear HE HE2 hh
              go_wp2_with fail
              refine ⟨by kernel_rfl, ?_⟩
              go_wp2_with fail
              go_roundg g'
              case measure => omega
              case rel => exact Hfin.out _ _ HE3.out hTi1 (by simp [upd]) h2 f2'
            | true =>
              have HE := HE2.out
              rw [hh, if_pos rfl, ← HO.out] at HE
              have HE3 : Hid _ := HE
              clear HE HE2 hh
              have d4 : w2.cell? ⟨x, W * 130 + 129, none⟩ = some (.slice (some ⟨x + 1 + W, 0, none⟩) 512 512) := h2.capsCell hW
              have d5 : w2.cell? ⟨x, 262, none⟩ = some (.slice (some ⟨x + 4, 0, none⟩) 8 8) := h2.main.cell (by omega)
              go_wp2_with fail
              refine ⟨by kernel_rfl, ?_⟩
              go_wp2_with fail
              refine wp_region_text (by kernel_rfl) (by kernel_rfl) ?_
              go_wp2_with (refine wpList_copyA (by rfl) _ _ 105 105 (by rfl) 3 1 (x + 4) 0 8 8 (x + 1 + W) (k * 8) ((k + 1) * 8 - k * 8) (512 - k * 8) 8 512 8 (ints st.r) (ints (st.g W)) (by rfl) (by rfl) Tryz.underlying105 (by kernel_rfl) (by rw [show (k + 1) * 8 - k * 8 = 8 by omega]; rfl) (h2.drew.rg) (h2.drew.caps hW) (by omega) (by omega) (fun _ _ => rfl) ?_; intro w3 f3 k3)
              refine ⟨by kernel_rfl, ?_⟩
              rw [lay_ints] at k3
              have h3 := h2.drew.ofR f3 k3
              have f3' := f2'.drew.trans f3 (fun i hi e => by unfold pOwn; omega)
              have hsp := addS_spec (p := p) (W := O) (V := W) (pc := q + 1) (size := str.size) (at_ := at_ + 1) (s := { ({ st with f := upd st.f 265 (st.f 265 + 1) } : PS) with r := cpy st.r 0 (st.g W) (k * 8) 8 }) hok hO2 hW (Ne.symm hOW) (by rw [HO.out]; exact hTi1.lO) hqm1
              have Hsp : Hid _ := hsp
              clear hsp
              go_wp2_with fail
              refine (add_any h3 p pb cap hok (hp.frame f3' hpb) hpb str.size O (q + 1) (at_ + 1) hO2 hqm1 (by rw [HO.out]; exact hTi1.lO) hTi1.s0 (by have hs := hst'.out; simp only [upd, if_true]; omega)).mono ?_
              rintro e w4 ⟨rfl, h4, f4⟩
              go_wp2_with fail
              go_roundg g'
              case measure => omega
              case rel =>
                obtain ⟨a1, a2, a3, a4, a5⟩ := Hsp.out
                refine Hfin.out _ _ HE3.out ⟨hTi1.lW.congr hm a3.c, by rw [← HO.out]; exact a1, (a3.c _ (by omega) (by omega)).trans hTi1.n, Int.le_trans hTi1.s0 a4⟩ ?_ h4 (f3'.trans f4 (fun _ _ h => h))
                refine Int.le_trans a5 ?_
                simp [upd]; omega
          · have HE := HE'.out
            rw [if_neg (by omega)] at HE
            rw [o0] at i0
            have HE3 : Hid _ := HE
            clear HE HE' o0 b6
            go_wp2_with fail
            go_roundg g'
            case measure => omega
            case rel => exact Hfin.out _ _ HE3.out hTi1 (by simp [upd]) (hr1.alloc _) (hf1.alloc _)
        · have HE := HE'.out
          rw [if_neg (by omega)] at HE
          have b0' : (p[q].op == 0) = false := by simpa using o0
          have HE3 : Hid _ := HE
          clear HE HE' o0
          go_wp2_with fail
          go_roundg g'
          case measure => omega
          case rel => exact Hfin.out _ _ HE3.out hTi1 (by simp [upd]) (hr1.alloc _) (hf1.alloc _)
    · have hg0 : Hid (gk = 0) := (by omega : gk = 0)
      clear hkg hRk hst hTi hT0 h0 f0 hT
      go_wp2_with fail
      go_ret
      obtain ⟨_, hRk⟩ := Hb.out
      rw [hg0.out] at hRk
      rw [hRk]
      exact ⟨rfl, hr, hfr⟩
end Go.Proofs.Qxb6500283aGreat
