import Derived.Test.Qxb6500285aGreatPkWRoad4
namespace Go.Proofs.Qxb6500285aGreat
open Go Go.RowKit


def roadAt (p : List In) (str : ByteArray) (at_ : Nat) : RoadR := roadS p str (p.length * (str.size + 1) + 1) 0 at_ (fun _ => -1) (fun _ => false)
def runFrom (p : List In) (str : ByteArray) : Nat → Nat → Option (Nat → Int)
  | 0, _ => none
  | m + 1, at_ => if (roadAt p str at_).ok then some (upd (upd (roadAt p str at_).c 0 at_) 1 (roadAt p str at_).e) else runFrom p str m (at_ + 1)
def runS (p : List In) (str : ByteArray) (from_ : Nat) : Option (Nat → Int) := runFrom p str (str.size + 1 - from_) from_

set_option maxHeartbeats 1000000 in
theorem run_long {w : World} (p : List In) (pb cap : Nat) (str : ByteArray) (from_ : Int) (hsz : 256 < str.size) :
    Calls Tryz.prog 41 #[.slice (some ⟨pb, 0, none⟩) p.length cap, .string str, .int .i64 from_] w fun e w' => e = .returned (foundK 12 0 false fun _ => -1) ∧ Fr (fun _ => False) w w' := by
  go_enter Tryz.func41, Tryz.ntmps41
  go_wp2_with fail
  refine (refusedK_any _ _ _).mono ?_
  rintro e w1 ⟨rfl, f2⟩
  have hc := f2.newCell (by simp)
  have hf := f2.newFrozen (by simp)
  unfold foundK
  go_wp2_with fail
  refine bodyPost_ret (v := foundK 12 0 false fun _ => -1) (by simp [results, Tryz.results41, go_sem, hc, foundK]) rfl ⟨rfl, ?_⟩
  repeat' refine Fr.setNew ?_ (Nat.le_refl _)
  exact ((Fr.refl _ _).alloc _).trans f2 (fun _ _ h => h)

set_option maxHeartbeats 1000000 in
theorem run_bad {w : World} (p : List In) (pb cap : Nat) (hp : PAt w pb p) (hlen : p.length < 1000000) (str : ByteArray) (from_ : Int) (hsz : str.size ≤ 256) (hbad : progOK p = false) :
    Calls Tryz.prog 41 #[.slice (some ⟨pb, 0, none⟩) p.length cap, .string str, .int .i64 from_] w fun e w' => e = .returned (foundK 9 0 false fun _ => -1) ∧ Fr (fun _ => False) w w' := by
  have Hbad : Hid _ := hbad
  clear hbad
  go_enter Tryz.func41, Tryz.ntmps41
  go_wp2_with fail
  refine (progok_any p pb cap (hp.frame ((Fr.refl (fun _ => False) _).alloc _) (by simp)) hlen).mono ?_
  rintro e w1 ⟨rfl, f2⟩
  rw [Hbad.out]
  go_wp2_with fail
  refine (refusedK_any _ _ _).mono ?_
  rintro e w2 ⟨rfl, f3⟩
  have f4 := f2.trans f3 (fun _ _ h => h)
  have hc := f4.newCell (by simp)
  have hf := f4.newFrozen (by simp)
  unfold foundK
  go_wp2_with fail
  refine bodyPost_ret (v := foundK 9 0 false fun _ => -1) (by simp [results, Tryz.results41, go_sem, hc, foundK]) rfl ⟨rfl, ?_⟩
  repeat' refine Fr.setNew ?_ (Nat.le_refl _)
  exact ((Fr.refl _ _).alloc _).trans f4 (fun _ _ h => h)

set_option maxHeartbeats 1000000 in
theorem run_range {w : World} (p : List In) (pb cap : Nat) (hp : PAt w pb p) (hlen : p.length < 1000000) (str : ByteArray) (from_ : Int) (hsz : str.size ≤ 256) (hgood : progOK p = true) (hr : from_ < 0 ∨ (str.size : Int) < from_) :
    Calls Tryz.prog 41 #[.slice (some ⟨pb, 0, none⟩) p.length cap, .string str, .int .i64 from_] w fun e w' => e = .returned (foundK 10 0 false fun _ => -1) ∧ Fr (fun _ => False) w w' := by
  have Hgood : Hid _ := hgood
  clear hgood
  by_cases hneg : from_ < 0
  all_goals
    go_enter Tryz.func41, Tryz.ntmps41
    go_wp2_with fail
    refine (progok_any p pb cap (hp.frame ((Fr.refl (fun _ => False) _).alloc _) (by simp)) hlen).mono ?_
    rintro e w1 ⟨rfl, f2⟩
    rw [Hgood.out]
    go_wp2_with fail
    refine (refusedK_any _ _ _).mono ?_
    rintro e w2 ⟨rfl, f3⟩
    have f4 := f2.trans f3 (fun _ _ h => h)
    have hc := f4.newCell (by simp)
    have hf := f4.newFrozen (by simp)
    unfold foundK
    go_wp2_with fail
    refine bodyPost_ret (v := foundK 10 0 false fun _ => -1) (by simp [results, Tryz.results41, go_sem, hc, foundK]) rfl ⟨rfl, ?_⟩
    repeat' refine Fr.setNew ?_ (Nat.le_refl _)
    exact ((Fr.refl _ _).alloc _).trans f4 (fun _ _ h => h)

theorem unseen_none (N : Nat) : unseen (fun _ => false) N ≤ N := by unfold unseen; exact Nat.le_trans (List.length_filter_le _ _) (by simp)
def optK (r : Option (Nat → Int)) : Nat → Int := r.getD fun _ => -1

set_option maxRecDepth 100000 in
set_option maxHeartbeats 2000000 in
theorem run_main {w : World} (p : List In) (pb cap : Nat) (hok : OkProg p) (hp : PAt w pb p) (str : ByteArray) (hsz : str.size ≤ 256) (from_ : Nat) (hfrom : from_ ≤ str.size) :
    Calls Tryz.prog 41 #[.slice (some ⟨pb, 0, none⟩) p.length cap, .string str, .int .i64 from_] w fun e w' => e = .returned (foundK 0 0 (runS p str from_).isSome (optK (runS p str from_))) ∧ Fr (fun _ => False) w w' := by
  have hm := hok.max
  have hlen : p.length < 1000000 := by omega
  have hpos := hok.pos
  have Hgood : Hid _ := (progOK_iff p).2 hok
  obtain ⟨N, hN⟩ : ∃ N, N = p.length * (str.size + 1) := ⟨_, rfl⟩
  have hN2 : N ≤ 64 * 257 := by rw [hN]; exact Nat.mul_le_mul hm (by omega)
  have hNi : (p.length : Int) * ((str.size : Int) + 1) = (N : Int) := by rw [hN]; simp
  obtain ⟨R, hR⟩ : ∃ R, R = runS p str from_ := ⟨_, rfl⟩
  have hR' : R = runFrom p str (str.size + 1 - from_) from_ := hR
  rw [← hR]
  have HR : Hid _ := hR'
  have HN : Hid _ := hN
  clear hR hR' hN
  have t1 : decide ((256 : Int) < (str.size : Int)) = false := by simp; omega
  have t2 : decide ((from_ : Int) < 0) = false := by simp
  have t3 : decide (str.size < from_) = false := by simp; omega
  go_enter Tryz.func41, Tryz.ntmps41
  go_wp2_with fail
  refine (progok_any p pb cap (hp.frame ((Fr.refl (fun _ => False) _).alloc _) (by simp)) hlen).mono ?_
  rintro e w1 ⟨rfl, f2⟩
  rw [Hgood.out]
  go_wp2_with fail
  go_loopg [7] (str.size + 1 - from_) (fun g av wr => ∃ (at_ : Nat), av = .int .i64 at_ ∧ at_ + g = str.size + 1 ∧ R = runFrom p str g at_ ∧
      Fr (fun _ => False) (w.alloc (.cells #[.int .i64 0, .int .i64 0, .bool false, .int .i64 0, .int .i64 0, .int .i64 0, .int .i64 0, .int .i64 0, .int .i64 0, .int .i64 0, .int .i64 0] 43)) wr)
  case atStart => exact ⟨from_, rfl, by omega, HR.out, f2⟩
  case round =>
    obtain ⟨at_, rfl, hat, hRg, hfr⟩ := hrel
    have hat2 : at_ ≤ str.size + 1 := by omega
    have hrs : w.heap.size < wr.heap.size := by have := hfr.size; simp at this; omega
    by_cases hlt : at_ ≤ str.size
    · obtain ⟨g', rfl⟩ : ∃ g', gk = g' + 1 := ⟨gk - 1, by omega⟩
      have Hb : Hid (_ ∧ _) := ⟨hat, hRg⟩
      clear hat hRg
      go_wp2_with (refine wpList_makeB (by rfl) 130 _ _ (by rfl) 4 1 1 (.bool false) N (by rfl) (by rfl) Tryz.underlying130 (by kernel_rfl) (by kernel_rfl) (by kernel_rfl) (by omega) (by omega) ?_; intro w3 f3 z3 b3)
      have b3' : Blk w3 wr.heap.size N (bools fun _ => false) := by
        have := b3.congr (g := bools fun _ => false) (fun k _ => by show #[Value.bool false][k % 1]! = _; rw [Nat.mod_one]; rfl)
        simpa using this
      clear b3
      refine (nocapsK_any _).mono ?_
      rintro e w4 ⟨rfl, f4⟩
      have b4 := b3'.frame f4 (by simp)
      have f4' := (hfr.trans f3 (fun _ _ h => h)).trans f4 (fun _ _ h => h)
      have z4 : wr.heap.size < w4.heap.size := by have := f4.size; omega
      have hp4 : PAt w4 pb p := hp.frame (((Fr.refl (fun _ => False) _).alloc _).trans f4' (fun _ _ h => h)) (by simp)
      have hpbw : pb < w.heap.size := hp.lt hpos
      clear b3' f3 f4 z3
      unfold noCapsV
      go_wp2_with fail
      rw [show Value.agg #[.int .i64 (-1), .int .i64 (-1), .int .i64 (-1), .int .i64 (-1), .int .i64 (-1), .int .i64 (-1), .int .i64 (-1), .int .i64 (-1)] = capsV (fun _ => -1) from rfl]
      refine (road_all hok hsz HN.out (N + 1) _ 0 at_ (fun _ => -1) wr.heap.size N (fun _ => false) (hp4.frame ((Fr.refl (fun _ => False) _).alloc _) (by simp)) (by omega) (b4.alloc _) hpos hlt (Nat.lt_succ_of_le (unseen_none N))).mono ?_
      have hRA : roadS p str (N + 1) 0 at_ (fun _ => -1) (fun _ => false) = roadAt p str at_ := by unfold roadAt; rw [HN.out]
      rw [hRA]
      rintro e w5 ⟨rfl, b5, f5⟩
      have f5' : Fr (fun _ => False) (w.alloc (.cells #[.int .i64 0, .int .i64 0, .bool false, .int .i64 0, .int .i64 0, .int .i64 0, .int .i64 0, .int .i64 0, .int .i64 0, .int .i64 0, .int .i64 0] 43)) w5 :=
        (f4'.alloc _).trans f5 (fun i hi e => by simp at hi; omega)
      have z5 : w.heap.size < w5.heap.size := by have := f5'.size; simp at this; omega
      clear hRA b5 f5 b4 hp4 f4'
      cases hk : (roadAt p str at_).ok with
      | false =>
        have Hk : Hid _ := hk
        clear hk
        unfold capsV
        go_wp2_with fail
        go_roundg g'
        case measure => omega
        case rel =>
          obtain ⟨hat, hRg⟩ := Hb.out
          refine ⟨at_ + 1, by simp, by omega, ?_, f5'.alloc _⟩
          rw [hRg]; simp [runFrom, Hk.out]
      | true =>
        have hRR : R = some (upd (upd (roadAt p str at_).c 0 at_) 1 (roadAt p str at_).e) := by
          obtain ⟨hat, hRg⟩ := Hb.out
          rw [hRg]; simp [runFrom, hk]
        have HRR : Hid _ := hRR
        have hc := f5'.newCell (by simp)
        have hf := f5'.newFrozen (by simp)
        clear hk hRR
        unfold capsV
        go_wp2_with fail
        refine bodyPost_ret (v := foundK 0 0 true (upd (upd (roadAt p str at_).c 0 at_) 1 (roadAt p str at_).e)) (by simp [results, Tryz.results41, go_sem, hc, foundK, upd, z5]) rfl ?_
        rw [HRR.out]
        refine ⟨rfl, ?_⟩
        refine Fr.alloc ?_ _
        repeat' refine Fr.setNew ?_ (Nat.le_refl _)
        exact ((Fr.refl _ _).alloc _).trans f5' (fun _ _ h => h)
    · have HRes : Hid (R = none) := by rw [hRg, show gk = 0 by omega]; exact rfl
      clear hat hRg
      go_wp2_with fail
      refine (nothingK_any _).mono ?_
      rintro e w9 ⟨rfl, f9⟩
      have f8 := hfr.trans f9 (fun _ _ h => h)
      have hc := f8.newCell (by simp)
      have hf := f8.newFrozen (by simp)
      unfold foundK
      go_wp2_with fail
      have hRR := HRes.out
      refine bodyPost_ret (v := foundK 0 0 false fun _ => -1) (by simp [results, Tryz.results41, go_sem, hc, foundK]) rfl ?_
      rw [hRR]
      refine ⟨rfl, ?_⟩
      repeat' refine Fr.setNew ?_ (Nat.le_refl _)
      exact ((Fr.refl _ _).alloc _).trans f8 (fun _ _ h => h)
end Go.Proofs.Qxb6500285aGreat
