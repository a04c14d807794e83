/- The model's size of a repeat. -/
import Derived.Test.Qxb6500283aGreatM2
namespace Go.Proofs.Qxb6500283aGreat
open Go Go.RowKit

def smK (c k : Nat) : Nat := if k = 0 then 0 else k * c + k - 1
def tlK (c j : Nat) : Nat := if j = 0 then 0 else lidN (j * (c + 3) - 1)
theorem smK_0 {c : Nat} : smK c 1 = c := by unfold smK; simp
theorem smK_step {c k : Nat} (h : 0 < k) (h2 : k ≤ 2) : smK c (k + 1) = smK c k + c + 1 := by
  obtain rfl | rfl : k = 1 ∨ k = 2 := by omega
  all_goals
    unfold smK
    simp
    try omega
theorem smK_le {c k : Nat} (h : k ≤ 3) (hc : c ≤ 32) : smK c k ≤ 200 := by
  obtain rfl | rfl | rfl | rfl : k = 0 ∨ k = 1 ∨ k = 2 ∨ k = 3 := by omega
  all_goals
    unfold smK
    simp
    try omega
theorem tlK_0 {c : Nat} : tlK c 1 = lidN (c + 2) := by unfold tlK; simp
theorem tlK_pos {c j : Nat} (h : 0 < j) : 0 < tlK c j := by
  unfold tlK
  rw [if_neg (by omega)]
  have h1 : 1 * (c + 3) ≤ j * (c + 3) := Nat.mul_le_mul_right _ h
  exact lidN_pos (by omega)
theorem tlK_le (c j : Nat) : tlK c j ≤ 32 := by
  unfold tlK
  split
  · omega
  · exact lidN_le _
theorem lid_in (a b : Nat) : lidN (lidN a + b) = lidN (a + b) := by
  unfold lidN
  repeat' split
  all_goals omega
theorem tlK_step {c j : Nat} (h : 0 < j) : tlK c (j + 1) = lidN (tlK c j + 1 + c + 2) := by
  unfold tlK
  rw [if_neg (by omega), if_neg (by omega), Nat.add_assoc, Nat.add_assoc, lid_in, Nat.succ_mul]
  have h1 : 1 * (c + 3) ≤ j * (c + 3) := Nat.mul_le_mul_right _ h
  congr 1
  omega
theorem sumN_smK (c m : Nat) : sumN c (m : Nat) = smK c m := by
  unfold sumN smK
  by_cases h : m = 0
  · subst h; rfl
  · rw [if_neg h, if_pos (by omega)]; simp
theorem rep_inf {c m : Nat} {mx : Int} (h : mx < 0) : lidN ((if 0 < smK c m then smK c m + 1 else smK c m) + (c + 1)) = lidN (repN c (m : Nat) mx) := by
  unfold repN tailN
  rw [sumN_smK, if_pos h]
  by_cases h0 : 0 < smK c m
  · rw [if_pos h0, if_pos ⟨h0, by omega⟩]
  · rw [if_neg h0, if_neg (fun x => h0 x.1)]
theorem rep_fin {c m j : Nat} {mx : Int} (h : mx = (m : Nat) + (j : Nat)) : lidN ((if 0 < smK c m ∧ 0 < tlK c j then smK c m + 1 else smK c m) + tlK c j) = lidN (repN c (m : Nat) mx) := by
  have ht : tailN c (m : Nat) mx = if j = 0 then 0 else j * (c + 3) - 1 := by
    unfold tailN
    rw [if_neg (by omega)]
    by_cases hj : j = 0
    · rw [if_neg (by omega), if_pos hj]
    · rw [if_pos (by omega), if_neg hj, show (mx - (m : Nat)).toNat = j by omega]
  unfold repN
  rw [sumN_smK, ht]
  by_cases hj : j = 0
  · subst hj; simp [tlK]
  · have hp := tlK_pos (c := c) (j := j) (by omega)
    have h1 : 1 * (c + 3) ≤ j * (c + 3) := Nat.mul_le_mul_right _ (by omega)
    have e : tlK c j = lidN (j * (c + 3) - 1) := by unfold tlK; rw [if_neg hj]
    rw [if_neg hj]
    by_cases h0 : 0 < smK c m
    · rw [if_pos ⟨h0, hp⟩, if_pos ⟨h0, by omega⟩, e, Nat.add_comm, lid_in, Nat.add_comm]
    · rw [if_neg (fun x => h0 x.1), if_neg (fun x => h0 x.1), e, Nat.add_comm, lid_in, Nat.add_comm]
set_option maxRecDepth 100000 in
set_option maxHeartbeats 16000000 in
theorem size_rep {ns : List Nd} {bk cp : Nat} {y g : Int} {w : World} {k A a2 m : Nat} {mx cap : Int} {lz : Bool} {st : BSet} (hN : NPAt w bk ns) (hbl : bk < w.heap.size) (hk24 : (k : Int) < ns.length) (n0 : w.cell? ⟨bk, k * 11, none⟩ = some (.int .i64 6)) (n1 : w.cell? ⟨bk, k * 11 + 1, none⟩ = some (.int .i64 (A : Nat))) (n2 : w.cell? ⟨bk, k * 11 + 2, none⟩ = some (.int .i64 (-1))) (n3 : w.cell? ⟨bk, k * 11 + 3, none⟩ = some (.int .i64 (m : Nat))) (n4 : w.cell? ⟨bk, k * 11 + 4, none⟩ = some (.int .i64 mx)) (n5 : w.cell? ⟨bk, k * 11 + 5, none⟩ = some (.int .i64 cap)) (n6 : w.cell? ⟨bk, k * 11 + 6, none⟩ = some (.bool lz)) (n7 : w.cell? ⟨bk, k * 11 + 7, none⟩ = some (.int .u64 (wd st 0 : Nat))) (n8 : w.cell? ⟨bk, k * 11 + 8, none⟩ = some (.int .u64 (wd st 1 : Nat))) (n9 : w.cell? ⟨bk, k * 11 + 9, none⟩ = some (.int .u64 (wd st 2 : Nat))) (n10 : w.cell? ⟨bk, k * 11 + 10, none⟩ = some (.int .u64 (wd st 3 : Nat)))
    (zA : SzC ns bk cp y g A a2) (ha1 : 1 ≤ a2) (ha2 : (a2 : Int) ≤ 32) (hm : m ≤ 3) (hx1 : -1 ≤ mx) (hx3 : mx ≤ 3) (hx : 0 ≤ mx → (m : Int) ≤ mx) :
    Calls Tryz.prog 103 #[.agg #[.slice (some ⟨bk, 0, none⟩) ns.length cp, .int .i64 y, .int .i64 g, .int .i64 0, .int .i64 0], .int .i64 (k : Nat)] w fun e w' => e = .returned (.int .i64 (lidN (repN a2 (m : Nat) mx) : Nat)) ∧ Fr (fun _ => False) w w' := by
  have hmI : (m : Int) ≤ 3 := by omega
  have G0 := Fr.refl (fun _ => False) ((w.alloc (.cells #[.slice (some ⟨bk, 0, none⟩) ns.length cp, .int .i64 y, .int .i64 g, .int .i64 0, .int .i64 0] 148)).alloc (.cells #[.int .i64 6, .int .i64 (A : Nat), .int .i64 (-1), .int .i64 (m : Nat), .int .i64 mx, .int .i64 cap, .bool lz, .int .u64 (wd st 0 : Nat), .int .u64 (wd st 1 : Nat), .int .u64 (wd st 2 : Nat), .int .u64 (wd st 3 : Nat)] 97))
  have F0 := ((Fr.refl (fun _ => False) w).alloc (.cells #[.slice (some ⟨bk, 0, none⟩) ns.length cp, .int .i64 y, .int .i64 g, .int .i64 0, .int .i64 0] 148)).alloc (.cells #[.int .i64 6, .int .i64 (A : Nat), .int .i64 (-1), .int .i64 (m : Nat), .int .i64 mx, .int .i64 cap, .bool lz, .int .u64 (wd st 0 : Nat), .int .u64 (wd st 1 : Nat), .int .u64 (wd st 2 : Nat), .int .u64 (wd st 3 : Nat)] 97)
  have hN0 := hN.frame F0 (fun h => h)
  go_enter Tryz.func103, Tryz.ntmps103
  go_wp2_with fail
  refine (zA _ hN0).mono ?_
  rintro e w1 ⟨rfl, f1⟩
  have G1 := G0.trans f1 (fun _ _ h => h)
  have F1 := F0.trans f1 (fun _ _ h => h)
  have hN1 := hN0.frame f1 (fun h => h)
  obtain ⟨r0, r1, r2, r3, r4, q1, q2, q3, q4⟩ := treeCells (n := ⟨6, (A : Nat), (-1), (m : Nat), mx, cap, lz, st⟩) G1
  clear n0 n1 n2 n3 n4 n5 n6 n7 n8 n9 n10 r0 r1 r2 r3 r4 q1 q2 q3 q4
  go_wp2_with fail
  go_loopg [13, 12] m (fun gk kv sv wr => ∃ k sm : Nat, kv = .int .i64 (k : Nat) ∧ sv = .int .i64 (sm : Nat) ∧ k + gk = m ∧ Hid (sm = smK a2 k) ∧ Fr (fun _ => False) w1 wr)
  case atStart => exact ⟨0, 0, rfl, rfl, by omega, rfl, Fr.refl _ _⟩
  case round =>
    obtain ⟨k, sm, rfl, rfl, hkg, Hs, hfr⟩ := hrel
    have hkg' : k + gk = m := hkg
    clear hkg
    have G2 := G1.trans hfr (fun _ _ h => h)
    obtain ⟨r0, r1, r2, r3, r4, q1, q2, q3, q4⟩ := treeCells (n := ⟨6, (A : Nat), -1, (m : Nat), mx, cap, lz, st⟩) G2
    have hsb : (sm : Int) ≤ 200 := by have := smK_le (c := a2) (k := k) (by omega) (by omega); rw [← Hs.out] at this; omega
    have hkI : (k : Int) ≤ 3 := by omega
    by_cases hlt : k < m
    · have hd : decide ((k : Int) < m) = true := decide_eq_true (by omega)
      by_cases h0 : 0 < k
      · have hd0 : decide ((0 : Int) < k) = true := decide_eq_true (by omega)
        have Hn : Hid (sm + a2 + 1 = smK a2 (k + 1)) := by show sm + a2 + 1 = smK a2 (k + 1); rw [smK_step h0 (by omega), Hs.out]
        go_wp2_with fail
        go_roundg (gk - 1)
        case measure => omega
        case rel => exact ⟨k + 1, sm + a2 + 1, by simp, by simp, by omega, Hn, hfr⟩
      · obtain rfl : k = 0 := by omega
        have Hn : Hid (sm + a2 = smK a2 (0 + 1)) := by show sm + a2 = smK a2 (0 + 1); rw [smK_0, Hs.out]; simp [smK]
        go_wp2_with fail
        go_roundg (gk - 1)
        case measure => omega
        case rel => exact ⟨1, sm + a2, by simp, by simp, by omega, Hn, hfr⟩
    · have hd : decide ((k : Int) < m) = false := decide_eq_false (by omega)
      obtain rfl : k = m := by omega
      clear hd
      by_cases hneg : mx < 0
      · have hdn : decide (mx < 0) = true := decide_eq_true hneg
        have hdk : decide ((k : Int) < mx) = false := decide_eq_false (by omega)
        have HF := rep_inf (c := a2) (m := k) hneg
        rw [← Hs.out] at HF
        have HF : Hid _ := HF
        go_wp2_with fail
        go_loopg [15, 14] 0 (fun gk jv tv wq => jv = .int .i64 (k : Nat) ∧ tv = .int .i64 ((a2 : Int) + 1) ∧ Fr (fun _ => False) w1 wq)
        case atStart => exact ⟨rfl, rfl, hfr⟩
        case round =>
          clear r0 r1 r2 r3 r4 q1 q2 q3 q4
          obtain ⟨rfl, rfl, hrel⟩ := hrel
          have G3 := G1.trans hrel (fun _ _ h => h)
          obtain ⟨r0, r1, r2, r3, r4, q1, q2, q3, q4⟩ := treeCells (n := ⟨6, (A : Nat), -1, (k : Nat), mx, cap, lz, st⟩) G3
          by_cases hs0 : 0 < sm
          · have hds : decide ((0 : Int) < sm) = true := decide_eq_true (by omega)
            have hdt : decide ((0 : Int) < (a2 : Int) + 1) = true := decide_eq_true (by omega)
            rw [if_pos hs0] at HF
            go_wp2_with fail
            refine (lidM_any (sm + 1 + (a2 + 1)) _).mono ?_
            rintro e wz ⟨rfl, rfl⟩
            go_wp2_with fail
            go_ret
            exact ⟨by rw [← HF.out]; rfl, F1.trans hrel (fun _ _ h => h)⟩
          · have hds : decide ((0 : Int) < sm) = false := decide_eq_false (by omega)
            rw [if_neg hs0] at HF
            go_wp2_with fail
            refine (lidM_any (sm + (a2 + 1)) _).mono ?_
            rintro e wz ⟨rfl, rfl⟩
            go_wp2_with fail
            go_ret
            exact ⟨by rw [← HF.out]; rfl, F1.trans hrel (fun _ _ h => h)⟩
      · have hdn : decide (mx < 0) = false := decide_eq_false hneg
        obtain ⟨J, hJ⟩ : ∃ J : Nat, mx = (k : Nat) + (J : Nat) := ⟨(mx - k).toNat, by omega⟩
        have HF := rep_fin (c := a2) hJ
        rw [← Hs.out] at HF
        have HF : Hid _ := HF
        subst hJ
        have hJI : (J : Int) ≤ 3 := by omega
        go_wp2_with fail
        go_loopg [15, 14] J (fun gj jv tv wq => ∃ j tl : Nat, jv = .int .i64 ((k : Int) + (j : Nat)) ∧ tv = .int .i64 (tl : Nat) ∧ j + gj = J ∧ Hid (tl = tlK a2 j) ∧ Fr (fun _ => False) w1 wq)
        case atStart => exact ⟨0, 0, by simp, rfl, by omega, rfl, hfr⟩
        case round =>
          clear r0 r1 r2 r3 r4 q1 q2 q3 q4
          obtain ⟨j, tl, rfl, rfl, hjg, Ht, hfq⟩ := hrel
          have hjg' : j + gk = J := hjg
          clear hjg
          have G3 := G1.trans hfq (fun _ _ h => h)
          obtain ⟨r0, r1, r2, r3, r4, q1, q2, q3, q4⟩ := treeCells (n := ⟨6, (A : Nat), -1, (k : Nat), (k : Nat) + (J : Nat), cap, lz, st⟩) G3
          have htb : (tl : Int) ≤ 32 := by have := tlK_le a2 j; rw [← Ht.out] at this; omega
          have hjI : (j : Int) ≤ 3 := by omega
          by_cases hlj : j < J
          · have hd : decide ((k : Int) + j < (k : Int) + J) = true := decide_eq_true (by omega)
            by_cases h0 : 0 < j
            · have htp : 0 < tl := by have := tlK_pos (c := a2) h0; rw [← Ht.out] at this; exact this
              have hd0 : decide ((0 : Int) < tl) = true := decide_eq_true (by omega)
              have Hn : Hid (lidN (tl + 1 + a2 + 2) = tlK a2 (j + 1)) := by show lidN (tl + 1 + a2 + 2) = tlK a2 (j + 1); rw [tlK_step h0, Ht.out]
              go_wp2_with fail
              refine (lidM_any (tl + 1 + a2 + 2) _).mono ?_
              rintro e wz ⟨rfl, rfl⟩
              go_wp2_with fail
              go_roundg (gk - 1)
              case measure => omega
              case rel => exact ⟨j + 1, _, by simp; omega, rfl, by omega, Hn, hfq⟩
            · obtain rfl : j = 0 := by omega
              obtain rfl : tl = 0 := Ht.out
              have Hn : Hid (lidN (a2 + 2) = tlK a2 (0 + 1)) := tlK_0.symm
              go_wp2_with fail
              refine (lidM_any (a2 + 2) _).mono ?_
              rintro e wz ⟨rfl, rfl⟩
              go_wp2_with fail
              go_roundg (gk - 1)
              case measure => omega
              case rel => exact ⟨0 + 1, _, by simp, rfl, by omega, Hn, hfq⟩
          · have hd : decide ((k : Int) + j < (k : Int) + J) = false := decide_eq_false (by omega)
            obtain rfl : j = J := by omega
            rw [← Ht.out] at HF
            by_cases hs0 : 0 < sm
            · have hds : decide ((0 : Int) < sm) = true := decide_eq_true (by omega)
              by_cases ht0 : 0 < tl
              · have hdt : decide ((0 : Int) < tl) = true := decide_eq_true (by omega)
                rw [if_pos ⟨hs0, ht0⟩] at HF
                go_wp2_with fail
                refine (lidM_any (sm + 1 + tl) _).mono ?_
                rintro e wz ⟨rfl, rfl⟩
                go_wp2_with fail
                go_ret
                exact ⟨by rw [← HF.out]; rfl, F1.trans hfq (fun _ _ h => h)⟩
              · have hdt : decide ((0 : Int) < tl) = false := decide_eq_false (by omega)
                rw [if_neg (fun x => ht0 x.2)] at HF
                go_wp2_with fail
                refine (lidM_any (sm + tl) _).mono ?_
                rintro e wz ⟨rfl, rfl⟩
                go_wp2_with fail
                go_ret
                exact ⟨by rw [← HF.out]; rfl, F1.trans hfq (fun _ _ h => h)⟩
            · have hds : decide ((0 : Int) < sm) = false := decide_eq_false (by omega)
              rw [if_neg (fun x => hs0 x.1)] at HF
              go_wp2_with fail
              refine (lidM_any (sm + tl) _).mono ?_
              rintro e wz ⟨rfl, rfl⟩
              go_wp2_with fail
              go_ret
              exact ⟨by rw [← HF.out]; rfl, F1.trans hfq (fun _ _ h => h)⟩
end Go.Proofs.Qxb6500283aGreat
