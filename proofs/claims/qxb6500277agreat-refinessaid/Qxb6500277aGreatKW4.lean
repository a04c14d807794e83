/- The real heap: loads and stores. -/
import Derived.Test.Qxb6500277aGreatKW3
namespace Go.Proofs.Qxb6500277aGreat
open Go Go.RowKit

section
variable {w : World} {h : Nat} {S : HS} {os : List Int}
set_option maxHeartbeats 1600000 in
theorem loadIntF (H : HM w h S) (hI : HInv S os) (i f : Int) : Calls Tryz.prog 162 #[.pointer (some ⟨h, 0, none⟩), .int .i64 i, .int .i64 f] w fun e w' => e = .returned (.tuple #[.int .i64 (ldIntN S i f).1, .int .i64 (ldIntN S i f).2]) ∧ w' = w := by
  have hlt := H.lt
  have hA := intAtF H hI i f
  unfold intN at hA
  unfold ldIntN
  rcases hI.at i with ⟨h1, h2, hd⟩ | ⟨k, rfl, hk, ⟨h1, h2, hd⟩ | ⟨a, h1, h2, h3, h4, h5, h6, h7, h8⟩⟩
  · simp only [h1] at hA ⊢
    go_enter Tryz.func162, Tryz.ntmps162
    go_wp2_with fail
    refine hA.mono ?_
    rintro e w1 ⟨rfl, rfl⟩
    go_wp2_with fail
    exact bodyPost_ret (v := .tuple #[.int .i64 0, .int .i64 2]) (by simp [results, Tryz.results162, go_sem]) rfl ⟨rfl, rfl⟩
  · simp only [h1] at hA ⊢
    go_enter Tryz.func162, Tryz.ntmps162
    go_wp2_with fail
    refine hA.mono ?_
    rintro e w1 ⟨rfl, rfl⟩
    go_wp2_with fail
    exact bodyPost_ret (v := .tuple #[.int .i64 0, .int .i64 4]) (by simp [results, Tryz.results162, go_sem]) rfl ⟨rfl, rfl⟩
  · simp only [h1, h2, ne_eq, not_true_eq_false, if_false, Int.toNat_natCast] at hA ⊢
    have hwd : wdO S.mem a = 1 + nrO S.mem a + niO S.mem a := rfl
    by_cases hf : f < 0 ∨ (niO S.mem a : Int) ≤ f
    · simp only [if_pos hf] at hA ⊢
      go_enter Tryz.func162, Tryz.ntmps162
      go_wp2_with fail
      refine hA.mono ?_
      rintro e w1 ⟨rfl, rfl⟩
      go_wp2_with fail
      exact bodyPost_ret (v := .tuple #[.int .i64 0, .int .i64 5]) (by simp [results, Tryz.results162, go_sem]) rfl ⟨rfl, rfl⟩
    · simp only [if_neg hf] at hA ⊢
      obtain ⟨j, rfl⟩ := Int.eq_ofNat_of_zero_le (show 0 ≤ f by omega)
      simp only [Int.toNat_natCast]
      have hc := H.mem (o := a + 1 + nrO S.mem a + j) (by omega)
      have e1 : (a : Int) + 1 + (nrO S.mem a : Int) + j = ((a + 1 + nrO S.mem a + j : Nat) : Int) := by omega
      have hb : a + 1 + nrO S.mem a + j < 96 := by omega
      rw [e1] at hA
      generalize a + 1 + nrO S.mem a + j = o at *
      clear hf hwd h6 e1 h1 h2
      go_enter Tryz.func162, Tryz.ntmps162
      go_wp2_with fail
      refine hA.mono ?_
      rintro e w1 ⟨rfl, rfl⟩
      go_wp2_with fail
      exact bodyPost_ret (v := .tuple #[.int .i64 (S.mem o), .int .i64 0]) (by simp [results, Tryz.results162, go_sem]) rfl ⟨rfl, rfl⟩
set_option maxHeartbeats 1600000 in
theorem storeIntF (H : HM w h S) (hI : HInv S os) (i f v : Int) : Calls Tryz.prog 164 #[.pointer (some ⟨h, 0, none⟩), .int .i64 i, .int .i64 f, .int .i64 v] w fun e w' => e = .returned (.int .i64 (stIntN S i f v).1) ∧ HM w' h (stIntN S i f v).2 ∧ Fr (OnlyH h) w w' := by
  have hlt := H.lt
  have hA := intAtF H hI i f
  unfold intN at hA
  unfold stIntN
  rcases hI.at i with ⟨h1, h2, hd⟩ | ⟨k, rfl, hk, ⟨h1, h2, hd⟩ | ⟨a, h1, h2, h3, h4, h5, h6, h7, h8⟩⟩
  · simp only [h1] at hA ⊢
    go_enter Tryz.func164, Tryz.ntmps164
    go_wp2_with fail
    refine hA.mono ?_
    rintro e w1 ⟨rfl, rfl⟩
    go_wp2_with fail
    go_ret
    exact ⟨rfl, H, Fr.refl _ _⟩
  · simp only [h1] at hA ⊢
    go_enter Tryz.func164, Tryz.ntmps164
    go_wp2_with fail
    refine hA.mono ?_
    rintro e w1 ⟨rfl, rfl⟩
    go_wp2_with fail
    go_ret
    exact ⟨rfl, H, Fr.refl _ _⟩
  · simp only [h1, h2, ne_eq, not_true_eq_false, if_false, Int.toNat_natCast] at hA ⊢
    have hwd : wdO S.mem a = 1 + nrO S.mem a + niO S.mem a := rfl
    by_cases hf : f < 0 ∨ (niO S.mem a : Int) ≤ f
    · simp only [if_pos hf] at hA ⊢
      go_enter Tryz.func164, Tryz.ntmps164
      go_wp2_with fail
      refine hA.mono ?_
      rintro e w1 ⟨rfl, rfl⟩
      go_wp2_with fail
      go_ret
      exact ⟨rfl, H, Fr.refl _ _⟩
    · simp only [if_neg hf] at hA ⊢
      obtain ⟨j, rfl⟩ := Int.eq_ofNat_of_zero_le (show 0 ≤ f by omega)
      simp only [Int.toNat_natCast]
      have e1 : (a : Int) + 1 + (nrO S.mem a : Int) + j = ((a + 1 + nrO S.mem a + j : Nat) : Int) := by omega
      have hb : a + 1 + nrO S.mem a + j < 96 := by omega
      rw [e1] at hA
      generalize a + 1 + nrO S.mem a + j = o at *
      clear hf hwd h6 e1 h1 h2
      have hc := H.mem hb
      have z := Blk.frozen H o
      have Hk : Hid (_ ∧ _) := ⟨H.setMem hb v, (Fr.refl (OnlyH h) w).setC h o (.int .i64 v) (fun _ => rfl)⟩
      go_enter Tryz.func164, Tryz.ntmps164
      go_wp2_with fail
      refine hA.mono ?_
      rintro e w1 ⟨rfl, rfl⟩
      go_wp2_with fail
      go_ret
      exact ⟨rfl, Hk.out⟩
set_option maxHeartbeats 1600000 in
theorem loadRefF (H : HM w h S) (hI : HInv S os) (i f j : Int) : Calls Tryz.prog 163 #[.pointer (some ⟨h, 0, none⟩), .int .i64 i, .int .i64 f, .int .i64 j] w fun e w' => e = .returned (.int .i64 (ldRefN S i f j).1) ∧ HM w' h (ldRefN S i f j).2 ∧ Fr (OnlyH h) w w' := by
  have hlt := H.lt
  have ht := hI.top
  have c1 := H.top
  have hA := refAtF H hI i f
  unfold refN at hA
  unfold ldRefN
  rcases hI.at i with ⟨h1, h2, hd⟩ | ⟨k, rfl, hk, ⟨h1, h2, hd⟩ | ⟨a, h1, h2, h3, h4, h5, h6, h7, h8⟩⟩
  · simp only [h1] at hA ⊢
    go_enter Tryz.func163, Tryz.ntmps163
    go_wp2_with fail
    refine hA.mono ?_
    rintro e w1 ⟨rfl, rfl⟩
    go_wp2_with fail
    go_ret
    exact ⟨rfl, H, Fr.refl _ _⟩
  · simp only [h1] at hA ⊢
    go_enter Tryz.func163, Tryz.ntmps163
    go_wp2_with fail
    refine hA.mono ?_
    rintro e w1 ⟨rfl, rfl⟩
    go_wp2_with fail
    go_ret
    exact ⟨rfl, H, Fr.refl _ _⟩
  · simp only [h1, h2, ne_eq, not_true_eq_false, if_false, Int.toNat_natCast] at hA ⊢
    have hwd : wdO S.mem a = 1 + nrO S.mem a + niO S.mem a := rfl
    by_cases hf : f < 0 ∨ (nrO S.mem a : Int) ≤ f
    · simp only [if_pos hf] at hA ⊢
      go_enter Tryz.func163, Tryz.ntmps163
      go_wp2_with fail
      refine hA.mono ?_
      rintro e w1 ⟨rfl, rfl⟩
      go_wp2_with fail
      go_ret
      exact ⟨rfl, H, Fr.refl _ _⟩
    · simp only [if_neg hf] at hA ⊢
      obtain ⟨j2, rfl⟩ := Int.eq_ofNat_of_zero_le (show 0 ≤ f by omega)
      simp only [Int.toNat_natCast]
      have e1 : (a : Int) + 1 + j2 = ((a + 1 + j2 : Nat) : Int) := by omega
      have hb : a + 1 + j2 < 96 := by omega
      rw [e1] at hA
      generalize a + 1 + j2 = o at *
      clear hf hwd h6 e1 h1 h2
      have hc := H.mem hb
      by_cases hj : j < 0 ∨ (S.top : Int) ≤ j
      · rw [if_pos hj]
        have hj : j < 0 ∨ (0 ≤ j ∧ (S.top : Int) ≤ j) := by omega
        rcases hj with hj | ⟨hn, hj⟩
        all_goals
          go_enter Tryz.func163, Tryz.ntmps163
          go_wp2_with fail
          refine hA.mono ?_
          rintro e w1 ⟨rfl, rfl⟩
          go_wp2_with fail
          go_ret
          exact ⟨rfl, H, Fr.refl _ _⟩
      · rw [if_neg hj]
        obtain ⟨q, rfl⟩ := Int.eq_ofNat_of_zero_le (show 0 ≤ j by omega)
        simp only [Int.toNat_natCast]
        have hq : q < S.top := by omega
        have hq2 : q < 24 := by omega
        clear hj
        have c2 := H.root hq2
        have z := Blk.frozen H (98 + q)
        have Hk : Hid (_ ∧ _) := ⟨H.setRoot hq2 (S.mem o), (Fr.refl (OnlyH h) w).setC h (98 + q) (.int .i64 (S.mem o)) (fun _ => rfl)⟩
        go_enter Tryz.func163, Tryz.ntmps163
        go_wp2_with fail
        refine hA.mono ?_
        rintro e w1 ⟨rfl, rfl⟩
        go_wp2_with fail
        refine wp_region_text (by kernel_rfl) (by kernel_rfl) ?_
        go_wp2_with fail
        refine ⟨by kernel_rfl, ?_⟩
        go_wp2_with fail
        go_ret
        exact ⟨rfl, Hk.out.1, Hk.out.2.drew⟩
set_option maxHeartbeats 1600000 in
theorem storeRefF (H : HM w h S) (hI : HInv S os) (i f j : Int) : Calls Tryz.prog 165 #[.pointer (some ⟨h, 0, none⟩), .int .i64 i, .int .i64 f, .int .i64 j] w fun e w' => e = .returned (.int .i64 (stRefN S i f j).1) ∧ HM w' h (stRefN S i f j).2 ∧ Fr (OnlyH h) w w' := by
  have hlt := H.lt
  have ht := hI.top
  have c1 := H.top
  have hA := refAtF H hI i f
  unfold refN at hA
  unfold stRefN
  rcases hI.at i with ⟨h1, h2, hd⟩ | ⟨k, rfl, hk, ⟨h1, h2, hd⟩ | ⟨a, h1, h2, h3, h4, h5, h6, h7, h8⟩⟩
  · simp only [h1] at hA ⊢
    go_enter Tryz.func165, Tryz.ntmps165
    go_wp2_with fail
    refine hA.mono ?_
    rintro e w1 ⟨rfl, rfl⟩
    go_wp2_with fail
    go_ret
    exact ⟨rfl, H, Fr.refl _ _⟩
  · simp only [h1] at hA ⊢
    go_enter Tryz.func165, Tryz.ntmps165
    go_wp2_with fail
    refine hA.mono ?_
    rintro e w1 ⟨rfl, rfl⟩
    go_wp2_with fail
    go_ret
    exact ⟨rfl, H, Fr.refl _ _⟩
  · simp only [h1, h2, ne_eq, not_true_eq_false, if_false, Int.toNat_natCast] at hA ⊢
    have hwd : wdO S.mem a = 1 + nrO S.mem a + niO S.mem a := rfl
    by_cases hf : f < 0 ∨ (nrO S.mem a : Int) ≤ f
    · simp only [if_pos hf] at hA ⊢
      go_enter Tryz.func165, Tryz.ntmps165
      go_wp2_with fail
      refine hA.mono ?_
      rintro e w1 ⟨rfl, rfl⟩
      go_wp2_with fail
      go_ret
      exact ⟨rfl, H, Fr.refl _ _⟩
    · simp only [if_neg hf] at hA ⊢
      obtain ⟨j2, rfl⟩ := Int.eq_ofNat_of_zero_le (show 0 ≤ f by omega)
      simp only [Int.toNat_natCast]
      have e1 : (a : Int) + 1 + j2 = ((a + 1 + j2 : Nat) : Int) := by omega
      have hb : a + 1 + j2 < 96 := by omega
      rw [e1] at hA
      generalize a + 1 + j2 = o at *
      clear hf hwd h6 e1 h1 h2
      have hc := H.mem hb
      by_cases hj : j < 0 ∨ (S.top : Int) ≤ j
      · rw [if_pos hj]
        have hj : j < 0 ∨ (0 ≤ j ∧ (S.top : Int) ≤ j) := by omega
        rcases hj with hj | ⟨hn, hj⟩
        all_goals
          go_enter Tryz.func165, Tryz.ntmps165
          go_wp2_with fail
          refine hA.mono ?_
          rintro e w1 ⟨rfl, rfl⟩
          go_wp2_with fail
          go_ret
          exact ⟨rfl, H, Fr.refl _ _⟩
      · rw [if_neg hj]
        obtain ⟨q, rfl⟩ := Int.eq_ofNat_of_zero_le (show 0 ≤ j by omega)
        simp only [Int.toNat_natCast]
        have hq : q < S.top := by omega
        have hq2 : q < 24 := by omega
        clear hj
        have c2 := H.root hq2
        have z := Blk.frozen H o
        have Hk : Hid (_ ∧ _) := ⟨H.setMem hb (S.roots q), (Fr.refl (OnlyH h) w).setC h o (.int .i64 (S.roots q)) (fun _ => rfl)⟩
        go_enter Tryz.func165, Tryz.ntmps165
        go_wp2_with fail
        refine hA.mono ?_
        rintro e w1 ⟨rfl, rfl⟩
        go_wp2_with fail
        refine wp_region_text (by kernel_rfl) (by kernel_rfl) ?_
        go_wp2_with fail
        refine ⟨by kernel_rfl, ?_⟩
        go_wp2_with fail
        go_ret
        exact ⟨rfl, Hk.out.1, Hk.out.2.drew⟩
end
end Go.Proofs.Qxb6500277aGreat
