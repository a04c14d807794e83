/- The real heap: the stack of slots. -/
import Derived.Test.Qxb6500277aGreatKW1
namespace Go.Proofs.Qxb6500277aGreat
open Go Go.RowKit

section
variable {w : World} {h : Nat} {S : HS}
def OnlyH (h : Nat) (c : Nat) : Prop := c = h
set_option maxHeartbeats 400000 in
theorem depthF (H : HM w h S) : Calls Tryz.prog 99 #[.pointer (some ⟨h, 0, none⟩)] w fun e w' => e = .returned (.int .i64 S.top) ∧ w' = w := by
  have c1 := H.top
  go_enter Tryz.func99, Tryz.ntmps99
  go_wp2_with fail
  go_ret
  exact ⟨rfl, rfl⟩
set_option maxHeartbeats 400000 in
theorem freeF (H : HM w h S) (hb : S.base ≤ 48) (hf : S.free ≤ 96) : Calls Tryz.prog 202 #[.pointer (some ⟨h, 0, none⟩)] w fun e w' => e = .returned (.int .i64 ((S.base : Int) + 48 - S.free)) ∧ HM w' h S ∧ Fr (fun _ => False) w w' := by
  have c1 := H.base
  have c2 := H.free
  have hlt := H.lt
  go_enter Tryz.func202, Tryz.ntmps202
  go_wp2_with fail
  refine wp_region_text (by kernel_rfl) (by kernel_rfl) ?_
  go_wp2_with fail
  refine ⟨by kernel_rfl, ?_⟩
  go_wp2_with fail
  go_ret
  exact ⟨rfl, H, (Fr.refl _ _).drew⟩
set_option maxHeartbeats 800000 in
theorem pushF (H : HM w h S) (ht : S.top ≤ 24) : Calls Tryz.prog 105 #[.pointer (some ⟨h, 0, none⟩)] w fun e w' => e = .returned (.int .i64 (pushN S).1) ∧ HM w' h (pushN S).2 ∧ Fr (OnlyH h) w w' := by
  have c1 := H.top
  have hlt := H.lt
  unfold pushN
  by_cases hf : 24 ≤ S.top
  · rw [if_pos hf]
    go_enter Tryz.func105, Tryz.ntmps105
    go_wp2_with fail
    go_ret
    exact ⟨rfl, H, Fr.refl _ _⟩
  · rw [if_neg hf]
    have hf2 : S.top < 24 := by omega
    have c2 := H.root hf2
    have z1 := Blk.frozen H (98 + S.top)
    have z2 := Blk.frozen H 122
    have key := (H.setRoot hf2 (-1)).setTop (S.top + 1)
    have kF : Fr (OnlyH h) w _ := ((Fr.refl (OnlyH h) w).setC h (98 + S.top) (.int .i64 (-1)) (fun _ => rfl)).setC h 122 (.int .i64 ((S.top + 1 : Nat) : Int)) (fun _ => rfl)
    have Hk : Hid (_ ∧ _) := ⟨key, kF⟩
    clear key kF ht hf
    go_enter Tryz.func105, Tryz.ntmps105
    go_wp2_with fail
    refine wp_region_text (by kernel_rfl) (by kernel_rfl) ?_
    go_wp2_with fail
    refine ⟨by kernel_rfl, ?_⟩
    go_wp2_with fail
    go_ret
    exact ⟨rfl, Hk.out.1, Hk.out.2.drew⟩
set_option maxHeartbeats 800000 in
theorem popF (H : HM w h S) (ht : S.top ≤ 24) (n : Int) : Calls Tryz.prog 100 #[.pointer (some ⟨h, 0, none⟩), .int .i64 n] w fun e w' => e = .returned (.int .i64 (popN S n).1) ∧ HM w' h (popN S n).2 ∧ Fr (OnlyH h) w w' := by
  have c1 := H.top
  have hlt := H.lt
  unfold popN
  by_cases hf : n < 0 ∨ (S.top : Int) < n
  · rw [if_pos hf]
    rcases hf with hf | hf
    · go_enter Tryz.func100, Tryz.ntmps100
      go_wp2_with fail
      go_ret
      exact ⟨rfl, H, Fr.refl _ _⟩
    · go_enter Tryz.func100, Tryz.ntmps100
      go_wp2_with fail
      go_ret
      exact ⟨rfl, H, Fr.refl _ _⟩
  · rw [if_neg hf]
    obtain ⟨k, rfl⟩ := Int.eq_ofNat_of_zero_le (show 0 ≤ n by omega)
    have hk : k ≤ S.top := by omega
    have z2 := Blk.frozen H 122
    have key := H.setTop (S.top - k)
    have kF : Fr (OnlyH h) w _ := (Fr.refl (OnlyH h) w).setC h 122 (.int .i64 ((S.top - k : Nat) : Int)) (fun _ => rfl)
    have Hk : Hid (_ ∧ _) := ⟨key, kF⟩
    have e1 : (S.top : Int) - k = ((S.top - k : Nat) : Int) := by omega
    simp only [Int.toNat_natCast]
    clear key kF hf
    go_enter Tryz.func100, Tryz.ntmps100
    go_wp2_with fail
    go_ret
    exact ⟨rfl, Hk.out⟩
set_option maxHeartbeats 800000 in
theorem slideF (H : HM w h S) (ht : S.top ≤ 24) (n : Int) : Calls Tryz.prog 160 #[.pointer (some ⟨h, 0, none⟩), .int .i64 n] w fun e w' => e = .returned (.int .i64 (slideN S n).1) ∧ HM w' h (slideN S n).2 ∧ Fr (OnlyH h) w w' := by
  have c1 := H.top
  have hlt := H.lt
  unfold slideN
  by_cases hf : n < 0 ∨ (S.top : Int) ≤ n
  · rw [if_pos hf]
    rcases hf with hf | hf
    · go_enter Tryz.func160, Tryz.ntmps160
      go_wp2_with fail
      go_ret
      exact ⟨rfl, H, Fr.refl _ _⟩
    · go_enter Tryz.func160, Tryz.ntmps160
      go_wp2_with fail
      go_ret
      exact ⟨rfl, H, Fr.refl _ _⟩
  · rw [if_neg hf]
    obtain ⟨k, rfl⟩ := Int.eq_ofNat_of_zero_le (show 0 ≤ n by omega)
    obtain ⟨t, hT⟩ : ∃ t, S.top = t + k + 1 := ⟨S.top - k - 1, by omega⟩
    simp only [Int.toNat_natCast]
    have e2 : S.top - 1 - k = t := by omega
    have e3 : S.top - 1 = t + k := by omega
    have e4 : S.top - k = t + 1 := by omega
    rw [e2, e3, e4]
    rw [hT] at c1
    have c2 := H.root (i := t + k) (by omega)
    have c3 := H.root (i := t) (by omega)
    have z1 := Blk.frozen H (98 + t)
    have z2 := Blk.frozen H 122
    have key := (H.setRoot (i := t) (by omega) (S.roots (t + k))).setTop (t + 1)
    have kF : Fr (OnlyH h) w _ := ((Fr.refl (OnlyH h) w).setC h (98 + t) (.int .i64 (S.roots (t + k))) (fun _ => rfl)).setC h 122 (.int .i64 ((t + 1 : Nat) : Int)) (fun _ => rfl)
    have Hk : Hid (_ ∧ _) := ⟨key, kF⟩
    have htk : t + k + 1 ≤ 24 := by omega
    have e5 : (t : Int) + k + 1 - k = ((t + 1 : Nat) : Int) := by omega
    clear key kF hf e2 e3 e4 hT ht
    go_enter Tryz.func160, Tryz.ntmps160
    go_wp2_with fail
    refine wp_region_text (by kernel_rfl) (by kernel_rfl) ?_
    go_wp2_with fail
    refine ⟨by kernel_rfl, ?_⟩
    go_wp2_with fail
    go_ret
    exact ⟨rfl, Hk.out.1, Hk.out.2.drew⟩
set_option maxHeartbeats 800000 in
theorem dupF (H : HM w h S) (ht : S.top ≤ 24) (n : Int) : Calls Tryz.prog 154 #[.pointer (some ⟨h, 0, none⟩), .int .i64 n] w fun e w' => e = .returned (.int .i64 (dupN S n).1) ∧ HM w' h (dupN S n).2 ∧ Fr (OnlyH h) w w' := by
  have c1 := H.top
  have hlt := H.lt
  unfold dupN
  by_cases hf : n < 0 ∨ (S.top : Int) ≤ n
  · rw [if_pos hf]
    rcases hf with hf | hf
    · go_enter Tryz.func154, Tryz.ntmps154
      go_wp2_with fail
      go_ret
      exact ⟨rfl, H, Fr.refl _ _⟩
    · go_enter Tryz.func154, Tryz.ntmps154
      go_wp2_with fail
      go_ret
      exact ⟨rfl, H, Fr.refl _ _⟩
  · rw [if_neg hf]
    obtain ⟨k, rfl⟩ := Int.eq_ofNat_of_zero_le (show 0 ≤ n by omega)
    have hk : k < S.top := by omega
    simp only [Int.toNat_natCast]
    by_cases h24 : 24 ≤ S.top
    · rw [if_pos h24]
      clear hf
      go_enter Tryz.func154, Tryz.ntmps154
      go_wp2_with fail
      go_ret
      exact ⟨rfl, H, Fr.refl _ _⟩
    · rw [if_neg h24]
      have hf2 : S.top < 24 := by omega
      have c2 := H.root hf2
      have c3 := H.root (i := k) (by omega)
      have z1 := Blk.frozen H (98 + S.top)
      have z2 := Blk.frozen H 122
      have key := (H.setRoot hf2 (S.roots k)).setTop (S.top + 1)
      have kF : Fr (OnlyH h) w _ := ((Fr.refl (OnlyH h) w).setC h (98 + S.top) (.int .i64 (S.roots k)) (fun _ => rfl)).setC h 122 (.int .i64 ((S.top + 1 : Nat) : Int)) (fun _ => rfl)
      have Hk : Hid (_ ∧ _) := ⟨key, kF⟩
      clear key kF ht hf h24
      go_enter Tryz.func154, Tryz.ntmps154
      go_wp2_with fail
      refine wp_region_text (by kernel_rfl) (by kernel_rfl) ?_
      go_wp2_with fail
      refine ⟨by kernel_rfl, ?_⟩
      go_wp2_with fail
      go_ret
      exact ⟨rfl, Hk.out.1, Hk.out.2.drew⟩
set_option maxHeartbeats 800000 in
theorem setF (H : HM w h S) (ht : S.top ≤ 24) (n : Int) : Calls Tryz.prog 155 #[.pointer (some ⟨h, 0, none⟩), .int .i64 n] w fun e w' => e = .returned (.int .i64 (setN S n).1) ∧ HM w' h (setN S n).2 ∧ Fr (OnlyH h) w w' := by
  have c1 := H.top
  have hlt := H.lt
  unfold setN
  by_cases hf : n < 0 ∨ (S.top : Int) - 1 ≤ n
  · rw [if_pos hf]
    have hf : n < 0 ∨ (0 ≤ n ∧ (S.top : Int) - 1 ≤ n) := by omega
    rcases hf with hf | ⟨hn, hf⟩
    · go_enter Tryz.func155, Tryz.ntmps155
      go_wp2_with fail
      go_ret
      exact ⟨rfl, H, Fr.refl _ _⟩
    · go_enter Tryz.func155, Tryz.ntmps155
      go_wp2_with fail
      go_ret
      exact ⟨rfl, H, Fr.refl _ _⟩
  · rw [if_neg hf]
    obtain ⟨k, rfl⟩ := Int.eq_ofNat_of_zero_le (show 0 ≤ n by omega)
    obtain ⟨t, hT⟩ : ∃ t, S.top = t + 1 := ⟨S.top - 1, by omega⟩
    simp only [Int.toNat_natCast]
    have e3 : S.top - 1 = t := by omega
    have hk : k < t := by omega
    rw [e3]
    rw [hT] at c1
    have c2 := H.root (i := t) (by omega)
    have c3 := H.root (i := k) (by omega)
    have z1 := Blk.frozen H (98 + k)
    have z2 := Blk.frozen H 122
    have key := (H.setRoot (i := k) (by omega) (S.roots t)).setTop t
    have kF : Fr (OnlyH h) w _ := ((Fr.refl (OnlyH h) w).setC h (98 + k) (.int .i64 (S.roots t)) (fun _ => rfl)).setC h 122 (.int .i64 (t : Int)) (fun _ => rfl)
    have Hk : Hid (_ ∧ _) := ⟨key, kF⟩
    have htk : t < 24 := by omega
    clear key kF hf e3 hT ht
    go_enter Tryz.func155, Tryz.ntmps155
    go_wp2_with fail
    refine wp_region_text (by kernel_rfl) (by kernel_rfl) ?_
    go_wp2_with fail
    refine ⟨by kernel_rfl, ?_⟩
    go_wp2_with fail
    go_ret
    exact ⟨rfl, Hk.out.1, Hk.out.2.drew⟩
end
end Go.Proofs.Qxb6500277aGreat
