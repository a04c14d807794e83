/- The model heap: at, Depth, Pop, Slide, Set. -/
import Derived.Test.Qxb6500277aGreatKM2
namespace Go.Proofs.Qxb6500277aGreat
open Go Go.RowKit

theorem atM_cases (M : MS) (i : Int) : ((i < 0 ∨ M.rt.length ≤ i) ∧ atM M i = (-1, 2)) ∨ ∃ k : Nat, i = k ∧ ∃ hk : k < M.rt.length, (M.rt[k] < 0 ∧ atM M i = (-1, 4)) ∨ (0 ≤ M.rt[k] ∧ atM M i = (M.rt[k], 0)) := by
  unfold atM
  by_cases hi : i < 0 ∨ (M.rt.length : Int) ≤ i
  · exact .inl ⟨hi, by rw [if_pos hi]⟩
  · obtain ⟨k, rfl⟩ := Int.eq_ofNat_of_zero_le (show 0 ≤ i by omega)
    have hk : k < M.rt.length := by omega
    refine .inr ⟨k, rfl, hk, ?_⟩
    rw [if_neg hi]
    simp only [Int.toNat_natCast, List.getElem?_eq_getElem hk, Option.getD_some]
    by_cases h0 : M.rt[k] < 0
    · exact .inl ⟨h0, by rw [if_pos h0]⟩
    · exact .inr ⟨by omega, by rw [if_neg h0]⟩
section
variable {w : World} {m : Nat} {M : MS} {O : Nat → Prop}
set_option maxHeartbeats 1000000 in
theorem depthMF (H : MM w m M O) : Calls Tryz.prog 37 #[.pointer (some ⟨m, 0, none⟩)] w fun e w' => e = .returned (.int .i64 (M.rt.length : Nat)) ∧ w' = w := by
  obtain ⟨ov, rv, f, V⟩ := H
  obtain ⟨c0, c1, hlt, hz⟩ := V.cells
  obtain ⟨ra, rc, hrv, hrc⟩ := V.rt.sl
  rw [hrv] at c1
  go_enter Tryz.func37, Tryz.ntmps37
  go_wp2_with fail
  go_ret
  exact ⟨rfl, rfl⟩
set_option maxHeartbeats 1000000 in
theorem atMF (H : MM w m M O) (h24 : M.rt.length ≤ 24) (i : Int) : Calls Tryz.prog 141 #[.pointer (some ⟨m, 0, none⟩), .int .i64 i] w fun e w' => e = .returned (.tuple #[.int .i64 (atM M i).1, .int .i64 (atM M i).2]) ∧ w' = w := by
  obtain ⟨ov, rv, f, V⟩ := H
  obtain ⟨c0, c1, hlt, hz⟩ := V.cells
  rcases atM_cases M i with ⟨hi, e1⟩ | ⟨k, rfl, hk, hd⟩
  · obtain ⟨ra, rc, hrv, hrc⟩ := V.rt.sl
    rw [hrv] at c1
    rw [e1]
    rcases hi with hi | hi
    all_goals
      go_enter Tryz.func141, Tryz.ntmps141
      go_wp2_with fail
      exact bodyPost_ret (v := .tuple #[.int .i64 (-1), .int .i64 2]) (by simp [results, Tryz.results141, go_sem]) rfl ⟨rfl, rfl⟩
  · obtain ⟨b, c, hrv, hb, cb, _⟩ := V.rt.get hk
    rw [hrv] at c1
    have hk' : (k : Int) < M.rt.length := by omega
    rcases hd with ⟨h0, e1⟩ | ⟨h0, e1⟩
    · rw [e1]
      go_enter Tryz.func141, Tryz.ntmps141
      go_wp2_with fail
      exact bodyPost_ret (v := .tuple #[.int .i64 (-1), .int .i64 4]) (by simp [results, Tryz.results141, go_sem]) rfl ⟨rfl, rfl⟩
    · rw [e1]
      generalize M.rt[k] = x at *
      go_enter Tryz.func141, Tryz.ntmps141
      go_wp2_with fail
      exact bodyPost_ret (v := .tuple #[.int .i64 x, .int .i64 0]) (by simp [results, Tryz.results141, go_sem]) rfl ⟨rfl, rfl⟩
set_option maxRecDepth 100000 in
set_option maxHeartbeats 4000000 in
theorem popMF (H : MM w m M O) (h24 : M.rt.length ≤ 24) (n : Int) : Calls Tryz.prog 38 #[.pointer (some ⟨m, 0, none⟩), .int .i64 n] w fun e w' => e = .returned (.int .i64 (popM M n).1) ∧ MM w' m (popM M n).2 (Gw O w w') ∧ Fr O w w' := by
  obtain ⟨ov, rv, f, V⟩ := H
  have hG : MM w m M (Gw O w w) := MM.grow ⟨ov, rv, f, V⟩ (Nat.le_refl _)
  obtain ⟨c0, c1, hlt, hz⟩ := V.cells
  unfold popM
  by_cases hf : n < 0 ∨ (M.rt.length : Int) < n
  · rw [if_pos hf]
    obtain ⟨ra, rc, hrv, hrc⟩ := V.rt.sl
    rw [hrv] at c1
    rcases hf with hf | hf
    all_goals
      go_enter Tryz.func38, Tryz.ntmps38
      go_wp2_with fail
      go_ret
      exact ⟨rfl, hG, Fr.refl _ _⟩
  · rw [if_neg hf]
    obtain ⟨k, rfl⟩ := Int.eq_ofNat_of_zero_le (show 0 ≤ n by omega)
    simp only [Int.toNat_natCast]
    obtain ⟨t, hT⟩ : ∃ t, M.rt.length = t + k := ⟨M.rt.length - k, by omega⟩
    have hmO := V.om
    rcases V.rt with ⟨hrv, hnil⟩ | ⟨b, cap, g, hrv, hcap, hbk, hgf⟩
    · have h0 : M.rt.length = 0 := by rw [hnil]; rfl
      obtain rfl : k = 0 := by omega
      rw [if_pos (by omega)]
      rw [hrv] at c1 V
      have VC := V.clear
      have kF := ((Fr.refl O w).setC m 0 (.slice none 0 0) (fun _ => hmO)).setC m 1 (.slice none 0 0) (fun _ => hmO)
      have k1 := (Fr.refl O w).setC m 1 (.slice none 0 0) (fun _ => hmO)
      have V1 := V.newRt (rv' := .slice none 0 0) (l := []) (.inl ⟨rfl, rfl⟩) (fun c hc => hc)
      have VC1 := V1.clear
      have kF1 := (k1.setC m 0 (.slice none 0 0) (fun _ => hmO)).setC m 1 (.slice none 0 0) (fun _ => hmO)
      obtain ⟨d0, d1, _, dz⟩ := V1.cells
      have Hk : Hid (_ ∧ _) := ⟨VC1, kF1⟩
      clear VC kF k1 V1 VC1 kF1 hf
      go_enter Tryz.func38, Tryz.ntmps38
      go_wp2_with fail
      refine wp_region_text (by kernel_rfl) (by kernel_rfl) ?_
      go_wp2_with fail
      refine ⟨by kernel_rfl, ?_⟩
      go_wp2_with fail
      go_ret
      exact ⟨rfl, (MM.same ⟨_, _, _, Hk.out.1⟩ (Fr.refl (fun _ => False) _).drew).grow Hk.out.2.drew.size, Hk.out.2.drew⟩
    · rw [hrv] at c1
      rw [hT] at hrv c1
      have hK := V.rt
      rw [hrv] at hK
      have hKT : KiAt w (.slice (some ⟨b, 0, none⟩) M.rt.length cap) M.rt := by rw [hT]; exact hK
      have hT2 := hKT.take (k := t) (by omega)
      have V1 := V.newRt hT2 (fun c hc => by rw [isB_one hc, hrv]; exact ⟨_, _, rfl⟩)
      have k1 := (Fr.refl O w).setC m 1 (.slice (some ⟨b, 0, none⟩) t cap) (fun _ => hmO)
      obtain ⟨d0, d1, _, dz⟩ := V1.cells
      have et : ((t + k : Nat) : Int) - k = (t : Nat) := by omega
      have hcap2 : t + k ≤ cap := by omega
      have ht24 : t + k ≤ 24 := by omega
      by_cases hz0 : t = 0
      · subst hz0
        rw [if_pos (by omega)]
        have VC1 := V1.clear
        have kF1 := (k1.setC m 0 (.slice none 0 0) (fun _ => hmO)).setC m 1 (.slice none 0 0) (fun _ => hmO)
        have Hk : Hid (_ ∧ _) := ⟨VC1, kF1⟩
        clear VC1 kF1 V1 k1 hT2 hKT hK hf hT hgf
        go_enter Tryz.func38, Tryz.ntmps38
        go_wp2_with fail
        refine wp_region_text (by kernel_rfl) (by kernel_rfl) ?_
        go_wp2_with fail
        refine ⟨by kernel_rfl, ?_⟩
        go_wp2_with fail
        go_ret
        exact ⟨rfl, (MM.same ⟨_, _, _, Hk.out.1⟩ (Fr.refl (fun _ => False) _).drew).grow Hk.out.2.drew.size, Hk.out.2.drew⟩
      · rw [if_neg (by omega), show M.rt.length - k = t by omega]
        have Hk : Hid (_ ∧ _) := ⟨V1, k1⟩
        have ht1 : ((t : Int) == 0) = false := by simp; omega
        clear V1 k1 hT2 hKT hK hf hT hgf
        go_enter Tryz.func38, Tryz.ntmps38
        go_wp2_with fail
        refine wp_region_text (by kernel_rfl) (by kernel_rfl) ?_
        go_wp2_with fail
        refine ⟨by kernel_rfl, ?_⟩
        go_wp2_with fail
        go_ret
        exact ⟨rfl, (MM.same ⟨_, _, _, Hk.out.1⟩ (Fr.refl (fun _ => False) _).drew).grow Hk.out.2.drew.size, Hk.out.2.drew⟩
set_option maxRecDepth 100000 in
set_option maxHeartbeats 4000000 in
theorem slideMF (H : MM w m M O) (h24 : M.rt.length ≤ 24) (n : Int) : Calls Tryz.prog 59 #[.pointer (some ⟨m, 0, none⟩), .int .i64 n] w fun e w' => e = .returned (.int .i64 (slideM M n).1) ∧ MM w' m (slideM M n).2 (Gw O w w') ∧ Fr O w w' := by
  obtain ⟨ov, rv, f, V⟩ := H
  have hG : MM w m M (Gw O w w) := MM.grow ⟨ov, rv, f, V⟩ (Nat.le_refl _)
  obtain ⟨c0, c1, hlt, hz⟩ := V.cells
  unfold slideM
  by_cases hf : n < 0 ∨ (M.rt.length : Int) ≤ n
  · rw [if_pos hf]
    obtain ⟨ra, rc, hrv, hrc⟩ := V.rt.sl
    rw [hrv] at c1
    rcases hf with hf | hf
    all_goals
      go_enter Tryz.func59, Tryz.ntmps59
      go_wp2_with fail
      go_ret
      exact ⟨rfl, hG, Fr.refl _ _⟩
  · rw [if_neg hf]
    obtain ⟨k, rfl⟩ := Int.eq_ofNat_of_zero_le (show 0 ≤ n by omega)
    simp only [Int.toNat_natCast]
    obtain ⟨t, hT⟩ : ∃ t, M.rt.length = t + 1 + k := ⟨M.rt.length - k - 1, by omega⟩
    have hmO := V.om
    obtain ⟨b, cap, hrv, hbl, cb, cbz⟩ := V.rt.get (i := t + k) (by omega)
    have hcap : M.rt.length ≤ cap := by
      obtain ⟨_, _, e, h⟩ := V.rt.sl
      rw [hrv] at e; cases e; exact h
    have hK := V.rt
    rw [hrv] at hK
    have hT2 := hK.take (k := t + 1) (by omega)
    have V1 := V.newRt hT2 (fun c hc => by rw [isB_one hc, hrv]; exact ⟨_, _, rfl⟩)
    have k1 := (Fr.refl O w).setC m 1 (.slice (some ⟨b, 0, none⟩) (t + 1) cap) (fun _ => hmO)
    obtain ⟨d0, d1, _, dz⟩ := V1.cells
    obtain ⟨b2, cap2, e2, _, hb2, ho2, hm2, cb2, cz2, VS⟩ := V1.setRt (i := t) (by simp; omega)
    simp only [List.length_take, show Nat.min (t + 1) M.rt.length = t + 1 by rw [hT]; exact Nat.min_eq_left (by omega)] at e2
    cases e2
    have VS1 := VS M.rt[t + k]
    have k2 := k1.setC b t (.int .i64 M.rt[t + k]) (fun _ => ho2)
    have ee : (M.rt.take (M.rt.length - k)).set (M.rt.length - k - 1) (M.rt[M.rt.length - 1]?.getD 0) = (M.rt.take (t + 1)).set t M.rt[t + k] := by
      rw [show M.rt.length - k = t + 1 by omega, show t + 1 - 1 = t by omega, show M.rt.length - 1 = t + k by omega, List.getElem?_eq_getElem (by omega)]
      rfl
    rw [ee]
    have Hk : Hid (_ ∧ _) := ⟨VS1, k2⟩
    rw [hrv, hT] at c1
    have et : ((t + 1 + k : Nat) : Int) - k = ((t + 1 : Nat) : Int) := by omega
    have et2 : ((t + 1 + k : Nat) : Int) - 1 = ((t + k : Nat) : Int) := by omega
    have ht24 : t + 1 + k ≤ 24 := by omega
    have hcap3 : t + 1 + k ≤ cap := by omega
    have hbm : b ≠ m := hm2
    generalize M.rt[t + k] = x at *
    obtain ⟨y, cy⟩ : ∃ y, (w.setCell ⟨m, 1, none⟩ (.slice (some ⟨b, 0, none⟩) (t + 1) cap)).cell? ⟨b, t, none⟩ = some (.int .i64 y) := ⟨_, cb2⟩
    clear cb2
    clear V1 k1 hT2 hK hf VS VS1 k2 ee
    have et3 : ((t + 1 : Nat) : Int) - 1 = (t : Nat) := by omega
    go_enter Tryz.func59, Tryz.ntmps59
    go_wp2_with fail
    refine wp_region_text (by kernel_rfl) (by kernel_rfl) ?_
    go_wp2_with fail
    refine ⟨by kernel_rfl, ?_⟩
    go_wp2_with fail
    refine wp_region_text (by kernel_rfl) (by kernel_rfl) ?_
    go_wp2_with fail
    refine ⟨by kernel_rfl, ?_⟩
    go_wp2_with fail
    refine wp_region_text (by kernel_rfl) (by kernel_rfl) ?_
    go_wp2_with fail
    refine ⟨by kernel_rfl, ?_⟩
    go_wp2_with fail
    go_ret
    exact ⟨rfl, (MM.same ⟨_, _, _, Hk.out.1⟩ ((((Fr.refl (fun _ => False) _).drew).drew).drew)).grow (((Hk.out.2.drew).drew).drew).size, ((Hk.out.2.drew).drew).drew⟩
end
end Go.Proofs.Qxb6500277aGreat
