/- The real heap: the fields. -/
import Derived.Test.Qxb6500277aGreatKW2
namespace Go.Proofs.Qxb6500277aGreat
open Go Go.RowKit

section
variable {w : World} {h : Nat} {S : HS} {os : List Int}
theorem Row.hd {m : Nat → Int} {a e : Nat} {os : List Int} (hr : Row m a e os) (he : e ≤ 96) {x : Int} (hx : x ∈ os) : ∃ k : Nat, x = k ∧ k < 96 ∧ k + wdO m k ≤ e ∧ a ≤ k ∧ 0 ≤ m k ∧ m k < 1000000 := by
  have h1 := hr.mem hx
  have hw : wdO m x.toNat = 1 + (m x.toNat).toNat / 49 + (m x.toNat).toNat % 49 := rfl
  exact ⟨x.toNat, by omega, by omega, h1.2.2.1, h1.2.1, h1.2.2.2, by omega⟩
theorem HInv.le96 (hI : HInv S os) : S.free ≤ 96 ∧ S.base ≤ 48 ∧ S.base ≤ S.free := by
  have := hI.le
  have := hI.base
  have := hI.row.le
  omega
/-- The object in slot i. -/
theorem HInv.at (hI : HInv S os) (i : Int) : ((atN S i).2 = 2 ∧ (atN S i).1 = -1 ∧ (i < 0 ∨ S.top ≤ i)) ∨ (∃ k : Nat, i = k ∧ k < S.top ∧ (((atN S i).2 = 4 ∧ (atN S i).1 = -1 ∧ S.roots k = -1) ∨ ∃ a : Nat, (atN S i).2 = 0 ∧ (atN S i).1 = a ∧ S.roots k = a ∧ (a : Int) ∈ os ∧ a < 96 ∧ a + wdO S.mem a ≤ 96 ∧ 0 ≤ S.mem a ∧ S.mem a < 1000000)) := by
  unfold atN
  by_cases hi : i < 0 ∨ (S.top : Int) ≤ i
  · simp only [if_pos hi]
    exact .inl ⟨trivial, trivial, hi⟩
  · simp only [if_neg hi]
    obtain ⟨k, rfl⟩ := Int.eq_ofNat_of_zero_le (show 0 ≤ i by omega)
    simp only [Int.toNat_natCast]
    refine .inr ⟨k, rfl, by omega, ?_⟩
    rcases hI.rts k (by omega) with hr | hr
    · simp only [hr]
      exact .inl ⟨rfl, rfl, trivial⟩
    · have h96 := hI.le96.1
      obtain ⟨a, ha, h1, h2, h3, h4, h5⟩ := hI.row.hd h96 hr
      rw [ha] at hr ⊢
      rw [if_neg (by omega)]
      exact .inr ⟨a, rfl, rfl, rfl, hr, h1, by omega, h4, h5⟩
set_option maxHeartbeats 800000 in
theorem atF (H : HM w h S) (hI : HInv S os) (i : Int) : Calls Tryz.prog 207 #[.pointer (some ⟨h, 0, none⟩), .int .i64 i] w fun e w' => e = .returned (.tuple #[.int .i64 (atN S i).1, .int .i64 (atN S i).2]) ∧ w' = w := by
  have c1 := H.top
  have ht := hI.top
  have hlt := H.lt
  rcases hI.at i with ⟨h1, h2, hd⟩ | ⟨k, rfl, hk, hd⟩
  · rw [h1, h2]
    clear h1 h2
    rcases hd with hd | hd
    · go_enter Tryz.func207, Tryz.ntmps207
      go_wp2_with fail
      exact bodyPost_ret (v := .tuple #[.int .i64 (-1), .int .i64 2]) (by simp [results, Tryz.results207, go_sem]) rfl ⟨rfl, rfl⟩
    · go_enter Tryz.func207, Tryz.ntmps207
      go_wp2_with fail
      exact bodyPost_ret (v := .tuple #[.int .i64 (-1), .int .i64 2]) (by simp [results, Tryz.results207, go_sem]) rfl ⟨rfl, rfl⟩
  · have c2 := H.root (i := k) (by omega)
    rcases hd with ⟨h1, h2, h3⟩ | ⟨a, h1, h2, h3, _⟩
    · rw [h1, h2]
      rw [h3] at c2
      clear h1 h2
      go_enter Tryz.func207, Tryz.ntmps207
      go_wp2_with fail
      exact bodyPost_ret (v := .tuple #[.int .i64 (-1), .int .i64 4]) (by simp [results, Tryz.results207, go_sem]) rfl ⟨rfl, rfl⟩
    · rw [h1, h2]
      rw [h3] at c2
      clear h1 h2
      go_enter Tryz.func207, Tryz.ntmps207
      go_wp2_with fail
      exact bodyPost_ret (v := .tuple #[.int .i64 a, .int .i64 0]) (by simp [results, Tryz.results207, go_sem]) rfl ⟨rfl, rfl⟩
def refN (S : HS) (i f : Int) : Int × Int := if (atN S i).2 ≠ 0 then (-1, (atN S i).2) else if f < 0 ∨ nrO S.mem (atN S i).1.toNat ≤ f then (-1, 5) else ((atN S i).1 + 1 + f, 0)
def intN (S : HS) (i f : Int) : Int × Int := if (atN S i).2 ≠ 0 then (-1, (atN S i).2) else if f < 0 ∨ niO S.mem (atN S i).1.toNat ≤ f then (-1, 5) else ((atN S i).1 + 1 + nrO S.mem (atN S i).1.toNat + f, 0)
set_option maxHeartbeats 1600000 in
theorem refAtF (H : HM w h S) (hI : HInv S os) (i f : Int) : Calls Tryz.prog 206 #[.pointer (some ⟨h, 0, none⟩), .int .i64 i, .int .i64 f] w fun e w' => e = .returned (.tuple #[.int .i64 (refN S i f).1, .int .i64 (refN S i f).2]) ∧ w' = w := by
  have hlt := H.lt
  have hA := atF H hI i
  unfold refN
  rcases hI.at i with ⟨h1, h2, hd⟩ | ⟨k, rfl, hk, ⟨h1, h2, hd⟩ | ⟨a, h1, h2, h3, h4, h5, h6, h7, h8⟩⟩
  · rw [h1, h2] at hA
    simp only [h1]
    go_enter Tryz.func206, Tryz.ntmps206
    go_wp2_with fail
    refine hA.mono ?_
    rintro e w1 ⟨rfl, rfl⟩
    go_wp2_with fail
    exact bodyPost_ret (v := .tuple #[.int .i64 (-1), .int .i64 2]) (by simp [results, Tryz.results206, go_sem]) rfl ⟨rfl, rfl⟩
  · rw [h1, h2] at hA
    simp only [h1]
    go_enter Tryz.func206, Tryz.ntmps206
    go_wp2_with fail
    refine hA.mono ?_
    rintro e w1 ⟨rfl, rfl⟩
    go_wp2_with fail
    exact bodyPost_ret (v := .tuple #[.int .i64 (-1), .int .i64 4]) (by simp [results, Tryz.results206, go_sem]) rfl ⟨rfl, rfl⟩
  · rw [h1, h2] at hA
    have hc := H.mem h5
    simp only [h1, h2, ne_eq, not_true_eq_false, if_false, Int.toNat_natCast]
    clear h1 h2
    have hwd : wdO S.mem a = 1 + nrO S.mem a + niO S.mem a := rfl
    have hR := fun w => refs_any (S.mem a) h7 h8 w
    have hnr : (S.mem a).toNat / 49 = nrO S.mem a := rfl
    rw [hnr] at hR
    generalize nrO S.mem a = nr at *
    by_cases hf : f < 0 ∨ (nr : Int) ≤ f
    · rw [if_pos hf]
      have hf : f < 0 ∨ (0 ≤ f ∧ (nr : Int) ≤ f) := by omega
      rcases hf with hf | ⟨hn, hf⟩
      · go_enter Tryz.func206, Tryz.ntmps206
        go_wp2_with fail
        refine hA.mono ?_
        rintro e w1 ⟨rfl, rfl⟩
        go_wp2_with fail
        exact bodyPost_ret (v := .tuple #[.int .i64 (-1), .int .i64 5]) (by simp [results, Tryz.results206, go_sem]) rfl ⟨rfl, rfl⟩
      · go_enter Tryz.func206, Tryz.ntmps206
        go_wp2_with fail
        refine hA.mono ?_
        rintro e w1 ⟨rfl, rfl⟩
        go_wp2_with fail
        refine (hR _).mono ?_
        rintro e w1 ⟨rfl, rfl⟩
        go_wp2_with fail
        exact bodyPost_ret (v := .tuple #[.int .i64 (-1), .int .i64 5]) (by simp [results, Tryz.results206, go_sem]) rfl ⟨rfl, rfl⟩
    · rw [if_neg hf]
      have hn : 0 ≤ f := by omega
      have hf2 : f < nr := by omega
      have hw2 : (a : Int) + 1 + nr ≤ 96 := by omega
      clear hf hwd h6
      go_enter Tryz.func206, Tryz.ntmps206
      go_wp2_with fail
      refine hA.mono ?_
      rintro e w1 ⟨rfl, rfl⟩
      go_wp2_with fail
      refine (hR _).mono ?_
      rintro e w1 ⟨rfl, rfl⟩
      go_wp2_with fail
      exact bodyPost_ret (v := .tuple #[.int .i64 ((a : Int) + 1 + f), .int .i64 0]) (by simp [results, Tryz.results206, go_sem]) rfl ⟨rfl, rfl⟩
set_option maxHeartbeats 1600000 in
theorem intAtF (H : HM w h S) (hI : HInv S os) (i f : Int) : Calls Tryz.prog 205 #[.pointer (some ⟨h, 0, none⟩), .int .i64 i, .int .i64 f] w fun e w' => e = .returned (.tuple #[.int .i64 (intN S i f).1, .int .i64 (intN S i f).2]) ∧ w' = w := by
  have hlt := H.lt
  have hA := atF H hI i
  unfold intN
  rcases hI.at i with ⟨h1, h2, hd⟩ | ⟨k, rfl, hk, ⟨h1, h2, hd⟩ | ⟨a, h1, h2, h3, h4, h5, h6, h7, h8⟩⟩
  · rw [h1, h2] at hA
    simp only [h1]
    go_enter Tryz.func205, Tryz.ntmps205
    go_wp2_with fail
    refine hA.mono ?_
    rintro e w1 ⟨rfl, rfl⟩
    go_wp2_with fail
    exact bodyPost_ret (v := .tuple #[.int .i64 (-1), .int .i64 2]) (by simp [results, Tryz.results205, go_sem]) rfl ⟨rfl, rfl⟩
  · rw [h1, h2] at hA
    simp only [h1]
    go_enter Tryz.func205, Tryz.ntmps205
    go_wp2_with fail
    refine hA.mono ?_
    rintro e w1 ⟨rfl, rfl⟩
    go_wp2_with fail
    exact bodyPost_ret (v := .tuple #[.int .i64 (-1), .int .i64 4]) (by simp [results, Tryz.results205, go_sem]) rfl ⟨rfl, rfl⟩
  · rw [h1, h2] at hA
    have hc := H.mem h5
    simp only [h1, h2, ne_eq, not_true_eq_false, if_false, Int.toNat_natCast]
    clear h1 h2
    have hwd : wdO S.mem a = 1 + nrO S.mem a + niO S.mem a := rfl
    have hR := fun w => refs_any (S.mem a) h7 h8 w
    have hN := fun w => ints_any (S.mem a) h7 h8 w
    have hnr : (S.mem a).toNat / 49 = nrO S.mem a := rfl
    have hni : (S.mem a).toNat % 49 = niO S.mem a := rfl
    rw [hnr] at hR
    rw [hni] at hN
    generalize nrO S.mem a = nr at *
    generalize niO S.mem a = ni at *
    by_cases hf : f < 0 ∨ (ni : Int) ≤ f
    · rw [if_pos hf]
      have hf : f < 0 ∨ (0 ≤ f ∧ (ni : Int) ≤ f) := by omega
      rcases hf with hf | ⟨hn, hf⟩
      · go_enter Tryz.func205, Tryz.ntmps205
        go_wp2_with fail
        refine hA.mono ?_
        rintro e w1 ⟨rfl, rfl⟩
        go_wp2_with fail
        exact bodyPost_ret (v := .tuple #[.int .i64 (-1), .int .i64 5]) (by simp [results, Tryz.results205, go_sem]) rfl ⟨rfl, rfl⟩
      · go_enter Tryz.func205, Tryz.ntmps205
        go_wp2_with fail
        refine hA.mono ?_
        rintro e w1 ⟨rfl, rfl⟩
        go_wp2_with fail
        refine (hN _).mono ?_
        rintro e w1 ⟨rfl, rfl⟩
        go_wp2_with fail
        exact bodyPost_ret (v := .tuple #[.int .i64 (-1), .int .i64 5]) (by simp [results, Tryz.results205, go_sem]) rfl ⟨rfl, rfl⟩
    · rw [if_neg hf]
      have hn : 0 ≤ f := by omega
      have hf2 : f < ni := by omega
      have hw2 : (a : Int) + 1 + nr + ni ≤ 96 := by omega
      clear hf hwd h6
      go_enter Tryz.func205, Tryz.ntmps205
      go_wp2_with fail
      refine hA.mono ?_
      rintro e w1 ⟨rfl, rfl⟩
      go_wp2_with fail
      refine (hN _).mono ?_
      rintro e w1 ⟨rfl, rfl⟩
      go_wp2_with fail
      refine (hR _).mono ?_
      rintro e w1 ⟨rfl, rfl⟩
      go_wp2_with fail
      exact bodyPost_ret (v := .tuple #[.int .i64 ((a : Int) + 1 + nr + f), .int .i64 0]) (by simp [results, Tryz.results205, go_sem]) rfl ⟨rfl, rfl⟩
set_option maxHeartbeats 1600000 in
theorem lenFn (H : HM w h S) (hI : HInv S os) (i : Int) : Calls Tryz.prog 166 #[.pointer (some ⟨h, 0, none⟩), .int .i64 i] w fun e w' => e = .returned (.tuple #[.int .i64 (lenN S i).1, .int .i64 (lenN S i).2.1, .int .i64 (lenN S i).2.2]) ∧ w' = w := by
  have hlt := H.lt
  have hA := atF H hI i
  unfold lenN
  rcases hI.at i with ⟨h1, h2, hd⟩ | ⟨k, rfl, hk, ⟨h1, h2, hd⟩ | ⟨a, h1, h2, h3, h4, h5, h6, h7, h8⟩⟩
  · rw [h1, h2] at hA
    simp only [h1]
    go_enter Tryz.func166, Tryz.ntmps166
    go_wp2_with fail
    refine hA.mono ?_
    rintro e w1 ⟨rfl, rfl⟩
    go_wp2_with fail
    exact bodyPost_ret (v := .tuple #[.int .i64 0, .int .i64 0, .int .i64 2]) (by simp [results, Tryz.results166, go_sem]) rfl ⟨rfl, rfl⟩
  · rw [h1, h2] at hA
    simp only [h1]
    go_enter Tryz.func166, Tryz.ntmps166
    go_wp2_with fail
    refine hA.mono ?_
    rintro e w1 ⟨rfl, rfl⟩
    go_wp2_with fail
    exact bodyPost_ret (v := .tuple #[.int .i64 0, .int .i64 0, .int .i64 4]) (by simp [results, Tryz.results166, go_sem]) rfl ⟨rfl, rfl⟩
  · rw [h1, h2] at hA
    have hc := H.mem h5
    simp only [h1, h2, ne_eq, not_true_eq_false, if_false, Int.toNat_natCast]
    clear h1 h2
    go_enter Tryz.func166, Tryz.ntmps166
    go_wp2_with fail
    refine hA.mono ?_
    rintro e w1 ⟨rfl, rfl⟩
    go_wp2_with fail
    refine (refs_any (S.mem a) h7 h8 _).mono ?_
    rintro e w1 ⟨rfl, rfl⟩
    go_wp2_with fail
    refine (ints_any (S.mem a) h7 h8 _).mono ?_
    rintro e w1 ⟨rfl, rfl⟩
    go_wp2_with fail
    exact bodyPost_ret (v := .tuple #[.int .i64 (nrO S.mem a : Nat), .int .i64 (niO S.mem a : Nat), .int .i64 0]) (by simp [results, Tryz.results166, go_sem, nrO, niO]) rfl ⟨rfl, rfl⟩
end
end Go.Proofs.Qxb6500277aGreat
