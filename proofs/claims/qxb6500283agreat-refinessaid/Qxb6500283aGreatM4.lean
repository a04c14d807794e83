/- The model's size and leaf, whole. -/
import Derived.Test.Qxb6500283aGreatM3
namespace Go.Proofs.Qxb6500283aGreat
open Go Go.RowKit

set_option maxRecDepth 100000 in
set_option maxHeartbeats 4000000 in
theorem size_any {ns : List Nd} (hwf : WF ns) (hrb : ∀ k (h : k < ns.length), RB ns[k]) (bk cp : Nat) (y g : Int) : ∀ k, k < ns.length → (zz ns k).1 = 2 → SzC ns bk cp y g k (zz ns k).2 := by
  intro k
  induction k using Nat.strongRecOn with
  | ind k ih =>
    intro hk hz2 w hN
    have hbl : bk < w.heap.size := by
      have h1 := hN k hk 0 (by omega)
      exact World.block_lt_of_cell? w _ h1
    have hok := hwf k hk
    have hr := hrb k hk
    have hzk := zz_eq hwf k hk
    have n0 := hN k hk 0 (by omega)
    have n1 := hN k hk 1 (by omega)
    have n2 := hN k hk 2 (by omega)
    have n3 := hN k hk 3 (by omega)
    have n4 := hN k hk 4 (by omega)
    have n5 := hN k hk 5 (by omega)
    have n6 := hN k hk 6 (by omega)
    have n7 := hN k hk 7 (by omega)
    have n8 := hN k hk 8 (by omega)
    have n9 := hN k hk 9 (by omega)
    have n10 := hN k hk 10 (by omega)
    simp only [ndCell, Nat.add_zero] at n0 n1 n2 n3 n4 n5 n6 n7 n8 n9 n10
    generalize ns[k] = nd at *
    obtain ⟨kind, a, b, mn, mx, cap, lz, st⟩ := nd
    simp only at hok hzk n0 n1 n2 n3 n4 n5 n6 n7 n8 n9 n10
    have hk24 : (k : Int) < ns.length := by omega
    rcases hok with ⟨hkd, ha, hb'⟩ | ⟨hkd, h1, h2, h3, h4⟩ | ⟨hkd, h1, h2, hb'⟩
    · simp only at hkd ha hb'
      subst ha hb'
      rcases hkd with rfl | rfl | rfl | rfl
      · rw [hzk] at hz2; simp [zNd] at hz2
      · have hv : (zz ns k).2 = 1 := by
          rw [hzk]; cases hse : setE st <;> simp [zNd, hse]
        rw [hv]
        exact size_leaf1 hN hbl hk24 n0 n1 n2 n3 n4 n5 n6 n7 n8 n9 n10
      · have hv : (zz ns k).2 = 1 := by rw [hzk]; simp [zNd]
        rw [hv]
        exact size_leaf2 hN hbl hk24 n0 n1 n2 n3 n4 n5 n6 n7 n8 n9 n10
      · have hv : (zz ns k).2 = 1 := by rw [hzk]; simp [zNd]
        rw [hv]
        exact size_leaf3 hN hbl hk24 n0 n1 n2 n3 n4 n5 n6 n7 n8 n9 n10
    · simp only at hkd h1 h2 h3 h4
      obtain ⟨A, rfl⟩ : ∃ A : Nat, a = A := ⟨a.toNat, by omega⟩
      obtain ⟨B, rfl⟩ : ∃ B : Nat, b = B := ⟨b.toNat, by omega⟩
      have hA : A < k := by omega
      have hB : B < k := by omega
      have zA := ih A hA (by omega)
      have zB := ih B hB (by omega)
      have cA := (core_main hwf hrb A (by omega)).ok
      have cB := (core_main hwf hrb B (by omega)).ok
      have sA := shape_any hwf hrb bk cp y g A (by omega)
      have sB := shape_any hwf hrb bk cp y g B (by omega)
      have lA := leaf_any sA cA.sh cA.one zA
      have lB := leaf_any sB cB.sh cB.one zB
      have e4 : zNd (zL ns) ⟨4, A, B, mn, mx, cap, lz, st⟩ = catZ (zz ns A) (zz ns B) := rfl
      have e5 : zNd (zL ns) ⟨5, A, B, mn, mx, cap, lz, st⟩ = altZ (zz ns A) (zz ns B) := rfl
      have iA := cA.hi
      have iB := cB.hi
      rcases hkd with rfl | rfl
      · rw [e4] at hzk
        rw [hzk] at hz2 ⊢
        unfold catZ at hz2 ⊢
        by_cases c1 : (zz ns A).1 = 1 ∨ (zz ns B).1 = 1
        · rw [if_pos c1] at hz2; cases hz2
        rw [if_neg c1] at hz2 ⊢
        by_cases c2 : (zz ns A).1 = 0
        · rw [if_pos c2] at hz2 ⊢
          rw [c2] at sA
          exact size_cat0 hN hbl hk24 n0 n1 n2 n3 n4 n5 n6 n7 n8 n9 n10 sA (zB hz2)
        rw [if_neg c2] at hz2 ⊢
        have a2 : (zz ns A).1 = 2 := by have := cA.sh; omega
        rw [a2] at sA
        by_cases c3 : (zz ns B).1 = 0
        · rw [if_pos c3]
          rw [c3] at sB
          exact size_cat1 hN hbl hk24 n0 n1 n2 n3 n4 n5 n6 n7 n8 n9 n10 sA sB (zA a2)
        · rw [if_neg c3]
          have b2 : (zz ns B).1 = 2 := by have := cB.sh; omega
          rw [b2] at sB
          exact size_cat2 hN hbl hk24 n0 n1 n2 n3 n4 n5 n6 n7 n8 n9 n10 sA sB (zA a2) (zB b2) (by omega) (by omega)
      · rw [e5] at hzk
        rw [hzk] at hz2 ⊢
        unfold altZ at hz2 ⊢
        by_cases c1 : (zz ns A).1 = 1
        · rw [if_pos c1] at hz2 ⊢
          rw [c1] at sA
          exact size_alt0 hN hbl hk24 n0 n1 n2 n3 n4 n5 n6 n7 n8 n9 n10 sA (zB hz2)
        rw [if_neg c1] at hz2 ⊢
        have tA : ((((zz ns A).1 : Nat) : Int) == 1) = false := by simp; omega
        by_cases c2 : (zz ns B).1 = 1
        · rw [if_pos c2] at hz2 ⊢
          rw [c2] at sB
          exact size_alt1 hN hbl hk24 n0 n1 n2 n3 n4 n5 n6 n7 n8 n9 n10 sA tA sB (zA hz2)
        rw [if_neg c2] at hz2 ⊢
        have tB : ((((zz ns B).1 : Nat) : Int) == 1) = false := by simp; omega
        by_cases c3 : (zz ns A).1 = 0 ∧ (zz ns B).1 = 0
        · rw [if_pos c3] at hz2; cases hz2
        · rw [if_neg c3]
          exact size_alt2 hN hbl hk24 n0 n1 n2 n3 n4 n5 n6 n7 n8 n9 n10 sA tA sB tB lA lB (by omega) (by omega)
    · simp only at hkd h1 h2 hb'
      subst hb'
      obtain ⟨A, rfl⟩ : ∃ A : Nat, a = A := ⟨a.toNat, by omega⟩
      have hA : A < k := by omega
      have zA := ih A hA (by omega)
      have cA := (core_main hwf hrb A (by omega)).ok
      have sA := shape_any hwf hrb bk cp y g A (by omega)
      have lA := leaf_any sA cA.sh cA.one zA
      have iA := cA.hi
      have e6 : zNd (zL ns) ⟨6, A, -1, mn, mx, cap, lz, st⟩ = repZ (zz ns A) mn mx := rfl
      have e7 : zNd (zL ns) ⟨7, A, -1, mn, mx, cap, lz, st⟩ = grpZ (zz ns A) := rfl
      rcases hkd with rfl | rfl
      · rw [e6] at hzk
        rw [hzk] at hz2 ⊢
        obtain ⟨p1, p2, p3, p4, p5⟩ := hr rfl
        simp only at p1 p2 p3 p4 p5
        unfold repZ at hz2 ⊢
        by_cases c1 : (zz ns A).1 = 1 ∧ 0 < mn
        · rw [if_pos c1] at hz2; cases hz2
        rw [if_neg c1] at hz2 ⊢
        by_cases c2 : (zz ns A).1 ≠ 2 ∨ mx = 0
        · rw [if_pos c2] at hz2; cases hz2
        rw [if_neg c2]
        obtain ⟨m, rfl⟩ : ∃ m : Nat, mn = m := ⟨mn.toNat, by omega⟩
        exact size_rep hN hbl hk24 n0 n1 n2 n3 n4 n5 n6 n7 n8 n9 n10 (zA (by omega)) cA.lo (by omega) (by omega) p3 p4 p5
      · rw [e7] at hzk
        rw [hzk] at hz2 ⊢
        unfold grpZ at hz2 ⊢
        by_cases c1 : (zz ns A).1 = 1
        · rw [if_pos c1] at hz2; cases hz2
        rw [if_neg c1]
        exact size_grp hN hbl hk24 n0 n1 n2 n3 n4 n5 n6 n7 n8 n9 n10 lA (by omega)
theorem leafM_all {ns : List Nd} (hwf : WF ns) (hrb : ∀ k (h : k < ns.length), RB ns[k]) (bk cp : Nat) (y g : Int) (k : Nat) (hk : k < ns.length) : LfC ns bk cp y g k (zz ns k).2 :=
  leaf_any (shape_any hwf hrb bk cp y g k hk) (core_main hwf hrb k hk).ok.sh (core_main hwf hrb k hk).ok.one (size_any hwf hrb bk cp y g k hk)
end Go.Proofs.Qxb6500283aGreat
