/- The model's build, whole. -/
import Derived.Test.Qxb6500283aGreatM13
import Derived.Test.Qxb6500283aGreatM14
namespace Go.Proofs.Qxb6500283aGreat
open Go Go.RowKit

set_option maxRecDepth 100000 in
set_option maxHeartbeats 4000000 in
theorem build_any {ns : List Nd} (hwf : WF ns) (hrb : ∀ k (h : k < ns.length), RB ns[k]) (hcb : ∀ k (h : k < ns.length), 0 ≤ ns[k].cap) (bk cp : Nat) (y g : Int) : ∀ k, k < ns.length → (zz ns k).1 = 2 → RunC 105 ns bk cp y g k (bld ns k) := by
  intro k
  induction k using Nat.strongRecOn with
  | ind k ih =>
    intro hk hz2 w r out OB hM hlen
    obtain ⟨_, _, _, _, _, hN, _, _⟩ := hM.cells
    have hc := hcb k hk
    have hbe := bld_eq hwf hk
    have hok := hwf k hk
    have hr := hrb k hk
    have hzk := zz_eq hwf k hk
    have n0 := hN k hk 0 (by omega)
    have n1 := hN k hk 1 (by omega)
    have n2 := hN k hk 2 (by omega)
    have n3 := hN k hk 3 (by omega)
    have n4 := hN k hk 4 (by omega)
    have n5 := hN k hk 5 (by omega)
    have n6 := hN k hk 6 (by omega)
    have n7 := hN k hk 7 (by omega)
    have n8 := hN k hk 8 (by omega)
    have n9 := hN k hk 9 (by omega)
    have n10 := hN k hk 10 (by omega)
    simp only [ndCell, Nat.add_zero] at n0 n1 n2 n3 n4 n5 n6 n7 n8 n9 n10
    generalize ns[k] = nd at *
    obtain ⟨kind, a, b, mn, mx, cap, lz, st⟩ := nd
    simp only at hok hzk hc hbe n0 n1 n2 n3 n4 n5 n6 n7 n8 n9 n10
    have hk24 : (k : Int) < ns.length := by omega
    rcases hok with ⟨hkd, ha, hb'⟩ | ⟨hkd, h1, h2, h3, h4⟩ | ⟨hkd, h1, h2, hb'⟩
    · simp only at hkd ha hb'
      subst ha hb'
      rcases hkd with rfl | rfl | rfl | rfl
      · rw [hzk] at hz2; simp [zNd] at hz2
      · have e : bld ns k = fun _ => [⟨1, -1, -1, mn, mx, cap, lz, st⟩] := by rw [hbe]; simp [bldB]
        rw [e] at hlen ⊢
        exact build_leaf1 hM hlen hk24 n0 n1 n2 n3 n4 n5 n6 n7 n8 n9 n10
      · have e : bld ns k = fun _ => [⟨2, -1, -1, mn, mx, cap, lz, st⟩] := by rw [hbe]; simp [bldB]
        rw [e] at hlen ⊢
        exact build_leaf2 hM hlen hk24 n0 n1 n2 n3 n4 n5 n6 n7 n8 n9 n10
      · have e : bld ns k = fun _ => [⟨3, -1, -1, mn, mx, cap, lz, st⟩] := by rw [hbe]; simp [bldB]
        rw [e] at hlen ⊢
        exact build_leaf3 hM hlen hk24 n0 n1 n2 n3 n4 n5 n6 n7 n8 n9 n10
    · simp only at hkd h1 h2 h3 h4
      obtain ⟨A, rfl⟩ : ∃ A : Nat, a = A := ⟨a.toNat, by omega⟩
      obtain ⟨B, rfl⟩ : ∃ B : Nat, b = B := ⟨b.toNat, by omega⟩
      have hA : A < k := by omega
      have hB : B < k := by omega
      have zA := ih A hA (by omega)
      have zB := ih B hB (by omega)
      have CA := core_main hwf hrb A (by omega)
      have CB' := core_main hwf hrb B (by omega)
      have cA := CA.ok
      have cB := CB'.ok
      have sA := shape_any hwf hrb bk cp y g A (by omega)
      have sB := shape_any hwf hrb bk cp y g B (by omega)
      have lA := childM_any (z := zz ns A) sA cA.sh zA
      have lB := childM_any (z := zz ns B) sB cB.sh zB
      have e4 : zNd (zL ns) ⟨4, A, B, mn, mx, cap, lz, st⟩ = catZ (zz ns A) (zz ns B) := rfl
      have e5 : zNd (zL ns) ⟨5, A, B, mn, mx, cap, lz, st⟩ = altZ (zz ns A) (zz ns B) := rfl
      have d4 : bldB ns (bld ns) ⟨4, A, B, mn, mx, cap, lz, st⟩ = if (zz ns A).1 = 0 then bld ns B else if (zz ns B).1 = 0 then bld ns A else joinW catNd (bld ns A) (bld ns B) := rfl
      have d5 : bldB ns (bld ns) ⟨5, A, B, mn, mx, cap, lz, st⟩ = if (zz ns A).1 = 1 then bld ns B else if (zz ns B).1 = 1 then bld ns A else joinW altNd (chdW (zz ns A) (bld ns A)) (chdW (zz ns B) (bld ns B)) := rfl
      rcases hkd with rfl | rfl
      · rw [e4] at hzk
        rw [d4] at hbe
        rw [hzk] at hz2
        rw [hbe] at hlen ⊢
        unfold catZ at hz2
        by_cases c1 : (zz ns A).1 = 1 ∨ (zz ns B).1 = 1
        · rw [if_pos c1] at hz2; cases hz2
        rw [if_neg c1] at hz2
        by_cases c2 : (zz ns A).1 = 0
        · rw [if_pos c2] at hz2 hlen ⊢
          rw [c2] at sA
          exact build_cat0 hM hlen hk24 n0 n1 n2 n3 n4 n5 n6 n7 n8 n9 n10 sA (zB hz2)
        rw [if_neg c2] at hz2 hlen ⊢
        have a2 : (zz ns A).1 = 2 := by have := cA.sh; omega
        rw [a2] at sA
        by_cases c3 : (zz ns B).1 = 0
        · rw [if_pos c3] at hlen ⊢
          rw [c3] at sB
          exact build_cat1 hM hlen hk24 n0 n1 n2 n3 n4 n5 n6 n7 n8 n9 n10 sA sB (zA a2)
        · rw [if_neg c3] at hlen ⊢
          have b2 : (zz ns B).1 = 2 := by have := cB.sh; omega
          rw [b2] at sB
          exact build_cat2 hM hlen hk24 n0 n1 n2 n3 n4 n5 n6 n7 n8 n9 n10 sA sB (CA.mv a2) (CB'.mv b2) (zA a2) (zB b2)
      · rw [e5] at hzk
        rw [d5] at hbe
        rw [hzk] at hz2
        rw [hbe] at hlen ⊢
        unfold altZ at hz2
        by_cases c1 : (zz ns A).1 = 1
        · rw [if_pos c1] at hz2 hlen ⊢
          rw [c1] at sA
          exact build_alt0 hM hlen hk24 n0 n1 n2 n3 n4 n5 n6 n7 n8 n9 n10 sA (zB hz2)
        rw [if_neg c1] at hz2 hlen ⊢
        have tA : ((((zz ns A).1 : Nat) : Int) == 1) = false := by simp; omega
        by_cases c2 : (zz ns B).1 = 1
        · rw [if_pos c2] at hz2 hlen ⊢
          rw [c2] at sB
          rw [hz2] at sA
          exact build_alt1 hM hlen hk24 n0 n1 n2 n3 n4 n5 n6 n7 n8 n9 n10 sA sB (zA hz2)
        rw [if_neg c2] at hz2 hlen ⊢
        have tB : ((((zz ns B).1 : Nat) : Int) == 1) = false := by simp; omega
        exact build_alt2 hM hlen hk24 n0 n1 n2 n3 n4 n5 n6 n7 n8 n9 n10 sA sB tA tB CA.chd.1 CB'.chd.1 lA lB
    · simp only at hkd h1 h2 hb'
      subst hb'
      obtain ⟨A, rfl⟩ : ∃ A : Nat, a = A := ⟨a.toNat, by omega⟩
      have hA : A < k := by omega
      have zA := ih A hA (by omega)
      have CA := core_main hwf hrb A (by omega)
      have cA := CA.ok
      have sA := shape_any hwf hrb bk cp y g A (by omega)
      have lA := childM_any (z := zz ns A) sA cA.sh zA
      have e6 : zNd (zL ns) ⟨6, A, -1, mn, mx, cap, lz, st⟩ = repZ (zz ns A) mn mx := rfl
      have d6 : bldB ns (bld ns) ⟨6, A, -1, mn, mx, cap, lz, st⟩ = unrollW (bld ns A) mn.toNat mx lz := rfl
      have d7 : bldB ns (bld ns) ⟨7, A, -1, mn, mx, cap, lz, st⟩ = grpW cap.toNat (chdW (zz ns A) (bld ns A)) := rfl
      rcases hkd with rfl | rfl
      · rw [e6] at hzk
        rw [d6] at hbe
        rw [hzk] at hz2
        obtain ⟨p1, p2, p3, p4, p5⟩ := hr rfl
        simp only at p1 p2 p3 p4 p5
        obtain ⟨m, rfl⟩ : ∃ m : Nat, mn = m := ⟨mn.toNat, by omega⟩
        rw [Int.toNat_natCast] at hbe
        rw [hbe] at hlen ⊢
        unfold repZ at hz2
        by_cases c1 : (zz ns A).1 = 1 ∧ 0 < (m : Int)
        · rw [if_pos c1] at hz2; cases hz2
        rw [if_neg c1] at hz2
        by_cases c2 : (zz ns A).1 ≠ 2 ∨ mx = 0
        · rw [if_pos c2] at hz2; cases hz2
        have a2 : (zz ns A).1 = 2 := by omega
        have hF := CA.mv a2
        have rF := zA a2
        by_cases q1 : mx < 0
        · obtain rfl : mx = -1 := by omega
          by_cases q2 : m = 0
          · have e : unrollW (bld ns A) m (-1) lz = starW (bld ns A) lz := by subst q2; simp [unrollW]
            rw [e] at hlen ⊢
            exact build_rs0 hM hlen hk24 n0 n1 n2 n3 n4 n5 n6 n7 n8 n9 n10 hF rF q2
          · have e : unrollW (bld ns A) m (-1) lz = joinW catNd (repsW (bld ns A) m) (starW (bld ns A) lz) := by simp [unrollW, q2]
            rw [e] at hlen ⊢
            exact build_rs hM hlen hk24 n0 n1 n2 n3 n4 n5 n6 n7 n8 n9 n10 hF rF (by omega) (by omega)
        · by_cases q3 : (m : Int) < mx
          · obtain ⟨j, hj⟩ : ∃ j : Nat, mx.toNat - m = j + 1 := ⟨mx.toNat - m - 1, by omega⟩
            by_cases q2 : m = 0
            · have e : unrollW (bld ns A) m mx lz = optW (bld ns A) lz (j + 1) := by unfold unrollW; rw [if_neg q1, if_pos q3, if_pos q2, hj]
              rw [e] at hlen ⊢
              exact build_ro0 hM hlen hk24 n0 n1 n2 n3 n4 n5 n6 n7 n8 n9 n10 hF rF q2 (by omega) p4 (by omega)
            · have e : unrollW (bld ns A) m mx lz = joinW catNd (repsW (bld ns A) m) (optW (bld ns A) lz (j + 1)) := by unfold unrollW; rw [if_neg q1, if_pos q3, if_neg q2, hj]
              rw [e] at hlen ⊢
              exact build_ro hM hlen hk24 n0 n1 n2 n3 n4 n5 n6 n7 n8 n9 n10 hF rF (by omega) (by omega) (by omega) p4 (by omega)
          · have e : unrollW (bld ns A) m mx lz = repsW (bld ns A) m := by unfold unrollW; rw [if_neg q1, if_neg q3]
            rw [e] at hlen ⊢
            exact build_rn hM hlen hk24 n0 n1 n2 n3 n4 n5 n6 n7 n8 n9 n10 hF rF (by omega) (by omega) (by omega)
      · rw [d7] at hbe
        obtain ⟨c, rfl⟩ : ∃ c : Nat, cap = c := ⟨cap.toNat, by omega⟩
        rw [Int.toNat_natCast] at hbe
        rw [hbe] at hlen ⊢
        exact build_grp hM hlen hk24 n0 n1 n2 n3 n4 n5 n6 n7 n8 n9 n10 CA.chd.1 lA
theorem childM_all {ns : List Nd} (hwf : WF ns) (hrb : ∀ k (h : k < ns.length), RB ns[k]) (hcb : ∀ k (h : k < ns.length), 0 ≤ ns[k].cap) (bk cp : Nat) (y g : Int) (k : Nat) (hk : k < ns.length) : RunC 81 ns bk cp y g k (chdW (zz ns k) (bld ns k)) :=
  childM_any (z := zz ns k) (shape_any hwf hrb bk cp y g k hk) (core_main hwf hrb k hk).ok.sh (build_any hwf hrb hcb bk cp y g k hk)
end Go.Proofs.Qxb6500283aGreat
