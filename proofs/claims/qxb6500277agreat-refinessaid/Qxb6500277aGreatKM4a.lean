/- The model heap: Dup. -/
import Derived.Test.Qxb6500277aGreatKM3
import Derived.Test.Qxb6500277aGreatText4
namespace Go.Proofs.Qxb6500277aGreat
open Go Go.RowKit

section
variable {w : World} {m : Nat} {M : MS} {O : Nat → Prop}
set_option maxRecDepth 100000 in
set_option maxHeartbeats 4000000 in
theorem dupMF (H : MM w m M O) (h24 : M.rt.length ≤ 24) (n : Int) : Calls Tryz.prog 133 #[.pointer (some ⟨m, 0, none⟩), .int .i64 n] w fun e w' => e = .returned (.int .i64 (dupM M n).1) ∧ MM w' m (dupM M n).2 (Gw O w w') ∧ Fr O w w' := by
  have hG : MM w m M (Gw O w w) := H.grow (Nat.le_refl _)
  obtain ⟨ov, rv, f, V⟩ := H
  obtain ⟨c0, c1, hlt, hz⟩ := V.cells
  unfold dupM
  by_cases hf : n < 0 ∨ (M.rt.length : Int) ≤ n
  · rw [if_pos hf]
    obtain ⟨ra, rc, hrv, hrc⟩ := V.rt.sl
    rw [hrv] at c1
    rcases hf with hf | hf
    all_goals
      go_enter Tryz.func133, Tryz.ntmps133
      go_wp2_with fail
      go_ret
      exact ⟨rfl, hG, Fr.refl _ _⟩
  · rw [if_neg hf]
    obtain ⟨k, rfl⟩ := Int.eq_ofNat_of_zero_le (show 0 ≤ n by omega)
    simp only [Int.toNat_natCast]
    have hk : k < M.rt.length := by omega
    obtain ⟨b, cap, hrv, hbl, cb, cbz⟩ := V.rt.get hk
    have hk' : (k : Int) < M.rt.length := by omega
    rw [hrv] at c1
    by_cases h4 : 24 ≤ M.rt.length
    · rw [if_pos h4]
      clear hf
      go_enter Tryz.func133, Tryz.ntmps133
      go_wp2_with fail
      go_ret
      exact ⟨rfl, hG, Fr.refl _ _⟩
    · rw [if_neg h4, List.getElem?_eq_getElem hk]
      simp only [Option.getD_some]
      have hf2 : M.rt.length < 24 := by omega
      have hmO := V.om
      have hcap : M.rt.length ≤ cap := by
        obtain ⟨_, _, e, h⟩ := V.rt.sl
        rw [hrv] at e; cases e; exact h
      have kA := ((Fr.refl (fun _ => False) w).alloc (.cells #[.int .i64 M.rt[k]] 3)).drew
      have VA := V.frame kA (fun _ _ h => h)
      have hx : KiP (w.alloc (.cells #[.int .i64 M.rt[k]] 3)).drew w.heap.size [M.rt[k]] := KiP.one ((Blk.new w #[.int .i64 M.rt[k]] 3 (fun _ => .int .i64 M.rt[k]) (fun o ho => by
        have ho : o < 1 := by simpa using ho
        obtain rfl : o = 0 := by omega
        rfl)).drew.cell (by simp))
      rw [hrv] at VA
      have kAz := kA.size
      clear hf hG h4
      generalize M.rt[k] = xx at *
      go_enter Tryz.func133, Tryz.ntmps133
      go_wp2_with fail
      refine wp_region_stop [0, 1, 2, 3, 4, 5, 6, 7, 8, 9, 10, 11, 12] [13, 14, 15, 16] (by kernel_rfl) (by kernel_rfl) ?_
      simp only [pick, List.filterMap_cons, List.filterMap_nil, List.getElem?_cons_zero, List.getElem?_cons_succ]
      go_wp2_with fail
      refine ⟨?_⟩
      refine wpList_appendI (by rfl) _ _ (by rfl) _ _ [xx] _ 1 1 (by rfl) (by rfl) rfl VA.rt hx (.inr (by simp)) (by simp; omega) ?_
      intro v' w5 hc5 hb5 f5
      obtain ⟨va, vc, hvv, _⟩ := hc5.sl
      simp only [List.length_append, List.length_singleton] at hvv
      subst hvv
      have VG := VA.growRt f5 hc5 hb5
      have cm := VA.blk.frame f5 (fun hh => (VA.own 0 m (by omega) hh).2 rfl)
      have cm1 := cm.cell (o := 1) (by omega)
      have cml := cm.lt
      have cmz := cm.frozen
      go_wp2_with fail
      refine ⟨by kernel_rfl, ?_⟩
      go_wp2_with fail
      go_ret
      have hs := f5.size
      refine ⟨rfl, ⟨_, _, _, VG.up (fun c hc => ?_) (fun c hc => ?_)⟩, ?_⟩
      · rcases hc with hc | hc
        · exact .inl hc
        · exact .inr ⟨by omega, by simp; omega⟩
      · rcases hc with hc | hc
        · have := V.lt c hc; simp; omega
        · exact hc.2
      · exact ((kA.mono (S' := O) (fun _ _ h => h.elim)).trans f5 (fun c _ hc => (VA.own 0 c (by omega) hc).1)).setC m 1 _ (fun _ => hmO)
end
end Go.Proofs.Qxb6500277aGreat
