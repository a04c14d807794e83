import Derived.Test.Qxb6500283aGreatPmPRep
namespace Go.Proofs.Qxb6500283aGreat
open Go Go.RowKit

set_option maxHeartbeats 400000 in
theorem hasM_any {w : World} {x : Nat} {s : PS} (h : PRep w x s) (W pc : Nat) (hW : W < 2) (hpc : pc < 64)
    (h0 : 0 ≤ s.f (W * 130 + 64 + pc)) (hn : s.f (W * 130 + 128) ≤ 64) :
    Calls Tryz.prog 92 #[.pointer (some ⟨x, 0, none⟩), .int .i64 W, .int .i64 pc] w fun e w' => e = .returned (.bool (hasF s.f W pc)) ∧ w' = w := by
  have c1 : w.cell? ⟨x, W * 130 + 64 + pc, none⟩ = some (.int .i64 (s.f (W * 130 + 64 + pc))) := h.int (by omega) (by unfold intCell; omega)
  have c2 : w.cell? ⟨x, W * 130 + 128, none⟩ = some (.int .i64 (s.f (W * 130 + 128))) := h.int (by omega) (by unfold intCell; omega)
  unfold hasF
  obtain ⟨k, hk⟩ := Int.eq_ofNat_of_zero_le h0
  rw [hk] at c1 ⊢
  generalize s.f (W * 130 + 128) = n at c2 hn ⊢
  by_cases hlt : (k : Int) < n
  · have c3 : w.cell? ⟨x, W * 130 + k, none⟩ = some (.int .i64 (s.f (W * 130 + k))) := h.int (by omega) (by unfold intCell; omega)
    have hk64 : k < 64 := by omega
    clear hk h0
    go_enter Tryz.func92, Tryz.ntmps92
    go_wp2
    go_ret
    exact ⟨by simp [hlt], rfl⟩
  · clear hk h0
    go_enter Tryz.func92, Tryz.ntmps92
    go_wp2
    go_ret
    exact ⟨by simp; omega, rfl⟩

set_option maxHeartbeats 400000 in
theorem put_any {w : World} {x : Nat} {s : PS} (h : PRep w x s) (W pc n : Nat) (hW : W < 2) (hpc : pc < 64) (hn : s.f (W * 130 + 128) = n) (hlt : n < 64) :
    Calls Tryz.prog 124 #[.pointer (some ⟨x, 0, none⟩), .int .i64 W, .int .i64 pc] w fun e w' => e = .returned (.int .i64 n) ∧ PRep w' x { s with f := putF s.f W pc } ∧ Fr (pOwn x) w w' := by
  have c2 : w.cell? ⟨x, W * 130 + 128, none⟩ = some (.int .i64 n) := by rw [← hn]; exact h.int (by omega) (by unfold intCell; omega)
  have c1 : w.cell? ⟨x, W * 130 + n, none⟩ = some (.int .i64 (s.f (W * 130 + n))) := h.int (by omega) (by unfold intCell; omega)
  have c3 : w.cell? ⟨x, W * 130 + 64 + pc, none⟩ = some (.int .i64 (s.f (W * 130 + 64 + pc))) := h.int (by omega) (by unfold intCell; omega)
  have g1 := h.main.frozen (W * 130 + n)
  have g2 := h.main.frozen (W * 130 + 64 + pc)
  have g3 := h.main.frozen (W * 130 + 128)
  have key : PRep (((w.setCell ⟨x, W * 130 + n, none⟩ (.int .i64 pc)).setCell ⟨x, W * 130 + 64 + pc, none⟩ (.int .i64 n)).setCell ⟨x, W * 130 + 128, none⟩ (.int .i64 (n + 1))) x { s with f := putF s.f W pc } := by
    have := ((h.setF (W * 130 + n) pc (by unfold intCell; omega)).setF (W * 130 + 64 + pc) n (by unfold intCell; omega)).setF (W * 130 + 128) (n + 1) (by unfold intCell; omega)
    simpa [putF, hn] using this
  have keyF : Fr (pOwn x) w (((w.setCell ⟨x, W * 130 + n, none⟩ (.int .i64 pc)).setCell ⟨x, W * 130 + 64 + pc, none⟩ (.int .i64 n)).setCell ⟨x, W * 130 + 128, none⟩ (.int .i64 (n + 1))) :=
    (((Fr.refl _ _).pset0 _ _).pset0 _ _).pset0 _ _
  have Hk : Hid (_ ∧ _) := ⟨key, keyF⟩
  clear hn key keyF
  go_enter Tryz.func124, Tryz.ntmps124
  go_wp2
  go_ret
  exact ⟨rfl, Hk.out⟩

def pushK (k : Nat → Int) (sp : Nat) (a b c : Int) : Nat → Int := upd (upd (upd k (sp * 3) a) (sp * 3 + 1) b) (sp * 3 + 2) c
def pushS (s : PS) (a b c : Int) : PS := { s with f := upd s.f 261 (s.f 261 + 1), k := pushK s.k (s.f 261).toNat a b c }
set_option maxHeartbeats 400000 in
theorem pushM_any {w : World} {x : Nat} {s : PS} (h : PRep w x s) (sp : Nat) (pc slot old : Int) (hsp : s.f 261 = sp) (hlt : sp < 65) :
    Calls Tryz.prog 91 #[.pointer (some ⟨x, 0, none⟩), .int .i64 pc, .int .i64 slot, .int .i64 old] w fun e w' =>
      e = .returned (.tuple #[]) ∧ PRep w' x (pushS s pc slot old) ∧ Fr (pOwn x) w w' := by
  have c1 : w.cell? ⟨x, 261, none⟩ = some (.int .i64 sp) := by rw [← hsp]; exact h.int (by omega) (by unfold intCell; omega)
  have c2 : w.cell? ⟨x, 260, none⟩ = some (.slice (some ⟨x + 3, 0, none⟩) 65 65) := h.main.cell (by omega)
  have c3 : w.cell? ⟨x + 3, sp * 3, none⟩ = some (.int .i64 (s.k (sp * 3))) := h.st.cell (by omega)
  have c4 : w.cell? ⟨x + 3, sp * 3 + 1, none⟩ = some (.int .i64 (s.k (sp * 3 + 1))) := h.st.cell (by omega)
  have c5 : w.cell? ⟨x + 3, sp * 3 + 2, none⟩ = some (.int .i64 (s.k (sp * 3 + 2))) := h.st.cell (by omega)
  have g1 := h.main.frozen 261
  have g3 := h.st.frozen (sp * 3)
  have g4 := h.st.frozen (sp * 3 + 1)
  have g5 := h.st.frozen (sp * 3 + 2)
  have hpsh : pushS s pc slot old = { s with f := upd s.f 261 (sp + 1), k := pushK s.k sp pc slot old } := by simp [pushS, hsp]
  rw [hpsh]
  have key := (((h.setK (sp * 3) pc).setK (sp * 3 + 1) slot).setK (sp * 3 + 2) old).setF 261 (sp + 1) (by unfold intCell; omega)
  have keyF := ((((Fr.refl (pOwn x) w).psetM 3 (sp * 3) (.int .i64 pc) (by omega)).psetM 3 (sp * 3 + 1) (.int .i64 slot) (by omega)).psetM 3 (sp * 3 + 2) (.int .i64 old) (by omega)).pset0 261 (.int .i64 (sp + 1))
  have Hk : Hid (_ ∧ _) := ⟨key.drew, keyF.drew⟩
  clear hsp key keyF hpsh
  go_enter Tryz.func91, Tryz.ntmps91
  go_wp2
  refine wp_region_text (by kernel_rfl) (by kernel_rfl) ?_
  go_wp2
  refine ⟨by kernel_rfl, ?_⟩
  go_wp2
  go_end0
  exact ⟨rfl, Hk.out⟩

end Go.Proofs.Qxb6500283aGreat
