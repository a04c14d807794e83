/- The real New. -/
import Derived.Test.Qxb6500283aGreatB11
namespace Go.Proofs.Qxb6500283aGreat
open Go Go.RowKit

theorem zc57_size : Tryz.zeroCells104.size = 325 := by kernel_rfl
set_option maxRecDepth 100000 in
set_option maxHeartbeats 4000000 in
theorem newR_any (w : World) : Calls Tryz.prog 18 #[] w fun e w' => e = .returned (.pointer (some ⟨w.heap.size, 0, none⟩)) ∧ RAny w' w.heap.size ⟨#[]⟩ ∧ Fr (fun _ => False) w w' := by
  have hb := Blk.new w Tryz.zeroCells104 104 (fun o => Tryz.zeroCells104.getD o undef) (fun o ho => by rw [Array.getElem?_eq_getElem ho, Array.getD_eq_getD_getElem?, Array.getElem?_eq_getElem ho]; rfl)
  rw [zc57_size] at hb
  have hL : Lay (fun o => Tryz.zeroCells104.getD o undef) ⟨#[]⟩ 0 [] 0 ⟨some 0, some 0, some 0, 0, 0⟩ [] 0 0 :=
    ⟨by kernel_rfl, by kernel_rfl, fun k hk => by simp at hk, fun k hk => by simp at hk, by kernel_rfl, ⟨fun j hj => by rcases lt5 hj with rfl | rfl | rfl | rfl | rfl <;> kernel_rfl, trivial⟩, by kernel_rfl, by kernel_rfl, by kernel_rfl, by kernel_rfl⟩
  go_enter Tryz.func18, Tryz.ntmps18
  go_wp2_with fail
  go_ret
  exact ⟨rfl, ⟨_, 0, [], 0, _, [], 0, 0, hb, hL, .nil, by simp, by simp, by simp⟩, (Fr.refl _ _).alloc _⟩
end Go.Proofs.Qxb6500283aGreat
