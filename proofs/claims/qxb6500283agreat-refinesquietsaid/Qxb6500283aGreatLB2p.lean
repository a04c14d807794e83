/- The law: helpers. -/
import Derived.Test.Qxb6500283aGreatLB1
namespace Go.Proofs.Qxb6500283aGreat
open Go Go.RowKit

section
variable {w w' : World} {A : Fa} {B : Ma} {d : Nat} {Y : Nat → Prop} {D : Dk} {G K : Nat}
theorem Law.regs (L : Law w A B d Y D G K) : w.cell? ⟨d, 0, none⟩ = some (.string D.pat) ∧ w.cell? ⟨d, 1, none⟩ = some (.string D.sub) ∧ d < w.heap.size := ⟨L.dk.cell (by omega), L.dk.cell (by omega), L.dk.lt⟩
theorem bx1 (w : World) (p : Option Addr) : Blk (w.alloc (.cells #[.pointer p] 31)) w.heap.size 1 (fun _ => .pointer p) := Blk.new w _ _ _ fun o ho => by
  have ho : o < 1 := by simpa using ho
  obtain rfl : o = 0 := by omega
  rfl
end
theorem dk_allX (D : Dk) (v u : Value) : ∀ o, o < 16 → upd (upd (dkCell D) 2 v) 3 u o = dkCell { D with ax := v, am := u } o := by
  intro o ho
  rcases lt16F ho with rfl | rfl | rfl | rfl | rfl | rfl | rfl | rfl | rfl | rfl | rfl | rfl | rfl | rfl | rfl | rfl <;> simp [dkCell, upd]
theorem dk_cutX (D : Dk) (v u : Value) : ∀ o, o < 16 → upd (upd (dkCell D) 4 v) 5 u o = dkCell { D with cx := v, cm := u } o := by
  intro o ho
  rcases lt16F ho with rfl | rfl | rfl | rfl | rfl | rfl | rfl | rfl | rfl | rfl | rfl | rfl | rfl | rfl | rfl | rfl <;> simp [dkCell, upd]
end Go.Proofs.Qxb6500283aGreat
