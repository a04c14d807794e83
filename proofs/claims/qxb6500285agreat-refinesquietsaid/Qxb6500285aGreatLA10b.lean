/- The law: the walk's helpers. -/
import Derived.Test.Qxb6500285aGreatLA8
import Derived.Test.Qxb6500285aGreatLA9
import Derived.Test.Qxb6500285aGreatLA10
namespace Go.Proofs.Qxb6500285aGreat
open Go Go.RowKit

/-- The script lies in memory. -/
def ScrAt (w : World) (a : Option Addr) (n : Nat) : Prop := n = 0 ∨ ∃ b off, a = some ⟨b, off, none⟩ ∧ b < w.heap.size ∧ ∀ i, i < n → ∃ kind A B C S T,
  w.cell? ⟨b, off + i * 6, none⟩ = some (.int .i64 kind) ∧ w.cell? ⟨b, off + i * 6 + 1, none⟩ = some (.int .i64 A) ∧ w.cell? ⟨b, off + i * 6 + 2, none⟩ = some (.int .i64 B) ∧
  w.cell? ⟨b, off + i * 6 + 3, none⟩ = some (.int .i64 C) ∧ w.cell? ⟨b, off + i * 6 + 4, none⟩ = some (.string S) ∧ w.cell? ⟨b, off + i * 6 + 5, none⟩ = some (.string T)
theorem bxB (w : World) (sm pk df : Nat) : Blk (w.alloc (.cells #[.pointer (some ⟨sm, 0, none⟩), .pointer (some ⟨pk, 0, none⟩), .pointer (some ⟨df, 0, none⟩)] 31)) w.heap.size 3 (fun o => match o with | 0 => .pointer (some ⟨sm, 0, none⟩) | 1 => .pointer (some ⟨pk, 0, none⟩) | _ => .pointer (some ⟨df, 0, none⟩)) := Blk.new w _ _ _ fun o ho => by
  have ho : o < 3 := by simpa using ho
  obtain rfl | rfl | rfl : o = 0 ∨ o = 1 ∨ o = 2 := by omega
  all_goals rfl
def opCell (kind a b c : Int) (S T : ByteArray) (o : Nat) : Value := match o with | 0 => .int .i64 kind | 1 => .int .i64 a | 2 => .int .i64 b | 3 => .int .i64 c | 4 => .string S | _ => .string T
theorem opB (w : World) (kind a' b' c' : Int) (S T : ByteArray) : Blk (w.alloc (.cells #[.int .i64 kind, .int .i64 a', .int .i64 b', .int .i64 c', .string S, .string T] 52)) w.heap.size 6 (opCell kind a' b' c' S T) := Blk.new w _ _ _ fun o ho => by
  have ho : o < 6 := by simpa using ho
  obtain rfl | rfl | rfl | rfl | rfl | rfl : o = 0 ∨ o = 1 ∨ o = 2 ∨ o = 3 ∨ o = 4 ∨ o = 5 := by omega
  all_goals rfl
theorem Gr.frame {w w' w'' : World} {x sm pk df : Nat} (h : Gr w w' x sm pk df) (k : Fr (fun _ => False) w' w'') : Gr w w'' x sm pk df :=
  ⟨⟨h.ord.1, h.ord.2.1, h.ord.2.2.1, h.ord.2.2.2.1, by have := h.ord.2.2.2.2; have := k.size; omega⟩, h.sim.frame k (fun h => h) (fun _ _ h => h), h.pr.frame k (fun _ _ h => h), h.di.frame k, h.fr.trans k (fun _ _ h => h)⟩
section
variable {w w' : World} {A : Ad} {Y : Nat → Prop} {D : Dk} {ns : List In} {g h n : Nat}
theorem Law.bcells (L : Law w A Y D ns g h n) : w.cell? ⟨A.bb, 0, none⟩ = some (.pointer (some ⟨A.sm, 0, none⟩)) ∧ w.cell? ⟨A.bb, 1, none⟩ = some (.pointer (some ⟨A.pk, 0, none⟩)) ∧ w.cell? ⟨A.bb, 2, none⟩ = some (.pointer (some ⟨A.df, 0, none⟩)) ∧ A.bb < w.heap.size :=
  ⟨L.bx.cell (by omega), L.bx.cell (by omega), L.bx.cell (by omega), L.bx.lt⟩
theorem Law.rem {v : Ending} (L : Law w A Y D ns g h n) (hR : RemPost w A.d D v w') : v = .returned (.tuple #[]) ∧ Fr (fun c => c = A.d) w w' ∧ ∃ D', Law w' A Y D' ns g h n := by
  obtain ⟨rfl, k, D', hD', hd⟩ := hR
  have hk := L.kn
  refine ⟨rfl, k, D', ?_⟩
  rcases hD' with rfl | rfl | ⟨hlt, rfl⟩
  · exact L.ofD k hd rfl rfl rfl rfl L.pt L.sb L.kn
  · exact L.ofD k hd rfl rfl rfl rfl L.pt L.sb L.kn
  · exact L.ofD k hd rfl rfl rfl rfl L.pt L.sb (by show D.kn + 1 ≤ 2; omega)
end
end Go.Proofs.Qxb6500285aGreat
