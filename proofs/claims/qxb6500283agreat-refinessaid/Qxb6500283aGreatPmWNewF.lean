import Derived.Test.Qxb6500283aGreatPmPRep
import Derived.Test.Qxb6500283aGreatCopy
namespace Go.Proofs.Qxb6500283aGreat
open Go Go.RowKit

def zf (o : Nat) : Value := if o = 129 ∨ o = 259 ∨ o = 260 ∨ o = 262 ∨ o = 263 ∨ o = 264 then .slice none 0 0 else .int .i64 0
def pz : Array Value := ((List.range 266).map zf).toArray
def zs (n : Nat) : Array Value := Array.replicate n (.int .i64 0)
theorem build50 (ρ : Operand → Value) (dst : Option Tmp) (ty : TypeId) (pos : String) (aft : Array Edge) (gd : Option (Nat × Bool)) (w : World) :
    (execOp ρ ⟨dst, .build 116 #[], ty, pos, aft, gd⟩).run Tryz.prog w = .ok (.value (.agg pz)) w := by kernel_rfl
theorem make512 (w : World) : (Instr.makeSlice 105 (.int .i64 512) (.int .i64 512)).run Tryz.prog w = .ok (.slice (some ⟨w.heap.size, 0, none⟩) 512 512) (w.alloc (.cells (zs 512) 3)) := by kernel_rfl
theorem make8 (w : World) : (Instr.makeSlice 105 (.int .i64 8) (.int .i64 8)).run Tryz.prog w = .ok (.slice (some ⟨w.heap.size, 0, none⟩) 8 8) (w.alloc (.cells (zs 8) 3)) := by kernel_rfl
theorem make65 (w : World) : (Instr.makeSlice 114 (.int .i64 65) (.int .i64 65)).run Tryz.prog w = .ok (.slice (some ⟨w.heap.size, 0, none⟩) 65 65) (w.alloc (.cells (zs 195) 188)) := by kernel_rfl

theorem pz_at (o : Nat) (h : o < 266) : pz[o]? = some (zf o) := by simp [pz, h]
theorem pz_size : pz.size = 266 := by simp [pz]
end Go.Proofs.Qxb6500283aGreat
