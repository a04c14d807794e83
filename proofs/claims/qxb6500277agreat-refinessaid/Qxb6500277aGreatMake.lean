/- make([]T, n), said of blocks. -/
import Derived.Test.Qxb6500277aGreatCopy
namespace Go.Proofs.Qxb6500277aGreat
open Go Go.RowKit
section
variable {P : Program} {ops : Array Oper} {Q : Exit → Act → World → Prop} {a : Act} {w : World} {rest : List Oper} {o : Oper}
theorem wpList_makeB (hgd : o.guard = none) (t : TypeId) (l c : Operand) (ho : o.op = .makeSlice t l c) (e : TypeId) (sz by_ : Nat) (z : Value) (n : Nat)
    (hl : a.eval l = .int .i64 n) (hc : a.eval c = .int .i64 n) (ht : P.underlying t = some (.slice e)) (hs : (P.info? e).map (·.size) = some sz) (hy : (P.info? e).map (·.bytes) = some by_) (hz : (P.info? e).bind (·.zero) = some z)
    (hb : by_ * n ≤ 281474976710656) (h63 : n ≤ 9223372036854775807)
    (h : ∀ w', Fr (fun _ => False) w w' → w'.heap.size = w.heap.size + 1 → Blk w' w.heap.size (n * sz) (fun k => z.cells[k % z.cells.size]!) → wpList P ops Q rest (a.put o.dst (.slice (some ⟨w.heap.size, 0, none⟩) n n)) w') :
    wpList P ops Q (o :: rest) a w := by
  cases hi : P.info? e with
  | none => rw [hi] at hs; cases hs
  | some i =>
    rw [hi] at hs hy hz
    simp only [Option.map_some, Option.some.injEq, Option.bind_some] at hs hy hz
    exact wpList_makeA hgd t l c ho e i z n hl hc ht hi hz (by rw [hy]; exact hb) h63 (by rw [hs]; exact h)
/-- copy out of a nil slice. -/
theorem wpList_copyNil (hgd : o.guard = none) (x y : Operand) (dT sT : TypeId) (ho : o.op = .call { callee := .builtin .copy, args := #[x, y], argTypes := #[dT, sT] })
    (elem : TypeId) (sz : Nat) (d : Option Addr) (dl dc sc : Nat) (hx : a.eval x = .slice d dl dc) (hy : a.eval y = .slice none 0 sc)
    (hu : P.underlying dT = some (.slice elem)) (hs : (P.info? elem).map (·.size) = some sz)
    (h : wpList P ops Q rest (a.put o.dst (.int .i64 0)) w) : wpList P ops Q (o :: rest) a w := by
  refine wpList_run hgd _ _ ?_ h
  obtain ⟨dst, op, ty, pos, aft, gd⟩ := o
  simp only at ho
  subst ho
  have e : execOp a.eval { dst := dst, op := .call { callee := .builtin .copy, args := #[x, y], argTypes := #[dT, sT] }, type := ty, pos := pos, after := aft, guard := gd } =
      (do pure (.value (← Builtin.copy_ #[dT, sT] ty #[a.eval x, a.eval y]))) := by
    rw [BigFrame.execOp_builtin, BigFrame.builtin_copy]; simp
  rw [e, hx, hy, Sem.run_bind]
  cases hq : P.info? elem with
  | none => simp [hq] at hs
  | some i => cases d <;> simp [Builtin.copy_, run_underlying hu, Builtin.lenOf, Builtin.firstCells, sizeOf, typeInfo, hq, goInt, storeCells]
end
end Go.Proofs.Qxb6500277aGreat
