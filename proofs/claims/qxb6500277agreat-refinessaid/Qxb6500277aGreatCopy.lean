/- copy, make, and rows of cells, said of blocks. -/
import Derived.Test.Qxb6500277aGreatBase
namespace Go.Proofs.Qxb6500277aGreat
open Go Go.RowKit

theorem Fr.setCells {S : Nat → Prop} {a : World} (b : Nat) (hp : b < a.heap.size → S b) : ∀ (vs : List Value) (o : Nat) {w : World}, Fr S a w → Fr S a (w.setCells b o vs)
  | [], _, _, h => h
  | v :: r, o, _, h => Fr.setCells b hp r (o + 1) (h.setC b o v hp)
theorem Blk.setCellsOther {b n : Nat} {f : Nat → Value} (b' : Nat) (hb : b ≠ b') : ∀ (vs : List Value) (o : Nat) {w : World}, Blk w b n f → Blk (w.setCells b' o vs) b n f
  | [], _, _, h => h
  | v :: r, o, _, h => Blk.setCellsOther b' hb r (o + 1) (h.setOther ⟨b', o, none⟩ v hb)
/-- f with the values vs laid from o on. -/
def lay {α : Type} (f : Nat → α) (o : Nat) (vs : List α) : Nat → α := fun k => if k < o then f k else (vs[k - o]?).getD (f k)
theorem lay_nil {α : Type} (f : Nat → α) (o : Nat) : lay f o [] = f := by funext k; simp [lay]
theorem lay_cons {α : Type} (f : Nat → α) (o : Nat) (v : α) (r : List α) : lay f o (v :: r) = lay (upd f o v) (o + 1) r := by
  funext k
  simp only [lay, upd]
  rcases Nat.lt_trichotomy k o with h | h | h
  · simp [h, show k < o + 1 by omega, show k ≠ o by omega]
  · subst h; simp
  · simp only [show ¬ k < o by omega, show ¬ k < o + 1 by omega, show k ≠ o by omega, if_false]
    rw [show k - o = (k - (o + 1)) + 1 by omega]; simp
theorem lay_in {α : Type} (f : Nat → α) (o : Nat) (vs : List α) (k : Nat) (h1 : o ≤ k) (h2 : k < o + vs.length) : lay f o vs k = vs[k - o]'(by omega) := by
  simp [lay, show ¬ k < o by omega, show k - o < vs.length by omega]
theorem lay_out {α : Type} (f : Nat → α) (o : Nat) (vs : List α) (k : Nat) (h : k < o ∨ o + vs.length ≤ k) : lay f o vs k = f k := by
  rcases h with h | h
  · simp [lay, h]
  · by_cases h' : k < o
    · simp [lay, h']
    · simp [lay, h', List.getElem?_eq_none (show vs.length ≤ k - o by omega)]
theorem Blk.setCells {b n : Nat} : ∀ (vs : List Value) (o : Nat) {w : World} {f : Nat → Value}, Blk w b n f → Blk (w.setCells b o vs) b n (lay f o vs)
  | [], o, _, f, h => by rw [lay_nil]; exact h
  | v :: r, o, _, f, h => by rw [lay_cons]; exact Blk.setCells r (o + 1) (h.set o v)

def rowOf (f : Nat → Value) (o n : Nat) : List Value := (List.range n).map fun j => f (o + j)
theorem rowOf_length (f : Nat → Value) (o n : Nat) : (rowOf f o n).length = n := by simp [rowOf]
theorem rowOf_get (f : Nat → Value) (o n j : Nat) (h : j < n) : (rowOf f o n)[j]? = some (f (o + j)) := by simp [rowOf, h]

theorem run_copy_blk {P : Program} (w : World) (dT sT ty elem : TypeId) (sz : Nat) (db dof dl dc sb sof sl sc dm sm n : Nat) (g f : Nat → Value)
    (hu : P.underlying dT = some (.slice elem)) (hs : (P.info? elem).map (·.size) = some sz) (hn : n = Nat.min sl dl) (hd : Blk w db dm g) (hb : Blk w sb sm f)
    (b1 : dof + n * sz ≤ dm) (b2 : sof + n * sz ≤ sm) (h1 : ∀ j, j < n * sz → (f (sof + j)).oneCell' = true) :
    (Builtin.copy_ #[dT, sT] ty #[.slice (some ⟨db, dof, none⟩) dl dc, .slice (some ⟨sb, sof, none⟩) sl sc]).run P w = .ok (.int .i64 n) (w.setCells db dof (rowOf f sof (n * sz))) := by
  have hadd : ∀ j, (⟨sb, sof, none⟩ : Addr).add j = ⟨sb, sof + j, none⟩ := fun j => by unfold Addr.add; split <;> simp_all
  have hl := run_loadCells_list (P := P) w ⟨sb, sof, none⟩ (rowOf f sof (n * sz)) (fun j v hv => by
    have hj : j < n * sz := by
      have := (List.getElem?_eq_some_iff.1 hv).1
      rwa [rowOf_length] at this
    rw [rowOf_get f sof _ j hj] at hv
    cases hv
    rw [hadd]
    exact hb.cell (by omega))
  have hst := run_storeCells_cells (P := P) db dof (rowOf f sof (n * sz)) 0 w
    (fun j hj => by rw [rowOf_length] at hj; rw [hd.cell (by omega)]; rfl) (fun j _ => hd.frozen _)
    (fun v hv => by
      obtain ⟨j, hj, rfl⟩ := List.mem_map.1 hv
      exact h1 j (by simpa using hj))
  rw [rowOf_length] at hl
  cases hq : P.info? elem with
  | none => simp [hq] at hs
  | some i =>
    have hi : i.size = sz := by simpa [hq] using hs
    simp only [Nat.add_zero] at hst
    simp [Builtin.copy_, run_underlying hu, Builtin.lenOf, Builtin.firstCells, sizeOf, typeInfo, hq, hi, ← hn, hl, hst, goInt]

section
variable {P : Program} {ops : Array Oper} {Q : Exit → Act → World → Prop} {a : Act} {w : World} {rest : List Oper} {o : Oper}
/-- A builtin (or any operation) whose run is known. -/
theorem wpList_run (hgd : o.guard = none) (v : Value) (w' : World) (hr : (execOp a.eval o).run P w = .ok (.value v) w') (h : wpList P ops Q rest (a.put o.dst v) w') : wpList P ops Q (o :: rest) a w :=
  wpList_plain hgd fun K hK => by unfold Oper.wp; rw [hr]; exact hK _ _ h
theorem wpList_copy (hgd : o.guard = none) (x y : Operand) (dT sT : TypeId) (ho : o.op = .call { callee := .builtin .copy, args := #[x, y], argTypes := #[dT, sT] })
    (elem : TypeId) (sz : Nat) (db dof dl dc sb sof sl sc dm sm n : Nat) (g f : Nat → Value) (hx : a.eval x = .slice (some ⟨db, dof, none⟩) dl dc) (hy : a.eval y = .slice (some ⟨sb, sof, none⟩) sl sc)
    (hu : P.underlying dT = some (.slice elem)) (hs : (P.info? elem).map (·.size) = some sz) (hn : n = Nat.min sl dl) (hd : Blk w db dm g) (hb : Blk w sb sm f)
    (b1 : dof + n * sz ≤ dm) (b2 : sof + n * sz ≤ sm) (h1 : ∀ j, j < n * sz → (f (sof + j)).oneCell' = true)
    (h : wpList P ops Q rest (a.put o.dst (.int .i64 n)) (w.setCells db dof (rowOf f sof (n * sz)))) : wpList P ops Q (o :: rest) a w := by
  refine wpList_run hgd _ _ ?_ h
  obtain ⟨dst, op, ty, pos, aft, gd⟩ := o
  simp only at ho
  subst ho
  have hr := run_copy_blk (P := P) w dT sT ty elem sz db dof dl dc sb sof sl sc dm sm n g f hu hs hn hd hb b1 b2 h1
  have e : execOp a.eval { dst := dst, op := .call { callee := .builtin .copy, args := #[x, y], argTypes := #[dT, sT] }, type := ty, pos := pos, after := aft, guard := gd } =
      (do pure (.value (← Builtin.copy_ #[dT, sT] ty #[a.eval x, a.eval y]))) := by
    rw [BigFrame.execOp_builtin, BigFrame.builtin_copy]; simp
  rw [e, hx, hy, Sem.run_bind, hr]
  rfl
/-- The same, with the world behind it under a name of its own. -/
theorem wpList_copyA (hgd : o.guard = none) (x y : Operand) (dT sT : TypeId) (ho : o.op = .call { callee := .builtin .copy, args := #[x, y], argTypes := #[dT, sT] })
    (elem : TypeId) (sz : Nat) (db dof dl dc sb sof sl sc dm sm n : Nat) (g f : Nat → Value) (hx : a.eval x = .slice (some ⟨db, dof, none⟩) dl dc) (hy : a.eval y = .slice (some ⟨sb, sof, none⟩) sl sc)
    (hu : P.underlying dT = some (.slice elem)) (hs : (P.info? elem).map (·.size) = some sz) (hn : n = Nat.min sl dl) (hd : Blk w db dm g) (hb : Blk w sb sm f)
    (b1 : dof + n * sz ≤ dm) (b2 : sof + n * sz ≤ sm) (h1 : ∀ j, j < n * sz → (f (sof + j)).oneCell' = true)
    (h : ∀ w', Fr (fun b => b = db) w w' → Blk w' db dm (lay g dof (rowOf f sof (n * sz))) → wpList P ops Q rest (a.put o.dst (.int .i64 n)) w') : wpList P ops Q (o :: rest) a w :=
  wpList_copy hgd x y dT sT ho elem sz db dof dl dc sb sof sl sc dm sm n g f hx hy hu hs hn hd hb b1 b2 h1 (h _ (Fr.setCells (S := fun b => b = db) db (fun _ => rfl) _ _ (Fr.refl _ _)) (hd.setCells _ _))
/-- make([]T, n). -/
theorem wpList_makeA (hgd : o.guard = none) (t : TypeId) (l c : Operand) (ho : o.op = .makeSlice t l c) (e : TypeId) (i : TypeInfo) (z : Value) (n : Nat)
    (hl : a.eval l = .int .i64 n) (hc : a.eval c = .int .i64 n) (ht : P.underlying t = some (.slice e)) (hi : P.info? e = some i) (hz : i.zero = some z) (hb : i.bytes * n ≤ 281474976710656) (h63 : n ≤ 9223372036854775807)
    (h : ∀ w', Fr (fun _ => False) w w' → w'.heap.size = w.heap.size + 1 → Blk w' w.heap.size (n * i.size) (fun k => z.cells[k % z.cells.size]!) → wpList P ops Q rest (a.put o.dst (.slice (some ⟨w.heap.size, 0, none⟩) n n)) w') :
    wpList P ops Q (o :: rest) a w := by
  have hr := run_make (P := P) w t e i z ht hi hz .i64 .i64 n n (by omega) (by omega) (by have h1 := Int.ofNat_le.2 hb; rw [Int.natCast_mul] at h1; exact h1) (Int.ofNat_le.2 h63)
  simp only [Int.toNat_natCast] at hr
  refine wpList_run hgd (.slice (some ⟨w.heap.size, 0, none⟩) n n) (w.alloc (.cells (madeCells z.cells (n * i.size)) e)) ?_ (h _ ((Fr.refl _ _).alloc _) (by simp) ?_)
  · obtain ⟨dst, op, ty, pos, aft, gd⟩ := o
    simp only at ho
    subst ho
    have e2 : execOp a.eval { dst := dst, op := .makeSlice t l c, type := ty, pos := pos, after := aft, guard := gd } = (do pure (.value (← Instr.makeSlice t (a.eval l) (a.eval c)))) := rfl
    rw [e2, hl, hc, Sem.run_bind, hr]
    rfl
  · have := Blk.new w (madeCells z.cells (n * i.size)) e (fun k => z.cells[k % z.cells.size]!) (fun k hk => by
      simp only [madeCells, Array.size_map, Array.size_range] at hk
      simp [madeCells, hk])
    simpa [madeCells] using this
end
end Go.Proofs.Qxb6500277aGreat
