/- The real heap: Dump. -/
import Derived.Test.Qxb6500277aGreatKW9
import Derived.Test.Qxb6500277aGreatMake
namespace Go.Proofs.Qxb6500277aGreat
open Go Go.RowKit

/-- A list of numbers with no spare cell. -/
def LVi (w : World) (v : Value) (p : List Int) : Prop := ∃ b f, v = .slice (some ⟨b, 0, none⟩) p.length p.length ∧ Blk w b p.length f ∧ ∀ i (h : i < p.length), f i = .int .i64 p[i]
/-- A growing list beside the heap and the work list. -/
structure Dmp (w0 : World) (h : Nat) (S : HS) (b : Nat) (l : List Int) (wr : World) (dv : Value) (p : List Int) : Prop where
  K : KiAt wr dv p
  own : ∀ c, isB dv c → b < c
  L : LM wr b l
  H : HM wr h S
  fr : Fr (fun _ => False) w0 wr
  ne : 0 < p.length
  hb : h < b ∧ w0.heap.size ≤ b
section
variable {w0 : World} {h : Nat} {S : HS} {b : Nat} {l : List Int} {wr w' : World} {dv v' : Value} {p q : List Int}
theorem Dmp.same (D : Dmp w0 h S b l wr dv p) (k : Fr (fun _ => False) wr w') : Dmp w0 h S b l w' dv p :=
  ⟨D.K.frame k (fun _ _ h => h), D.own, D.L.frame k (fun h => h), D.H.frame k (fun h => h), D.fr.trans k (fun _ _ h => h), D.ne, D.hb⟩
theorem Dmp.app (D : Dmp w0 h S b l wr dv p) (hK : KiAt w' v' (p ++ q)) (hb : ∀ c, isB v' c → wr.heap.size ≤ c ∨ isB dv c) (k : Fr (isB dv) wr w') : Dmp w0 h S b l w' v' (p ++ q) := by
  have hlb := D.L.lt
  refine ⟨hK, fun c hc => ?_, D.L.frame k (fun hh => by have := D.own b hh; omega), D.H.frame k (fun hh => by have := D.own h hh; have := D.hb; omega), D.fr.trans k (fun c hc hh => by have := D.own c hh; have := D.hb; omega), by have := D.ne; simp; omega, D.hb⟩
  rcases hb c hc with h1 | h1
  · omega
  · exact D.own c h1
theorem one_cell (w : World) (x : Int) : (w.alloc (.cells #[.int .i64 x] 3)).cell? ⟨w.heap.size, 0, none⟩ = some (.int .i64 x) := (Blk.new w #[.int .i64 x] 3 (fun _ => .int .i64 x) (fun o ho => by
    have ho : o < 1 := by simpa using ho
    obtain rfl : o = 0 := by omega
    rfl)).cell (by simp)
theorem two_cell (w : World) (x y : Int) : (w.alloc (.cells #[.int .i64 x, .int .i64 y] 3)).cell? ⟨w.heap.size, 0, none⟩ = some (.int .i64 x) ∧ (w.alloc (.cells #[.int .i64 x, .int .i64 y] 3)).cell? ⟨w.heap.size, 1, none⟩ = some (.int .i64 y) := by
  have hb := Blk.new w #[.int .i64 x, .int .i64 y] 3 (fun o => if o = 0 then .int .i64 x else .int .i64 y) (fun o ho => by
    have ho : o < 2 := by simpa using ho
    obtain rfl | rfl : o = 0 ∨ o = 1 := by omega
    all_goals rfl)
  exact ⟨hb.cell (o := 0) (by simp), hb.cell (o := 1) (by simp)⟩
theorem Dmp.one (_ : Dmp w0 h S b l wr dv p) (x : Int) : KiP (wr.alloc (.cells #[.int .i64 x] 3)) wr.heap.size [x] := KiP.one (one_cell wr x)
theorem Dmp.two (_ : Dmp w0 h S b l wr dv p) (x y : Int) : KiP (wr.alloc (.cells #[.int .i64 x, .int .i64 y] 3)) wr.heap.size [x, y] := KiP.two (two_cell wr x y).1 (two_cell wr x y).2
end
def objD (S : HS) (l : List Int) (a : Int) : List Int := [((rfO S.mem a).length : Int), ((itO S.mem a).length : Int)] ++ (rfO S.mem a).map (fnd l) ++ itO S.mem a
theorem dump_eq (S : HS) : S.gh.dump = [(S.top : Int)] ++ (rts S S.top).map (fnd S.gh.ord) ++ [(S.gh.ord.length : Int)] ++ S.gh.ord.flatMap (objD S S.gh.ord) := by
  unfold Gh.dump
  rw [rt_len]
  rfl
theorem map_take {α : Type} (f : α → Int) {l : List α} {k : Nat} (h : k < l.length) : (l.take (k + 1)).map f = (l.take k).map f ++ [f l[k]] := by
  rw [List.take_succ_eq_append_getElem h, List.map_append]; rfl
theorem rts_map (S : HS) (f : Int → Int) (i : Nat) : (rts S (i + 1)).map f = (rts S i).map f ++ [f (S.roots i)] := by
  unfold rts; rw [List.range_succ]; simp
theorem flat_take (f : Int → List Int) {l : List Int} {k : Nat} (h : k < l.length) : (l.take (k + 1)).flatMap f = (l.take k).flatMap f ++ f l[k] := by
  rw [List.take_succ_eq_append_getElem h, List.flatMap_append, List.flatMap_singleton]
end Go.Proofs.Qxb6500277aGreat
