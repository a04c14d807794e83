/- The model heap: Dump. -/
import Derived.Test.Qxb6500277aGreatKM5
import Derived.Test.Qxb6500277aGreatKW10
namespace Go.Proofs.Qxb6500277aGreat
open Go Go.RowKit

/-- A growing answer beside the list and the model. -/
structure Dm (w0 : World) (m : Nat) (M : MS) (O : Nat → Prop) (ov rv : Value) (f : Nat → Value) (B : Nat) (lv : Value) (l : List Int) (wr : World) (dv : Value) (p : List Int) : Prop where
  D : Odr w0 m M O ov rv f wr lv l
  K : KiAt wr dv p
  own : ∀ c, isB dv c → B ≤ c
  low : ∀ c, isB lv c → c < B
  hB : w0.heap.size ≤ B ∧ B ≤ wr.heap.size
  ne : 0 < p.length
section
variable {w0 : World} {m : Nat} {M : MS} {O : Nat → Prop} {ov rv : Value} {f : Nat → Value} {B : Nat} {lv : Value} {l : List Int} {wr w' : World} {dv v' : Value} {p q : List Int}
theorem Dm.same (D : Dm w0 m M O ov rv f B lv l wr dv p) (k : Fr (fun _ => False) wr w') : Dm w0 m M O ov rv f B lv l w' dv p :=
  ⟨D.D.same k, D.K.frame k (fun _ _ h => h), D.own, D.low, by have := D.hB; have := k.size; omega, D.ne⟩
theorem Dm.app (D : Dm w0 m M O ov rv f B lv l wr dv p) (hK : KiAt w' v' (p ++ q)) (hb : ∀ c, isB v' c → wr.heap.size ≤ c ∨ isB dv c) (k : Fr (isB dv) wr w') : Dm w0 m M O ov rv f B lv l w' v' (p ++ q) := by
  have hB := D.hB
  have hz := k.size
  refine ⟨⟨D.D.K.frame k (fun c hc hh => by have := D.low c hc; have := D.own c hh; omega), D.D.own, D.D.V.frame k (fun c hc hh => by have := D.D.hO c hc; have := D.own c hh; omega), D.D.fr.trans k (fun c hc hh => by have := D.own c hh; omega), D.D.hO⟩, hK, fun c hc => ?_, D.low, by omega, by have := D.ne; simp; omega⟩
  rcases hb c hc with h | h
  · omega
  · exact D.own c h
end
def objM (M : MS) (l : List Int) (a : Int) : List Int := [((rfM M.objs a).length : Int), ((itM M.objs a).length : Int)] ++ (rfM M.objs a).map (fnd l) ++ itM M.objs a
theorem dumpM_eq (M : MS) : M.gh.dump = [(M.rt.length : Int)] ++ M.rt.map (fnd M.gh.ord) ++ [(M.gh.ord.length : Int)] ++ M.gh.ord.flatMap (objM M M.gh.ord) := rfl
theorem obj2 (w : World) (x y : Value) : Blk (w.alloc (.cells #[x, y] 195)) w.heap.size 2 (mc x y) := Blk.new w _ _ _ fun o ho => by
  have ho : o < 2 := by simpa using ho
  obtain rfl | rfl : o = 0 ∨ o = 1 := by omega
  all_goals rfl
end Go.Proofs.Qxb6500277aGreat
