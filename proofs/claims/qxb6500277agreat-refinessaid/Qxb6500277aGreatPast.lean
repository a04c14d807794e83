/- A region that draws its order, whose operations only read and whose callees only make new blocks: one walk in the order of the text. -/
import Derived.Test.Qxb6500277aGreatBase
import Derived.Deep.QuietTactic
import Derived.BigQuiet
namespace Go.Proofs.Qxb6500277aGreat
open Go Go.RowKit

/-- A world behind w in which every block of w stands as it stood. -/
structure Past (w : World) where
  now : World
  fr : Fr (fun _ => False) w now
theorem Past.some (w : World) : Nonempty (Past w) := ⟨⟨w, Fr.refl _ _⟩⟩
theorem Past.cell {w : World} {p : Addr} {v : Value} (h : w.cell? p = Option.some v) (hl : p.block < w.heap.size) (y : Past w) : y.now.cell? p = Option.some v := by
  rw [y.fr.cell hl (fun h => h)]; exact h
section
variable {P : Program}
theorem wp_region_past {id : Nat} {Q : Exit → Act → World → Prop} {a : Act} {w : World} {l : List Oper} (hm : P.follows .mixedOrders = true) (hB : Region.lexB .any l.toArray = true)
    (h : wpQuiet P l.toArray (fun w' => ∃ y : Past w, w' = y.now) (fun a' => ∀ w', (∃ y : Past w, w' = y.now) → Q .normal a' w') l a) : (Code.region id l.toArray true).wp P Q a w :=
  wp_region_quiet (C := fun w' => ∃ y : Past w, w' = y.now) hm hB ⟨⟨_, (Fr.refl _ _).drew⟩, rfl⟩ (by simpa using h)
theorem Calls.past_of {f : FuncId} {args : Array Value} {w : World} {y : Past w} {v : Value}
    (h : Calls P f args y.now fun e w' => e = .returned v ∧ Fr (fun _ => False) y.now w') : Calls P f args y.now fun e w'' => e = .returned v ∧ ∃ z : Past w, w'' = z.now :=
  h.mono fun _ w' ⟨he, hf⟩ => ⟨he, ⟨w', y.fr.trans hf (fun _ _ h => h)⟩, rfl⟩
theorem Calls.past_same {f : FuncId} {args : Array Value} {w : World} {y : Past w} {v : Value}
    (h : Calls P f args y.now fun e w' => e = .returned v ∧ w' = y.now) : Calls P f args y.now fun e w'' => e = .returned v ∧ ∃ z : Past w, w'' = z.now :=
  h.mono fun _ _ ⟨he, hf⟩ => ⟨he, y, hf⟩
end
end Go.Proofs.Qxb6500277aGreat
