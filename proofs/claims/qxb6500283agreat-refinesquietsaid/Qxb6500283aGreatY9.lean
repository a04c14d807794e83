/- step, whole. -/
import Derived.Test.Qxb6500283aGreatY8a
import Derived.Test.Qxb6500283aGreatY8b
namespace Go.Proofs.Qxb6500283aGreat
open Go Go.RowKit

def wkV (x : Wk) : Value := .agg #[.int .i64 (x.what : Nat), .int .i64 (x.a : Nat), .int .i64 (x.b : Nat)]
theorem stepB_any {D : Nat → Prop} {w : World} {r bk cp : Nat} {cl : List Nd} {code : List In} {T : List Wk} (hM : BMem D w r (.slice (some ⟨bk, 0, none⟩) cl.length cp) code T.reverse) (hD : ∀ b, w.heap.size ≤ b → D b) (hN : NPAt w bk cl) (hO : NdsOk cl) (x : Wk) (hx : WkOk cl code.length x)
    (hc : code.length ≤ 200) (ht : T.length ≤ 200) :
    Calls Tryz.prog 88 #[.pointer (some ⟨r, 0, none⟩), wkV x] w fun v w' => v = .returned (.tuple #[]) ∧ BMem D w' r (.slice (some ⟨bk, 0, none⟩) cl.length cp) (stepP cl x code T).1 (stepP cl x code T).2.reverse ∧ Fr D w w' := by
  obtain ⟨what, a, b⟩ := x
  rcases hx with ⟨hw, ha⟩ | ⟨hw, ha, hb⟩ | ⟨hw, ha⟩ | ⟨hw, ha⟩ | hw
  · simp only at hw ha
    subst hw
    exact stepB_0 hM hD rfl hN hO ha hc ht
  · simp only at hw ha
    subst hw
    exact stepB_1 hM hD ha hc ht
  · simp only at hw ha
    subst hw
    exact stepB_2 hM hD ha
  · simp only at hw ha
    subst hw
    by_cases hb : b = 1
    · subst hb; exact stepB_3l hM hD ha hc
    · exact stepB_3g hM hD ha hc hb
  · simp only at hw
    subst hw
    exact stepB_4 hM hD hc
end Go.Proofs.Qxb6500283aGreat
