/- A region that draws its order, walked in an order that we choose. -/
import Derived.Test.Qxb6500277aGreatText2
namespace Go.Proofs.Qxb6500277aGreat
open Go Go.RowKit

section
variable {P : Program} {Q : Exit → Act → World → Prop}
def ordB (P : Program) (ops : Array Oper) (pre : List Nat) : Bool :=
  Region.noSelect ops && certB ops (Region.before ops) && keepL ops (pre ++ []) && takesB P ops (Array.replicate ops.size false) pre &&
  (Region.ready .any ops (setsL (Array.replicate ops.size false) pre)).isEmpty && pre.length == ops.size && pre.all (· < ops.size)
theorem wp_region_ord {id : Nat} {l : List Oper} {a : Act} {w : World} (pre : List Nat) (hm : P.follows .mixedOrders = true) (hB : ordB P l.toArray pre = true)
    (h : wpList P l.toArray (fun e a' w' => e = .normal ∧ kindsB P l.toArray a' = true ∧ Q .normal a' w') (pick l pre) a w.drew) :
    (Code.region id l.toArray true).wp P Q a w := by
  simp only [ordB, Bool.and_eq_true, beq_iff_eq, List.isEmpty_iff] at hB
  obtain ⟨⟨⟨⟨⟨⟨hsel, hcert⟩, hkeep⟩, hpre⟩, he⟩, hsz⟩, hb⟩ := hB
  have b1 : ∀ k ∈ pre, k < l.length := fun k hk => by simpa using (List.all_eq_true.1 hb) k hk
  rw [← wpOps_pick l pre b1] at h
  have h1 := wpC_of (P := P) (F := fun a' w' => Q .normal a' w') (G := fun a' w' => kindsB P l.toArray a' = true ∧ Q .normal a' w') (t := []) (fun a' w' h => ⟨rfl, h⟩) pre a w.drew hkeep h
  have h2 := wpAnyK_chain hsel hcert 0 pre _ a w.drew hpre dc_none (wpC_mono (fun a' w' hq => ⟨he, rfl, hq⟩) pre a w.drew h1)
  have h3 := wpAny_of_K _ _ _ _ h2
  have h4 : (Code.region id l.toArray true).wp P (NF fun a' w' => kindsB P l.toArray a' = true ∧ Q .normal a' w') a w := by
    refine wp_region_any hm ?_
    have e : 0 + pre.length = l.toArray.size := by omega
    rw [e] at h3
    exact h3
  refine wp_mono h4 ?_
  rintro e a' w' ⟨rfl, _, hq⟩
  exact hq
end
end Go.Proofs.Qxb6500277aGreat
