/- A region that draws its order, walked in an order that we choose, with a stop. -/
import Derived.Test.Qxb6500277aGreatText3
namespace Go.Proofs.Qxb6500277aGreat
open Go Go.RowKit

section
variable {P : Program} {Q : Exit → Act → World → Prop} {ops : Array Oper}
theorem wpOps_app {G F : Act → World → Prop} {js : List Nat} (hG : ∀ a w, G a w → wpOps P ops (NF F) js a w) : ∀ (is : List Nat) (a : Act) (w : World), wpOps P ops (NF G) is a w → wpOps P ops (NF F) (is ++ js) a w
  | [], a, w, h => hG a w h.2
  | i :: r, a, w, h => by
    rw [List.cons_append, wpOps_cons]
    rw [wpOps_cons] at h
    exact wpOp_q (wpOp_mono (fun a' w' h' => wpOps_app hG r a' w' h') h)
/-- What is left of the region. -/
structure Rest (P : Program) (ops : Array Oper) (Q : Exit → Act → World → Prop) (l : List Oper) (a : Act) (w : World) : Prop where
  one : wpList P ops Q l a w
theorem wp_region_stop {id : Nat} {l : List Oper} {a : Act} {w : World} (pre post : List Nat) (hm : P.follows .mixedOrders = true) (hB : ordB P l.toArray (pre ++ post) = true)
    (h : wpList P l.toArray (fun e a' w' => e = .normal ∧ Rest P l.toArray (fun e a' w' => e = .normal ∧ kindsB P l.toArray a' = true ∧ Q .normal a' w') (pick l post) a' w') (pick l pre) a w.drew) :
    (Code.region id l.toArray true).wp P Q a w := by
  have hB' := hB
  simp only [ordB, Bool.and_eq_true] at hB'
  have hb := hB'.2
  have b1 : ∀ k ∈ pre ++ post, k < l.length := fun k hk => by simpa using (List.all_eq_true.1 hb) k hk
  refine wp_region_ord (pre ++ post) hm hB ?_
  rw [← wpOps_pick l pre (fun k hk => b1 k (List.mem_append_left _ hk))] at h
  rw [← wpOps_pick l (pre ++ post) b1]
  refine wpOps_app (G := fun a' w' => Rest P l.toArray (fun e a' w' => e = .normal ∧ kindsB P l.toArray a' = true ∧ Q .normal a' w') (pick l post) a' w') (fun a' w' hr => ?_) pre a w.drew h
  rw [wpOps_pick l post (fun k hk => b1 k (List.mem_append_right _ hk))]
  exact hr.one
end
end Go.Proofs.Qxb6500277aGreat
