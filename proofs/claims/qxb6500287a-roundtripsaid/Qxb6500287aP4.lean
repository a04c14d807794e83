/- put: what its cases need. -/
import Derived.Test.Qxb6500287aP3
import Derived.Test.Qxb6500287aL5
namespace Go.Proofs.Qxb6500287a
open Go Go.RowKit

/-- A repeat's bounds. -/
def RB (n : Nd) : Prop := n.kind = 6 → 0 ≤ n.mn ∧ n.mn ≤ 3 ∧ -1 ≤ n.mx ∧ n.mx ≤ 3
/-- put's contract at node x. -/
def PutC (ns : List Nd) (x : Nat) : Prop := ∀ (w : World) (v : Value) (l : List Nat) (tb pl : Nat) (y g e q : Int), pl ≤ 4 → (∃ f, Blk w tb (ns.length * 11) f ∧ Holds11 f ns) → (∀ b, isBlk v b → b ≠ tb) → BtAt w v l → l.length + (pr ns x pl).length ≤ 549755813888 →
    Calls Try.prog 26 #[v, .agg #[.slice (some ⟨tb, 0, none⟩) ns.length ns.length, .int .i64 y, .int .i64 g, .int .i64 e, .int .i64 q], .int .i64 (x : Nat), .int .i64 (pl : Nat)] w fun e w' => ∃ v', e = .returned v' ∧ Put w v l (pr ns x pl) v' w'
theorem PutC.len {ns : List Nd} {x pl : Nat} {l : List Nat} (h : l.length + (pr ns x pl).length ≤ 549755813888) : ∀ T R, pr ns x pl = T ++ R → (l ++ T).length ≤ 549755813888 := fun T R e => by
  rw [e] at h
  simp only [List.length_append] at h ⊢
  omega
end Go.Proofs.Qxb6500287a
