/- The definitional interpreter: invoke, with no premise on the fuel. -/
import Derived.Test.Qxb6500277aGreatGM24
namespace Go.Proofs.Qxb6500277aGreat
open Go Go.RowKit
theorem invA {G : Gmx} (K : G.Ok) : ∀ (k : Nat) (fm : Int), fm.toNat ≤ k → InvC G fm
  | 0, fm, h => invK K fun h0 => absurd h0 (by omega)
  | k + 1, fm, h => invK K fun h0 => xeC K (invA K k (fm - 1) (by omega))
theorem invAll {G : Gmx} (K : G.Ok) (fm : Int) : InvC G fm := invA K fm.toNat fm (Nat.le_refl _)
end Go.Proofs.Qxb6500277aGreat
