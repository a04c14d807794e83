import Derived.Test.Qxb6500283aGreatPkWRun
import Derived.Test.Qxb6500283aGreatPmWSearch3
namespace Go.Proofs.Qxb6500283aGreat
open Go Go.RowKit

def ansErr (p : List In) (str : ByteArray) (from_ : Int) : Int :=
  if 256 < str.size then 12 else if progOK p = false then 9 else if from_ < 0 ∨ (str.size : Int) < from_ then 10 else 0
def ansOk (p : List In) (str : ByteArray) (from_ : Int) : Bool := if ansErr p str from_ = 0 then (runS p str from_.toNat).isSome else false
def ansC (p : List In) (str : ByteArray) (from_ : Int) : Nat → Int := if ansErr p str from_ = 0 then optK (runS p str from_.toNat) else fun _ => -1
/-- The plain law: the lock-step machine answers as the abstract one, and its gauge. -/
def Plain : Prop := ∀ (p : List In) (str : ByteArray) (from_ : Nat) (s : PS), OkProg p → str.size ≤ 256 → from_ ≤ str.size → CInv s →
  (scanS p str from_ s).1 = (runS p str from_).isSome ∧ (∀ j, j < 8 → capsOf (scanS p str from_ s) j = optK (runS p str from_) j) ∧ CInv (scanS p str from_ s).2 ∧
  (scanS p str from_ s).2.f 265 ≤ 4 * p.length * ((str.size : Int) - from_ + 2)

end Go.Proofs.Qxb6500283aGreat
