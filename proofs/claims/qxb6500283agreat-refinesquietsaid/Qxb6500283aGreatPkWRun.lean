import Derived.Test.Qxb6500283aGreatPkWRoad4
namespace Go.Proofs.Qxb6500283aGreat
open Go Go.RowKit


def roadAt (p : List In) (str : ByteArray) (at_ : Nat) : RoadR := roadS p str (p.length * (str.size + 1) + 1) 0 at_ (fun _ => -1) (fun _ => false)
def runFrom (p : List In) (str : ByteArray) : Nat → Nat → Option (Nat → Int)
  | 0, _ => none
  | m + 1, at_ => if (roadAt p str at_).ok then some (upd (upd (roadAt p str at_).c 0 at_) 1 (roadAt p str at_).e) else runFrom p str m (at_ + 1)
def runS (p : List In) (str : ByteArray) (from_ : Nat) : Option (Nat → Int) := runFrom p str (str.size + 1 - from_) from_

theorem unseen_none (N : Nat) : unseen (fun _ => false) N ≤ N := by unfold unseen; exact Nat.le_trans (List.length_filter_le _ _) (by simp)
def optK (r : Option (Nat → Int)) : Nat → Int := r.getD fun _ => -1

end Go.Proofs.Qxb6500283aGreat
