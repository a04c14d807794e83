/- The model's class. -/
import Derived.Test.Qxb6500283aGreatC4a
import Derived.Test.Qxb6500283aGreatC4b
namespace Go.Proofs.Qxb6500283aGreat
open Go Go.RowKit

theorem classM_any {w : World} {r : Nat} {p : ByteArray} {s : Sg} (hM : MMem w r p s) (hS : SgOk p s) (hsz : p.size ≤ 129) (hi : s.i < p.size) (h91 : bt p s.i = 91) : Calls Tryz.prog 161 #[.pointer (some ⟨r, 0, none⟩)] w fun e w' => ∃ res, LeafR p s.i res ∧ MPost w r p (leafM s res) 210 e w' := by
  cases hz : isB p (s.i + 1) 94 with
  | true => exact classM_neg hM hS hsz hi h91 hz
  | false => exact classM_pos hM hS hsz hi h91 hz
end Go.Proofs.Qxb6500283aGreat
