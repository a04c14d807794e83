/- The real parser's class. -/
import Derived.Test.Qxb6500283aGreatB8a
import Derived.Test.Qxb6500283aGreatB8b
import Derived.Test.Qxb6500283aGreatB8c
namespace Go.Proofs.Qxb6500283aGreat
open Go Go.RowKit

theorem classR_any {w : World} {x : Nat} {p : ByteArray} {T : Rs} (hM : RMem w x p T) (hT : RsOk p T) (hsz : p.size ≤ 129) (hi : T.s.i < p.size) (h91 : bt p T.s.i = 91) : Calls Tryz.prog 141 #[.pointer (some ⟨x, 0, none⟩)] w fun e w' => e = .returned (.tuple #[]) ∧ ∃ res, LeafR p T.s.i res ∧ RPost w x p (leafRes T res) w' := by
  cases hz : isB p (T.s.i + 1) 94 with
  | true => exact classR_neg hM hT hsz hi h91 hz
  | false =>
    rcases isB_no hz with y1 | ⟨y1, y2⟩
    · exact classR_end hM hT hsz hi h91 hz y1
    · exact classR_pos hM hT hsz hi h91 hz y1 y2
end Go.Proofs.Qxb6500283aGreat
