/- The real parser's sign. -/
import Derived.Test.Qxb6500283aGreatB7a
import Derived.Test.Qxb6500283aGreatB7b
import Derived.Test.Qxb6500283aGreatB7c
import Derived.Test.Qxb6500283aGreatB7d
namespace Go.Proofs.Qxb6500283aGreat
open Go Go.RowKit

theorem signR_any {w : World} {x : Nat} {p : ByteArray} {T : Rs} (hM : RMem w x p T) (hT : RsOk p T) (hsz : p.size ≤ 129) (hi : T.s.i < p.size) (hsg : signB (bt p T.s.i) = true) : Calls Tryz.prog 138 #[.pointer (some ⟨x, 0, none⟩)] w fun e w' => e = .returned (.tuple #[]) ∧ RPost w x p (signR p T) w' := by
  simp only [signB, Bool.or_eq_true, beq_iff_eq] at hsg
  rcases hsg with ((h | h) | h) | h
  · exact signR_42 hM hT hsz hi h
  · exact signR_43 hM hT hsz hi h
  · exact signR_63 hM hT hsz hi h
  · exact signR_brace hM hT hsz hi h
end Go.Proofs.Qxb6500283aGreat
