/- The real checker: Check. -/
import Derived.Test.Qxb6500277aGreatCB8
namespace Go.Proofs.Qxb6500277aGreat
open Go Go.RowKit

theorem checkC {w : World} {c p : Nat} {Op : Nat → Prop} (R : RIx w p Op) (C : CI w c p) (hc : ¬ Op c) (src : ByteArray) : Calls Tryz.prog 45 #[.pointer (some ⟨c, 0, none⟩), .string src] w (CkR w c p Op src) := by
  by_cases h : ∃ ns root pos, Ans src ns root 0 pos
  · obtain ⟨ns, root, pos, h⟩ := h
    exact check_ok R C hc src fun ns' root' err' pos' h' => (h.det h').2.2.1.symm
  · exact check_err R C hc src fun ns' root' err' pos' h' e => h ⟨ns', root', pos', by rw [← e]; exact h'⟩
end Go.Proofs.Qxb6500277aGreat
