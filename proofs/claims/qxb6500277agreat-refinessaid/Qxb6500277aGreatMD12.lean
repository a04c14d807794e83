/- The model checker: Check. -/
import Derived.Test.Qxb6500277aGreatMD11
namespace Go.Proofs.Qxb6500277aGreat
open Go Go.RowKit

theorem checkM {w : World} {m q : Nat} (C : MCI w m q) (src : ByteArray) : Calls Tryz.prog 36 #[.pointer (some ⟨m, 0, none⟩), .string src] w (CkM w src) := by
  by_cases h : ∃ ns root pos, Ans src ns root 0 pos
  · obtain ⟨ns, root, pos, h⟩ := h
    exact check_okM C src (fun ns' root' err' pos' h' => (h'.det h).2.2.1)
  · exact check_errM C src (fun ns' root' err' pos' h' e => h ⟨ns', root', pos', e ▸ h'⟩)
end Go.Proofs.Qxb6500277aGreat
