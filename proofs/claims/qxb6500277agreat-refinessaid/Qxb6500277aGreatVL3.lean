/- The law: answers are compared; Foot; Join; copies. -/
import Derived.Test.Qxb6500277aGreatVL2
import Derived.Test.Qxb6500277aGreatVR35
import Derived.Laws.IdiomStrings
namespace Go.Proofs.Qxb6500277aGreat
open Go Go.RowKit

theorem KiAt.one {w : World} {v : Value} {l : List Int} (h : KiAt w v l) : ∃ a n k, v = .slice a n k := by
  obtain ⟨a, k, e, _⟩ := h.sl
  exact ⟨_, _, _, e⟩
set_option maxRecDepth 100000 in
set_option maxHeartbeats 1000000 in
theorem joinF {w : World} (s t : ByteArray) (hs : s.size ≤ 4097) (_ht : t.size ≤ 9223372036854775807) : Calls Tryz.prog 11 #[.string s, .string t, .int .i64 4096] w fun e w' => (∃ u : ByteArray, e = .returned (.string u) ∧ u.size ≤ 4097) ∧ w' = w := by
  by_cases h1 : s.size = 4097
  · have y1 : decide ((4097 : Int) - (s.size : Int) ≤ 0) = true := decide_eq_true (by omega)
    go_enter Tryz.func11, Tryz.ntmps11
    go_wp2_with fail
    go_ret
    exact ⟨⟨_, rfl, hs⟩, rfl⟩
  · have y1 : decide ((4097 : Int) - (s.size : Int) ≤ 0) = false := decide_eq_false (by omega)
    by_cases h2 : 4097 - s.size < t.size
    · have y2 : decide ((t.size : Int) > (4097 : Int) - (s.size : Int)) = true := decide_eq_true (by omega)
      have y3 : decide ((4097 : Int) - (s.size : Int) < (t.size : Int)) = true := decide_eq_true (by omega)
      go_enter Tryz.func11, Tryz.ntmps11
      go_wp2_with fail
      go_ret
      exact ⟨⟨_, rfl, by simp; omega⟩, rfl⟩
    · have y2 : decide ((t.size : Int) > (4097 : Int) - (s.size : Int)) = false := decide_eq_false (by omega)
      have y3 : decide ((4097 : Int) - (s.size : Int) < (t.size : Int)) = false := decide_eq_false (by omega)
      go_enter Tryz.func11, Tryz.ntmps11
      go_wp2_with fail
      go_ret
      exact ⟨⟨_, rfl, by simp; omega⟩, rfl⟩
end Go.Proofs.Qxb6500277aGreat
