import Derived.Test.Qxb6500277aGreatLexM
import Derived.Test.Qxb6500277aGreatW2
import Derived.Test.Qxb6500277aGreatW3
import Derived.Test.Qxb6500277aGreatW4
import Derived.Test.Qxb6500277aGreatW5
namespace Go.Proofs.Qxb6500277aGreat
open Go Go.RowKit

theorem ite_le {p : Prop} [Decidable p] {a b m : Nat} (ha : a ≤ m) (hb : b ≤ m) : (if p then a else b) ≤ m := by split <;> assumption
theorem guessN_le (n c : Nat) : guessN n c ≤ 39 := by
  unfold guessN
  repeat refine ite_le (by omega) ?_
  omega
theorem strNe {a b : ByteArray} (h : a ≠ b) : (a.toList == b.toList) = false := by
  simp only [ByteArray.toList_eq, beq_eq_false_iff_ne, ne_eq]
  exact fun h' => h (ByteArray.ext (by simpa using h'))
set_option maxRecDepth 100000 in
set_option maxHeartbeats 4000000 in
theorem word_any {w : World} {x bb : Nat} {r : R} (h : LRep w x bb r) (hr : r.toks.length ≤ 4096) (s : ByteArray) :
    Calls Tryz.prog 180 #[.pointer (some ⟨x, 0, none⟩), .string s] w fun e w' => e = .returned (.tuple #[]) ∧ LTo w w' x bb (pushR r (wordT r s)) := by
  have hA := h
  obtain ⟨all, hA⟩ := hA
  have c3 : w.cell? ⟨x, 3, none⟩ = some (.int .i64 r.start) := hA.main.cell (by omega)
  have c4 : w.cell? ⟨x, 4, none⟩ = some (.int .u8 r.first) := hA.main.cell (by omega)
  obtain ⟨k, hk⟩ : ∃ k, k = guessN s.size r.first := ⟨_, rfl⟩
  obtain ⟨T, hT⟩ : ∃ T, T = wordT r s := ⟨_, rfl⟩
  rw [← hT]
  have Hk : Hid _ := hk
  by_cases h1 : k = 1
  · have e1 : wordT r s = ⟨1, r.start, 0, s⟩ := by unfold wordT; rw [← hk, h1]; simp
    rw [e1] at hT
    subst h1
    clear hk e1
    go_enter Tryz.func180, Tryz.ntmps180
    go_wp2_with fail
    refine (guess_any _ _ _).mono ?_
    rintro e w1 ⟨rfl, rfl⟩
    rw [← Hk.out]
    go_wp2_with fail
    refine (push_any h hr ⟨1, r.start, 0, s⟩).mono ?_
    rintro e w2 ⟨rfl, l2⟩
    rw [← hT] at l2
    go_wp2_with fail
    go_end0
    exact ⟨rfl, l2⟩
  · have n1 : ((k : Int) != 1) = true := by simp; omega
    have n2 : (k : Int) ≠ 1 := by omega
    by_cases h2 : s = tokText k
    · have e1 : wordT r s = ⟨k, r.start, 0, ⟨#[]⟩⟩ := by unfold wordT; rw [← hk]; simp [h1, ← h2]
      rw [e1] at hT
      have H2 : Hid _ := h2
      have H1 : Hid _ := h1
      have hkl : k ≤ 39 := by rw [hk]; exact guessN_le _ _
      clear hk e1 h1 h2
      go_enter Tryz.func180, Tryz.ntmps180
      go_wp2_with fail
      refine (guess_any _ _ _).mono ?_
      rintro e w1 ⟨rfl, rfl⟩
      rw [← Hk.out]
      go_wp2_with fail
      refine (tokText_any _ _).mono ?_
      rintro e w2 ⟨rfl, rfl⟩
      rw [← H2.out]
      go_wp2_with fail
      refine (push_any h hr ⟨k, r.start, 0, ⟨#[]⟩⟩).mono ?_
      rintro e w3 ⟨rfl, l2⟩
      rw [← hT] at l2
      go_wp2_with fail

      refine bodyPost_ret (v := .tuple #[]) (by simp [results, Tryz.results180, go_sem]) rfl ?_
      exact ⟨rfl, l2⟩
    · have e1 : wordT r s = ⟨1, r.start, 0, s⟩ := by unfold wordT; rw [← hk]; simp [h2]
      rw [e1] at hT
      have H2 : Hid _ := h2
      have hkl : k ≤ 39 := by rw [hk]; exact guessN_le _ _
      clear hk e1 h2 h1
      go_enter Tryz.func180, Tryz.ntmps180
      go_wp2_with fail
      refine (guess_any _ _ _).mono ?_
      rintro e w1 ⟨rfl, rfl⟩
      rw [← Hk.out]
      go_wp2_with fail
      refine (tokText_any _ _).mono ?_
      rintro e w2 ⟨rfl, rfl⟩
      have e3 := strNe H2.out
      go_wp2_with fail
      refine (push_any h hr ⟨1, r.start, 0, s⟩).mono ?_
      rintro e w3 ⟨rfl, l2⟩
      rw [← hT] at l2
      go_wp2_with fail
      go_end0
      exact ⟨rfl, l2⟩
end Go.Proofs.Qxb6500277aGreat
