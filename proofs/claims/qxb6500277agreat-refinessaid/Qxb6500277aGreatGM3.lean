/- The definitional interpreter: its small functions and the heap's, behind other things. -/
import Derived.Test.Qxb6500277aGreatGM2
import Derived.Test.Qxb6500277aGreatKM4a
namespace Go.Proofs.Qxb6500277aGreat
open Go Go.RowKit

section
variable {w w0 : World} {G : Gmx} {s : Ss} {en : Int} {Q : Nat → Prop}
theorem Mm.push (h : Mm G w0 Q w s en) (h0 : 0 ≤ s.us) (h1 : s.us ≤ 48) : Calls Tryz.prog 58 #[.pointer (some ⟨G.r, 0, none⟩)] w fun e w' => e = .returned (.tuple #[]) ∧ ((48 ≤ s.us ∧ Mm G w0 Q w' s 29) ∨ (s.us < 48 ∧ Mm G w0 Q w' { s with us := s.us + 1 } en)) := by
  refine (pushK h.1 h0 h1).mono ?_
  rintro e w' ⟨rfl, ⟨a, b⟩ | ⟨a, b⟩⟩
  · exact ⟨rfl, .inl ⟨a, h.then b⟩⟩
  · exact ⟨rfl, .inr ⟨a, h.then b⟩⟩
theorem Mm.spend (h : Mm G w0 Q w s en) (h0 : -9223372036854775808 ≤ s.fuel) (h1 : s.fuel ≤ 9223372036854775807) : Calls Tryz.prog 54 #[.pointer (some ⟨G.r, 0, none⟩)] w fun e w' => e = .returned (.tuple #[]) ∧ ((s.fuel ≤ 0 ∧ Mm G w0 Q w' s 22) ∨ (0 < s.fuel ∧ Mm G w0 Q w' { s with fuel := s.fuel - 1 } en)) := by
  refine (spendK h.1 h0 h1).mono ?_
  rintro e w' ⟨rfl, ⟨a, b⟩ | ⟨a, b⟩⟩
  · exact ⟨rfl, .inl ⟨a, h.then b⟩⟩
  · exact ⟨rfl, .inr ⟨a, h.then b⟩⟩
theorem Mm.heapEnd (h : Mm G w0 Q w s en) (e : Int) : Calls Tryz.prog 57 #[.pointer (some ⟨G.r, 0, none⟩), .int .i64 e] w fun v w' => v = .returned (.tuple #[]) ∧ ((e = 0 ∧ w' = w) ∨ (e ≠ 0 ∧ Mm G w0 Q w' s (endOf e))) := by
  refine (heapEndK h.1 e).mono ?_
  rintro v w' ⟨rfl, ⟨a, b⟩ | ⟨a, b⟩⟩
  · exact ⟨rfl, .inl ⟨a, b⟩⟩
  · exact ⟨rfl, .inr ⟨a, h.then b⟩⟩
theorem Mm.depthH (h : Mm G w0 Q w s en) : Calls Tryz.prog 37 #[.pointer (some ⟨G.hm, 0, none⟩)] w fun e w' => e = .returned (.int .i64 (s.M.rt.length : Nat)) ∧ w' = w := by
  obtain ⟨ov, O, H⟩ := h.1
  exact depthMF H.hp
theorem Mm.pushNH (h : Mm G w0 Q w s en) : Calls Tryz.prog 55 #[.pointer (some ⟨G.hm, 0, none⟩)] w fun e w' => e = .returned (.int .i64 (pushM s.M).1) ∧ Mm G w0 Q w' { s with M := (pushM s.M).2 } en := by
  obtain ⟨ov, O, H⟩ := h.1
  refine (pushMF H.hp  ).mono ?_
  rintro e w' ⟨rfl, h1, h2⟩
  exact ⟨rfl, h.up (H.heap h1 h2).x (H.hfr h2)⟩
theorem Mm.popH (h : Mm G w0 Q w s en) (h24 : s.M.rt.length ≤ 24) (n : Int) : Calls Tryz.prog 38 #[.pointer (some ⟨G.hm, 0, none⟩), .int .i64 n] w fun e w' => e = .returned (.int .i64 (popM s.M n).1) ∧ Mm G w0 Q w' { s with M := (popM s.M n).2 } en := by
  obtain ⟨ov, O, H⟩ := h.1
  refine (popMF H.hp h24 n).mono ?_
  rintro e w' ⟨rfl, h1, h2⟩
  exact ⟨rfl, h.up (H.heap h1 h2).x (H.hfr h2)⟩
theorem Mm.slideH (h : Mm G w0 Q w s en) (h24 : s.M.rt.length ≤ 24) (n : Int) : Calls Tryz.prog 59 #[.pointer (some ⟨G.hm, 0, none⟩), .int .i64 n] w fun e w' => e = .returned (.int .i64 (slideM s.M n).1) ∧ Mm G w0 Q w' { s with M := (slideM s.M n).2 } en := by
  obtain ⟨ov, O, H⟩ := h.1
  refine (slideMF H.hp h24 n).mono ?_
  rintro e w' ⟨rfl, h1, h2⟩
  exact ⟨rfl, h.up (H.heap h1 h2).x (H.hfr h2)⟩
theorem Mm.dupH (h : Mm G w0 Q w s en) (h24 : s.M.rt.length ≤ 24) (n : Int) : Calls Tryz.prog 133 #[.pointer (some ⟨G.hm, 0, none⟩), .int .i64 n] w fun e w' => e = .returned (.int .i64 (dupM s.M n).1) ∧ Mm G w0 Q w' { s with M := (dupM s.M n).2 } en := by
  obtain ⟨ov, O, H⟩ := h.1
  refine (dupMF H.hp h24 n).mono ?_
  rintro e w' ⟨rfl, h1, h2⟩
  exact ⟨rfl, h.up (H.heap h1 h2).x (H.hfr h2)⟩
theorem Mm.setH (h : Mm G w0 Q w s en) (h24 : s.M.rt.length ≤ 24) (n : Int) : Calls Tryz.prog 140 #[.pointer (some ⟨G.hm, 0, none⟩), .int .i64 n] w fun e w' => e = .returned (.int .i64 (setM s.M n).1) ∧ Mm G w0 Q w' { s with M := (setM s.M n).2 } en := by
  obtain ⟨ov, O, H⟩ := h.1
  refine (setMF H.hp h24 n).mono ?_
  rintro e w' ⟨rfl, h1, h2⟩
  exact ⟨rfl, h.up (H.heap h1 h2).x (H.hfr h2)⟩
theorem Mm.ldRefH (h : Mm G w0 Q w s en) (mi : MInv s.M) (h24 : s.M.rt.length ≤ 24) (i : Int) (j : Int) (l : Int) : Calls Tryz.prog 136 #[.pointer (some ⟨G.hm, 0, none⟩), .int .i64 i, .int .i64 j, .int .i64 l] w fun e w' => e = .returned (.int .i64 (ldRefM s.M i j l).1) ∧ Mm G w0 Q w' { s with M := (ldRefM s.M i j l).2 } en := by
  obtain ⟨ov, O, H⟩ := h.1
  refine (ldRefMF H.hp mi h24 i j l).mono ?_
  rintro e w' ⟨rfl, h1, h2⟩
  exact ⟨rfl, h.up (H.heap h1 h2).x (H.hfr h2)⟩
theorem Mm.allocH (h : Mm G w0 Q w s en) (mi : MInv s.M) (h24 : s.M.rt.length ≤ 24) (p : Int) (q : Int) : Calls Tryz.prog 138 #[.pointer (some ⟨G.hm, 0, none⟩), .int .i64 p, .int .i64 q] w fun e w' => e = .returned (.int .i64 (allocM s.M p q).1) ∧ Mm G w0 Q w' { s with M := (allocM s.M p q).2 } en := by
  obtain ⟨ov, O, H⟩ := h.1
  refine (allocMF H.hp mi h24 p q).mono ?_
  rintro e w' ⟨rfl, h1, h2⟩
  exact ⟨rfl, h.up (H.heap h1 h2).x (H.hfr h2)⟩
theorem Mm.stIntH (h : Mm G w0 Q w s en) (mi : MInv s.M) (h24 : s.M.rt.length ≤ 24) (i : Int) (j : Int) (v : Int) : Calls Tryz.prog 82 #[.pointer (some ⟨G.hm, 0, none⟩), .int .i64 i, .int .i64 j, .int .i64 v] w fun e w' => e = .returned (.int .i64 (stIntM s.M i j v).1) ∧ Mm G w0 Q w' { s with M := (stIntM s.M i j v).2 } en := by
  obtain ⟨ov, O, H⟩ := h.1
  refine (stIntMF H.hp mi h24 i j v).mono ?_
  rintro e w' ⟨rfl, h1, h2⟩
  exact ⟨rfl, h.up (H.heap h1 h2).x (H.hfr h2)⟩
theorem Mm.stRefH (h : Mm G w0 Q w s en) (mi : MInv s.M) (h24 : s.M.rt.length ≤ 24) (i : Int) (j : Int) (l : Int) : Calls Tryz.prog 81 #[.pointer (some ⟨G.hm, 0, none⟩), .int .i64 i, .int .i64 j, .int .i64 l] w fun e w' => e = .returned (.int .i64 (stRefM s.M i j l).1) ∧ Mm G w0 Q w' { s with M := (stRefM s.M i j l).2 } en := by
  obtain ⟨ov, O, H⟩ := h.1
  refine (stRefMF H.hp mi h24 i j l).mono ?_
  rintro e w' ⟨rfl, h1, h2⟩
  exact ⟨rfl, h.up (H.heap h1 h2).x (H.hfr h2)⟩
theorem Mm.ldIntH (h : Mm G w0 Q w s en) (mi : MInv s.M) (h24 : s.M.rt.length ≤ 24) (i j : Int) : Calls Tryz.prog 137 #[.pointer (some ⟨G.hm, 0, none⟩), .int .i64 i, .int .i64 j] w fun e w' => e = .returned (.tuple #[.int .i64 (ldIntM s.M i j).1, .int .i64 (ldIntM s.M i j).2]) ∧ w' = w := by
  obtain ⟨ov, O, H⟩ := h.1
  exact ldIntMF H.hp mi h24 i j
theorem Mm.lenH (h : Mm G w0 Q w s en) (mi : MInv s.M) (h24 : s.M.rt.length ≤ 24) (i : Int) : Calls Tryz.prog 139 #[.pointer (some ⟨G.hm, 0, none⟩), .int .i64 i] w fun e w' => e = .returned (.tuple #[.int .i64 (lenM s.M i).1, .int .i64 (lenM s.M i).2.1, .int .i64 (lenM s.M i).2.2]) ∧ Mm G w0 Q w' s en := by
  obtain ⟨ov, O, H⟩ := h.1
  refine (lenMF H.hp mi h24 i).mono ?_
  rintro e w' ⟨rfl, k⟩
  exact ⟨rfl, h.same k⟩
end
end Go.Proofs.Qxb6500277aGreat
