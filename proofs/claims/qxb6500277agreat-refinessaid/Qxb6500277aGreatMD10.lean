/- The model checker: Check of a text that the parser refuses. -/
import Derived.Test.Qxb6500277aGreatMD9
namespace Go.Proofs.Qxb6500277aGreat
open Go Go.RowKit

set_option maxRecDepth 100000 in
set_option maxHeartbeats 8000000 in
theorem check_errM {w : World} {m q : Nat} (C : MCI w m q) (src : ByteArray) (he : ∀ ns root err pos, Ans src ns root err pos → err ≠ 0) : Calls Tryz.prog 36 #[.pointer (some ⟨m, 0, none⟩), .string src] w (CkM w src) := by
  obtain ⟨b, Q⟩ := C
  have hlt := b.lt
  have c0 := b.cell (o := 0) (by omega)
  try simp only at c0
  have k0 := (Fr.refl (fun _ => False) w).alloc box10
  have hP := parseMM (Q.frame k0 (fun h => h)) src
  have HB : Hid (Blk (w.alloc box10) w.heap.size 10 z10) := box10_blk w
  have Hk0 : Hid _ := k0
  clear k0 b Q
  go_enter Tryz.func36, Tryz.ntmps36
  go_wp2_with fail
  refine hP.mono ?_
  rintro e w1 ⟨v, ns, root, err, pos, rfl, F1, hv, hvb, hA⟩
  have he0 := he _ _ _ _ hA
  have e1 : (err != 0) = true := by simpa using he0
  have e2 : (err == 0) = false := by simpa using he0
  have hns : ns = [] ∧ root = -1 := by
    rcases hA with ⟨_, h1, h2, _⟩ | ⟨_, ⟨_, _, h1, h2⟩ | ⟨_, _, h1, _⟩⟩
    · exact ⟨h1, h2⟩
    · exact ⟨h1, h2⟩
    · exact absurd h1 he0
  obtain ⟨rfl, rfl⟩ := hns
  have hv0 : v = .slice none 0 0 := by
    rcases hv with ⟨h, _⟩ | ⟨_, _, _, _, _, h⟩
    · exact h
    · simp at h
  subst hv0
  have X2 := trC_blk w1 (.slice none 0 0) (-1) err pos
  have K2 := (Fr.refl (fun _ => False) w1).alloc (.cells #[.slice none 0 0, .int .i64 (-1), .int .i64 err, .int .i64 pos] 66)
  have x2 := X2.cell (o := 2) (by omega)
  have x3 := X2.cell (o := 3) (by omega)
  simp only [trC] at x2 x3
  have HX : Hid _ := And.intro (((Hk0.out.trans F1 (fun _ _ h => h)).trans K2 (fun _ _ h => h))) (And.intro ((HB.out.frame F1 (fun h => h)).frame K2 (fun h => h)) hA)
  clear hP F1 hv hvb K2 X2 hA he0
  unfold treeV
  have hrf := badM ((w1.alloc (.cells #[.slice none 0 0, .int .i64 (-1), .int .i64 err, .int .i64 pos] 66))) err pos
  go_wp2_with fail
  refine hrf.mono ?_
  rintro v' wE ⟨rfl, F9⟩
  clear hrf
  have BE : Blk wE w.heap.size 10 z10 := ((HX.out.2.1).frame F9 (fun h => h))
  have FE : Fr (fun _ => False) w wE := ((HX.out.1).trans F9 (fun _ _ h => h))
  have o0 := BE.cell (o := 0) (by omega)
  have o1 := BE.cell (o := 1) (by omega)
  have o2 := BE.cell (o := 2) (by omega)
  have o3 := BE.cell (o := 3) (by omega)
  have o4 := BE.cell (o := 4) (by omega)
  have o5 := BE.cell (o := 5) (by omega)
  have o6 := BE.cell (o := 6) (by omega)
  have o7 := BE.cell (o := 7) (by omega)
  have o8 := BE.cell (o := 8) (by omega)
  have o9 := BE.cell (o := 9) (by omega)
  simp only [z10] at o0 o1 o2 o3 o4 o5 o6 o7 o8 o9
  have oz := BE.frozen
  have ol := BE.lt
  have HE2 : Hid _ := And.intro (BE.set10 (.slice none 0 0) (.int .i64 (-1)) (.int .i64 0) (.int .i64 0) (.slice none 0 0) (.slice none 0 0) (.slice none 0 0) (.int .i64 (-1)) (.int .i64 err) (.int .i64 pos)) (FE.set10 (b := w.heap.size) (fun h => absurd h (Nat.lt_irrefl _)) (.slice none 0 0) (.int .i64 (-1)) (.int .i64 0) (.int .i64 0) (.slice none 0 0) (.slice none 0 0) (.slice none 0 0) (.int .i64 (-1)) (.int .i64 err) (.int .i64 pos))
  clear BE FE F9
  unfold refV chkV
  go_wp2_with fail
  obtain ⟨BE, FE⟩ := HE2.out
  have q0 := BE.cell (o := 0) (by omega)
  have q1 := BE.cell (o := 1) (by omega)
  have q2 := BE.cell (o := 2) (by omega)
  have q3 := BE.cell (o := 3) (by omega)
  have q4 := BE.cell (o := 4) (by omega)
  have q5 := BE.cell (o := 5) (by omega)
  have q6 := BE.cell (o := 6) (by omega)
  have q7 := BE.cell (o := 7) (by omega)
  have q8 := BE.cell (o := 8) (by omega)
  have q9 := BE.cell (o := 9) (by omega)
  simp only [c10, set10] at q0 q1 q2 q3 q4 q5 q6 q7 q8 q9
  refine bodyPost_ret (v := refV err pos) (by simp [results, Tryz.results36, go_sem, refV, chkV, q0, q1, q2, q3, q4, q5, q6, q7, q8, q9]) rfl ?_
  exact CkM.bad FE (.inl ⟨err, pos, he _ _ _ _ HX.out.2.2, HX.out.2.2, rfl, rfl, rfl, rfl, rfl, rfl, rfl, rfl⟩)
end Go.Proofs.Qxb6500277aGreat
