/- The real checker: Check of a text that the parser refuses. -/
import Derived.Test.Qxb6500277aGreatCB6
namespace Go.Proofs.Qxb6500277aGreat
open Go Go.RowKit

set_option maxRecDepth 100000 in
set_option maxHeartbeats 8000000 in
theorem check_err {w : World} {c p : Nat} {Op : Nat → Prop} (R : RIx w p Op) (C : CI w c p) (hc : ¬ Op c) (src : ByteArray) (he : ∀ ns root err pos, Ans src ns root err pos → err ≠ 0) : Calls Tryz.prog 45 #[.pointer (some ⟨c, 0, none⟩), .string src] w (CkR w c p Op src) := by
  obtain ⟨f, X, cur, s, er, po, b, rf⟩ := C
  have hlt := b.lt
  have c0 := b.cell (o := 0) (by omega)
  rw [rf.1.ps] at c0
  have k0 := (Fr.refl (fun _ => False) w).alloc box10
  have RA := R.frame k0 (fun _ _ h => h)
  have hP := parseR RA src
  have hB := box10_blk w
  have hOl : ∀ d, Op d → d < w.heap.size := by obtain ⟨_, _, _, _, H⟩ := R; exact H.lt
  have HB : Hid (Blk (w.alloc box10) w.heap.size 10 z10) := hB
  have Hk0 : Hid _ := k0
  have HCI : Hid (CI w c p) := ⟨f, X, cur, s, er, po, b, rf⟩
  clear hB k0 RA b
  go_enter Tryz.func45, Tryz.ntmps45
  go_wp2_with fail
  refine hP.mono ?_
  rintro e w1 ⟨O', v, ns, root, err, pos, rfl, R1, hO', F1, hv, hvb, hA, hl⟩
  have he0 := he _ _ _ _ hA
  have e1 : (err != 0) = true := by simpa using he0
  have e2 : (err == 0) = false := by simpa using he0
  have hns : ns = [] ∧ root = -1 := by
    rcases hA with ⟨_, h1, h2, _⟩ | ⟨_, ⟨_, _, h1, h2⟩ | ⟨_, _, h1, _⟩⟩
    · exact ⟨h1, h2⟩
    · exact ⟨h1, h2⟩
    · exact absurd h1 he0
  obtain ⟨rfl, rfl⟩ := hns
  have hv0 : v = .slice none 0 0 := by
    rcases hv with ⟨h, _⟩ | ⟨_, _, _, _, _, h⟩
    · exact h
    · simp at h
  subst hv0
  have X2 := trC_blk w1 (.slice none 0 0) (-1) err pos
  have K2 := (Fr.refl (fun _ => False) w1).alloc (.cells #[.slice none 0 0, .int .i64 (-1), .int .i64 err, .int .i64 pos] 66)
  have hrf := refusedC (w1.alloc (.cells #[.slice none 0 0, .int .i64 (-1), .int .i64 err, .int .i64 pos] 66)) err pos
  have x2 := X2.cell (o := 2) (by omega)
  have x3 := X2.cell (o := 3) (by omega)
  simp only [trC] at x2 x3
  have hbx := HB.out.frame F1 (fun h => by have := hOl _ h; omega)
  have hw1 : w.heap.size < w1.heap.size := by have := hbx.lt; omega
  have HX : Hid _ := And.intro R1 (And.intro hO' (And.intro F1 (And.intro hA (And.intro hbx (And.intro K2 hw1)))))
  clear hP R1 hO' F1 hv hvb hA hl hbx K2 X2 he0
  unfold treeV
  go_wp2_with fail
  refine hrf.mono ?_
  rintro e w2 ⟨rfl, F2⟩
  clear hrf
  obtain ⟨R1, hO', F1, hA, hbx, K2, hw1'⟩ := HX.out
  have B2 := (hbx.frame K2 (fun h => h)).frame F2 (fun h => h)
  have d0 := B2.cell (o := 0) (by omega)
  have d1 := B2.cell (o := 1) (by omega)
  have d2 := B2.cell (o := 2) (by omega)
  have d3 := B2.cell (o := 3) (by omega)
  have d4 := B2.cell (o := 4) (by omega)
  have d5 := B2.cell (o := 5) (by omega)
  have d6 := B2.cell (o := 6) (by omega)
  have d7 := B2.cell (o := 7) (by omega)
  have d8 := B2.cell (o := 8) (by omega)
  have d9 := B2.cell (o := 9) (by omega)
  simp only [z10] at d0 d1 d2 d3 d4 d5 d6 d7 d8 d9
  have dz := B2.frozen
  have dl := B2.lt
  have B3 := B2.set10 (.slice none 0 0) (.int .i64 (-1)) (.int .i64 0) (.int .i64 0) (.slice none 0 0) (.slice none 0 0) (.slice none 0 0) (.int .i64 (-1)) (.int .i64 err) (.int .i64 pos)
  have F3 : Fr (fun d => d = w.heap.size) w2 _ := (Fr.refl (fun d => d = w.heap.size) w2).set10 (b := w.heap.size) (fun _ => rfl) (.slice none 0 0) (.int .i64 (-1)) (.int .i64 0) (.int .i64 0) (.slice none 0 0) (.slice none 0 0) (.slice none 0 0) (.int .i64 (-1)) (.int .i64 err) (.int .i64 pos)
  have K12 : Fr (fun _ => False) w1 w2 := K2.trans F2 (fun _ _ h => h)
  have R3 : RIx _ p O' := (R1.frame K12 (fun _ _ h => h)).frame F3 (fun d hd e => by
    rcases hO' d hd with h | h
    · have := hOl _ h; omega
    · have : (w.alloc box10).heap.size = w.heap.size + 1 := by simp [World.size_alloc]
      omega)
  have FF : Fr (fun d => d = c ∨ Op d) w _ := (((Hk0.out.mono (S' := fun d => d = c ∨ Op d) (fun _ _ h => h.elim)).trans F1 (fun _ _ h => .inr h)).trans K12 (fun _ _ h => h.elim)).trans F3 (fun d hd e => by omega)
  have FC : CI _ c p := (((HCI.out.frame Hk0.out (fun h => h)).frame F1 hc).frame K12 (fun h => h)).frame F3 (fun e => by omega)
  have hcO : ¬ O' c := fun h => by
    rcases hO' c h with h | h
    · exact hc h
    · have : (w.alloc box10).heap.size = w.heap.size + 1 := by simp [World.size_alloc]
      omega
  have hO2 : ∀ d, O' d → Op d ∨ w.heap.size ≤ d := fun d h => by
    rcases hO' d h with h | h
    · exact .inl h
    · have : (w.alloc box10).heap.size = w.heap.size + 1 := by simp [World.size_alloc]
      exact .inr (by omega)
  have hKA : KA src [] (-1) [] [] [] (-1) err pos := .inl ⟨err, pos, he _ _ _ _ hA, hA, rfl, rfl, rfl, rfl, rfl, rfl, rfl, rfl⟩
  have HR : Hid _ := And.intro R3 (And.intro hO2 (And.intro FC (And.intro hcO (And.intro FF (And.intro hKA B3)))))
  unfold set10 at HR
  clear R3 hO2 FC hcO FF hKA B3 F3 K12 B2 F2 R1 hO' F1 hA hbx K2
  unfold refV chkV
  go_wp2_with fail
  obtain ⟨R3, hO2, FC, hcO, FF, hKA, B3⟩ := HR.out
  have q0 := B3.cell (o := 0) (by omega)
  have q1 := B3.cell (o := 1) (by omega)
  have q2 := B3.cell (o := 2) (by omega)
  have q3 := B3.cell (o := 3) (by omega)
  have q4 := B3.cell (o := 4) (by omega)
  have q5 := B3.cell (o := 5) (by omega)
  have q6 := B3.cell (o := 6) (by omega)
  have q7 := B3.cell (o := 7) (by omega)
  have q8 := B3.cell (o := 8) (by omega)
  have q9 := B3.cell (o := 9) (by omega)
  simp only [c10] at q0 q1 q2 q3 q4 q5 q6 q7 q8 q9
  refine bodyPost_ret (v := refV err pos) (by simp [results, Tryz.results45, go_sem, refV, chkV, q0, q1, q2, q3, q4, q5, q6, q7, q8, q9]) rfl ?_
  exact ⟨_, _, _, _, _, [], -1, [], [], [], -1, err, pos, rfl, R3, hO2, FC, hcO, FF, .nil _, fun d hd => by rcases hd with h | h | h | h <;> exact absurd h (nilB d), hKA⟩
end Go.Proofs.Qxb6500277aGreat
