/- The named sets, the hex digits. -/
import Derived.Test.Qxb6500283aGreatA1
namespace Go.Proofs.Qxb6500283aGreat
open Go Go.RowKit

theorem setV_no : setV noP = .agg #[.int .u64 0, .int .u64 0, .int .u64 0, .int .u64 0] := by simp [setV, wd_zero]
theorem joinP_no (P : BSet) : joinP noP P = P := by funext x; simp [joinP, noP]
theorem Blk.zero4 (w : World) : Blk (w.alloc (.cells #[.int .u64 0, .int .u64 0, .int .u64 0, .int .u64 0] 95)) w.heap.size 4 (u64s (wd noP)) :=
  Blk.new w _ _ _ fun o ho => by
    rcases (show o = 0 ∨ o = 1 ∨ o = 2 ∨ o = 3 by simp at ho; omega) with rfl | rfl | rfl | rfl <;> simp [u64s, wd_zero]
theorem u64s_all (f : Nat → Value) (P : BSet) : ∀ o, o < 4 → upd (upd (upd (upd f 0 (.int .u64 (wd P 0 : Nat))) 1 (.int .u64 (wd P 1 : Nat))) 2 (.int .u64 (wd P 2 : Nat))) 3 (.int .u64 (wd P 3 : Nat)) o = u64s (wd P) o := by
  intro o ho
  rcases (show o = 0 ∨ o = 1 ∨ o = 2 ∨ o = 3 by omega) with rfl | rfl | rfl | rfl <;> simp [upd, u64s]
/-- The world behind the store of a set. -/
def psetW (w : World) (b : Nat) (P : BSet) : World := (((w.setCell ⟨b, 0, none⟩ (.int .u64 (wd P 0 : Nat))).setCell ⟨b, 1, none⟩ (.int .u64 (wd P 1 : Nat))).setCell ⟨b, 2, none⟩ (.int .u64 (wd P 2 : Nat))).setCell ⟨b, 3, none⟩ (.int .u64 (wd P 3 : Nat))
theorem Blk.pset {w : World} {b : Nat} {f : Nat → Value} (h : Blk w b 4 f) (P : BSet) : Blk ((((w.setCell ⟨b, 0, none⟩ (.int .u64 (wd P 0 : Nat))).setCell ⟨b, 1, none⟩ (.int .u64 (wd P 1 : Nat))).setCell ⟨b, 2, none⟩ (.int .u64 (wd P 2 : Nat))).setCell ⟨b, 3, none⟩ (.int .u64 (wd P 3 : Nat))) b 4 (u64s (wd P)) :=
  ((((h.set 0 _).set 1 _).set 2 _).set 3 _).congr (u64s_all f P)
theorem Fr.pset {S : Nat → Prop} {v w : World} (h : Fr S v w) {b : Nat} (hS : b < v.heap.size → S b) (P : BSet) : Fr S v ((((w.setCell ⟨b, 0, none⟩ (.int .u64 (wd P 0 : Nat))).setCell ⟨b, 1, none⟩ (.int .u64 (wd P 1 : Nat))).setCell ⟨b, 2, none⟩ (.int .u64 (wd P 2 : Nat))).setCell ⟨b, 3, none⟩ (.int .u64 (wd P 3 : Nat))) :=
  (((h.setC b 0 _ hS).setC b 1 _ hS).setC b 2 _ hS).setC b 3 _ hS
theorem Blk.four {w : World} {b : Nat} {P : BSet} (h : Blk w b 4 (u64s (wd P))) : w.cell? ⟨b, 0, none⟩ = some (.int .u64 (wd P 0 : Nat)) ∧ w.cell? ⟨b, 1, none⟩ = some (.int .u64 (wd P 1 : Nat)) ∧ w.cell? ⟨b, 2, none⟩ = some (.int .u64 (wd P 2 : Nat)) ∧ w.cell? ⟨b, 3, none⟩ = some (.int .u64 (wd P 3 : Nat)) :=
  ⟨h.cell (by omega), h.cell (by omega), h.cell (by omega), h.cell (by omega)⟩
set_option maxHeartbeats 1000000 in
theorem digits_any (w : World) : Calls Tryz.prog 167 #[] w fun e w' => e = .returned (setV (btw 48 57)) ∧ Fr (fun _ => False) w w' := by
  go_enter Tryz.func167, Tryz.ntmps167
  go_wp2_with fail
  refine (between_any 48 57 (by omega) (by omega) _).mono ?_
  rintro e w1 ⟨rfl, f1⟩
  unfold setV
  have hb := (Blk.zero4 w).frame f1 (by simp)
  obtain ⟨c0, c1, c2, c3⟩ := hb.four
  have z := hb.frozen
  have hl := hb.lt
  go_wp2_with fail
  obtain ⟨r0, r1, r2, r3⟩ := (hb.pset (btw 48 57)).four
  exact bodyPost_ret (v := setV (btw 48 57)) (by simp [results, Tryz.results167, go_sem, setV, r0, r1, r2, r3]) rfl ⟨rfl, Fr.pset (((Fr.refl _ w).alloc _).trans f1 (fun _ _ h => h)) (fun h => by omega) (btw 48 57)⟩
set_option maxHeartbeats 1000000 in
theorem one_any (c : Nat) (hc : c < 256) (w : World) : Calls Tryz.prog 164 #[.int .u8 c] w fun e w' => e = .returned (setV (btw c c)) ∧ Fr (fun _ => False) w w' := by
  go_enter Tryz.func164, Tryz.ntmps164
  have e0 := setV_no
  go_wp2_with fail
  refine (span_any noP c c hc hc _).mono ?_
  rintro e w1 ⟨rfl, f1⟩
  rw [joinP_no]
  unfold setV
  have hb := (Blk.zero4 w).frame f1 (by simp)
  obtain ⟨c0, c1, c2, c3⟩ := hb.four
  have z := hb.frozen
  have hl := hb.lt
  go_wp2_with fail
  obtain ⟨r0, r1, r2, r3⟩ := (hb.pset (btw c c)).four
  exact bodyPost_ret (v := setV (btw c c)) (by simp [results, Tryz.results164, go_sem, setV, r0, r1, r2, r3]) rfl ⟨rfl, Fr.pset (((Fr.refl _ w).alloc _).trans f1 (fun _ _ h => h)) (fun h => by omega) (btw c c)⟩
set_option maxHeartbeats 1000000 in
theorem wordy_any (w : World) : Calls Tryz.prog 168 #[] w fun e w' => e = .returned (setV wordP) ∧ Fr (fun _ => False) w w' := by
  go_enter Tryz.func168, Tryz.ntmps168
  go_wp2_with fail
  refine (between_any 48 57 (by omega) (by omega) _).mono ?_
  rintro e w1 ⟨rfl, f1⟩
  unfold setV
  have hR1 := (Blk.zero4 w).frame f1 (by simp)
  obtain ⟨cR10, cR11, cR12, cR13⟩ := hR1.four
  have zR1 := hR1.frozen
  have lR1 := hR1.lt
  have F1 := ((Fr.refl (fun _ => False) w).alloc _).trans f1 (fun _ _ h => h)
  have g1 := (Fr.refl (fun _ => False) w1).alloc (.cells #[.int .u64 (wd (btw 48 57) 0 : Nat), .int .u64 (wd (btw 48 57) 1 : Nat), .int .u64 (wd (btw 48 57) 2 : Nat), .int .u64 (wd (btw 48 57) 3 : Nat)] 95)
  have G1 := F1.trans g1 (fun _ _ h => h)
  go_wp2_with fail
  refine (between_any 65 90 (by omega) (by omega) _).mono ?_
  rintro e w2 ⟨rfl, f2⟩
  unfold setV
  have hR2 := (hR1.frame g1 (by intro h; first | exact h | omega)).frame f2 (by simp)
  obtain ⟨cR20, cR21, cR22, cR23⟩ := hR2.four
  have zR2 := hR2.frozen
  have lR2 := hR2.lt
  have hs2 := (Blk.u64four w1 (wd (btw 48 57)) 95).frame f2 (by simp)
  obtain ⟨cs20, cs21, cs22, cs23⟩ := hs2.four
  have zs2 := hs2.frozen
  have ls2 := hs2.lt
  have F2 := G1.trans f2 (fun _ _ h => h)
  have g2 := (Fr.refl (fun _ => False) w2).alloc (.cells #[.int .u64 (wd (btw 65 90) 0 : Nat), .int .u64 (wd (btw 65 90) 1 : Nat), .int .u64 (wd (btw 65 90) 2 : Nat), .int .u64 (wd (btw 65 90) 3 : Nat)] 95)
  have G2 := F2.trans g2 (fun _ _ h => h)
  go_wp2_with fail
  refine (join_any _ _ _).mono ?_
  rintro e w3 ⟨rfl, f3⟩
  unfold setV
  have hR3 := (hR2.frame g2 (by intro h; first | exact h | omega)).frame f3 (by simp)
  obtain ⟨cR30, cR31, cR32, cR33⟩ := hR3.four
  have zR3 := hR3.frozen
  have lR3 := hR3.lt
  have hs3 := (hs2.frame g2 (by intro h; first | exact h | omega)).frame f3 (by simp)
  obtain ⟨cs30, cs31, cs32, cs33⟩ := hs3.four
  have zs3 := hs3.frozen
  have ls3 := hs3.lt
  have hu3 := (Blk.u64four w2 (wd (btw 65 90)) 95).frame f3 (by simp)
  obtain ⟨cu30, cu31, cu32, cu33⟩ := hu3.four
  have zu3 := hu3.frozen
  have lu3 := hu3.lt
  have F3 := G2.trans f3 (fun _ _ h => h)
  have g3 := (Fr.refl (fun b => b = w1.heap.size) w3).pset (b := w1.heap.size) (fun _ => rfl) (joinP (btw 48 57) (btw 65 90))
  have G3 := F3.trans g3 (fun b _ h => by omega)
  go_wp2_with fail
  refine (between_any 97 122 (by omega) (by omega) _).mono ?_
  rintro e w4 ⟨rfl, f4⟩
  unfold setV
  have hR4 := (hR3.frame g3 (by intro h; first | exact h | omega)).frame f4 (by simp)
  obtain ⟨cR40, cR41, cR42, cR43⟩ := hR4.four
  have zR4 := hR4.frozen
  have lR4 := hR4.lt
  have hs4 := (hs3.pset (joinP (btw 48 57) (btw 65 90))).frame f4 (by simp)
  obtain ⟨cs40, cs41, cs42, cs43⟩ := hs4.four
  have zs4 := hs4.frozen
  have ls4 := hs4.lt
  have hu4 := (hu3.frame g3 (by intro h; first | exact h | omega)).frame f4 (by simp)
  obtain ⟨cu40, cu41, cu42, cu43⟩ := hu4.four
  have zu4 := hu4.frozen
  have lu4 := hu4.lt
  have F4 := G3.trans f4 (fun _ _ h => h)
  have g4 := (Fr.refl (fun b => b = w2.heap.size) w4).pset (b := w2.heap.size) (fun _ => rfl) (btw 97 122)
  have G4 := F4.trans g4 (fun b _ h => by omega)
  go_wp2_with fail
  refine (join_any _ _ _).mono ?_
  rintro e w5 ⟨rfl, f5⟩
  unfold setV
  have hR5 := (hR4.frame g4 (by intro h; first | exact h | omega)).frame f5 (by simp)
  obtain ⟨cR50, cR51, cR52, cR53⟩ := hR5.four
  have zR5 := hR5.frozen
  have lR5 := hR5.lt
  have hs5 := (hs4.frame g4 (by intro h; first | exact h | omega)).frame f5 (by simp)
  obtain ⟨cs50, cs51, cs52, cs53⟩ := hs5.four
  have zs5 := hs5.frozen
  have ls5 := hs5.lt
  have hu5 := (hu4.pset (btw 97 122)).frame f5 (by simp)
  obtain ⟨cu50, cu51, cu52, cu53⟩ := hu5.four
  have zu5 := hu5.frozen
  have lu5 := hu5.lt
  have F5 := G4.trans f5 (fun _ _ h => h)
  have g5 := (Fr.refl (fun b => b = w1.heap.size) w5).pset (b := w1.heap.size) (fun _ => rfl) (joinP (joinP (btw 48 57) (btw 65 90)) (btw 97 122))
  have G5 := F5.trans g5 (fun b _ h => by omega)
  go_wp2_with fail
  refine (between_any 95 95 (by omega) (by omega) _).mono ?_
  rintro e w6 ⟨rfl, f6⟩
  unfold setV
  have hR6 := (hR5.frame g5 (by intro h; first | exact h | omega)).frame f6 (by simp)
  obtain ⟨cR60, cR61, cR62, cR63⟩ := hR6.four
  have zR6 := hR6.frozen
  have lR6 := hR6.lt
  have hs6 := (hs5.pset (joinP (joinP (btw 48 57) (btw 65 90)) (btw 97 122))).frame f6 (by simp)
  obtain ⟨cs60, cs61, cs62, cs63⟩ := hs6.four
  have zs6 := hs6.frozen
  have ls6 := hs6.lt
  have hu6 := (hu5.frame g5 (by intro h; first | exact h | omega)).frame f6 (by simp)
  obtain ⟨cu60, cu61, cu62, cu63⟩ := hu6.four
  have zu6 := hu6.frozen
  have lu6 := hu6.lt
  have F6 := G5.trans f6 (fun _ _ h => h)
  have g6 := (Fr.refl (fun b => b = w2.heap.size) w6).pset (b := w2.heap.size) (fun _ => rfl) (btw 95 95)
  have G6 := F6.trans g6 (fun b _ h => by omega)
  go_wp2_with fail
  refine (join_any _ _ _).mono ?_
  rintro e w7 ⟨rfl, f7⟩
  unfold setV
  have hR7 := (hR6.frame g6 (by intro h; first | exact h | omega)).frame f7 (by simp)
  obtain ⟨cR70, cR71, cR72, cR73⟩ := hR7.four
  have zR7 := hR7.frozen
  have lR7 := hR7.lt
  have hs7 := (hs6.frame g6 (by intro h; first | exact h | omega)).frame f7 (by simp)
  obtain ⟨cs70, cs71, cs72, cs73⟩ := hs7.four
  have zs7 := hs7.frozen
  have ls7 := hs7.lt
  have hu7 := (hu6.pset (btw 95 95)).frame f7 (by simp)
  obtain ⟨cu70, cu71, cu72, cu73⟩ := hu7.four
  have zu7 := hu7.frozen
  have lu7 := hu7.lt
  have F7 := G6.trans f7 (fun _ _ h => h)
  go_wp2_with fail
  obtain ⟨r0, r1, r2, r3⟩ := (hR7.pset (joinP (joinP (joinP (btw 48 57) (btw 65 90)) (btw 97 122)) (btw 95 95))).four
  exact bodyPost_ret (v := setV (joinP (joinP (joinP (btw 48 57) (btw 65 90)) (btw 97 122)) (btw 95 95))) (by simp [results, Tryz.results168, go_sem, setV, r0, r1, r2, r3]) rfl ⟨rfl, Fr.pset (F7) (fun h => by omega) (joinP (joinP (joinP (btw 48 57) (btw 65 90)) (btw 97 122)) (btw 95 95))⟩
set_option maxHeartbeats 1000000 in
theorem blanks_any (w : World) : Calls Tryz.prog 169 #[] w fun e w' => e = .returned (setV blankP) ∧ Fr (fun _ => False) w w' := by
  go_enter Tryz.func169, Tryz.ntmps169
  go_wp2_with fail
  refine (between_any 9 10 (by omega) (by omega) _).mono ?_
  rintro e w1 ⟨rfl, f1⟩
  unfold setV
  have hR1 := (Blk.zero4 w).frame f1 (by simp)
  obtain ⟨cR10, cR11, cR12, cR13⟩ := hR1.four
  have zR1 := hR1.frozen
  have lR1 := hR1.lt
  have F1 := ((Fr.refl (fun _ => False) w).alloc _).trans f1 (fun _ _ h => h)
  have g1 := (Fr.refl (fun _ => False) w1).alloc (.cells #[.int .u64 (wd (btw 9 10) 0 : Nat), .int .u64 (wd (btw 9 10) 1 : Nat), .int .u64 (wd (btw 9 10) 2 : Nat), .int .u64 (wd (btw 9 10) 3 : Nat)] 95)
  have G1 := F1.trans g1 (fun _ _ h => h)
  go_wp2_with fail
  refine (between_any 13 13 (by omega) (by omega) _).mono ?_
  rintro e w2 ⟨rfl, f2⟩
  unfold setV
  have hR2 := (hR1.frame g1 (by intro h; first | exact h | omega)).frame f2 (by simp)
  obtain ⟨cR20, cR21, cR22, cR23⟩ := hR2.four
  have zR2 := hR2.frozen
  have lR2 := hR2.lt
  have hs2 := (Blk.u64four w1 (wd (btw 9 10)) 95).frame f2 (by simp)
  obtain ⟨cs20, cs21, cs22, cs23⟩ := hs2.four
  have zs2 := hs2.frozen
  have ls2 := hs2.lt
  have F2 := G1.trans f2 (fun _ _ h => h)
  have g2 := (Fr.refl (fun _ => False) w2).alloc (.cells #[.int .u64 (wd (btw 13 13) 0 : Nat), .int .u64 (wd (btw 13 13) 1 : Nat), .int .u64 (wd (btw 13 13) 2 : Nat), .int .u64 (wd (btw 13 13) 3 : Nat)] 95)
  have G2 := F2.trans g2 (fun _ _ h => h)
  go_wp2_with fail
  refine (join_any _ _ _).mono ?_
  rintro e w3 ⟨rfl, f3⟩
  unfold setV
  have hR3 := (hR2.frame g2 (by intro h; first | exact h | omega)).frame f3 (by simp)
  obtain ⟨cR30, cR31, cR32, cR33⟩ := hR3.four
  have zR3 := hR3.frozen
  have lR3 := hR3.lt
  have hs3 := (hs2.frame g2 (by intro h; first | exact h | omega)).frame f3 (by simp)
  obtain ⟨cs30, cs31, cs32, cs33⟩ := hs3.four
  have zs3 := hs3.frozen
  have ls3 := hs3.lt
  have hu3 := (Blk.u64four w2 (wd (btw 13 13)) 95).frame f3 (by simp)
  obtain ⟨cu30, cu31, cu32, cu33⟩ := hu3.four
  have zu3 := hu3.frozen
  have lu3 := hu3.lt
  have F3 := G2.trans f3 (fun _ _ h => h)
  have g3 := (Fr.refl (fun b => b = w1.heap.size) w3).pset (b := w1.heap.size) (fun _ => rfl) (joinP (btw 9 10) (btw 13 13))
  have G3 := F3.trans g3 (fun b _ h => by omega)
  go_wp2_with fail
  refine (between_any 32 32 (by omega) (by omega) _).mono ?_
  rintro e w4 ⟨rfl, f4⟩
  unfold setV
  have hR4 := (hR3.frame g3 (by intro h; first | exact h | omega)).frame f4 (by simp)
  obtain ⟨cR40, cR41, cR42, cR43⟩ := hR4.four
  have zR4 := hR4.frozen
  have lR4 := hR4.lt
  have hs4 := (hs3.pset (joinP (btw 9 10) (btw 13 13))).frame f4 (by simp)
  obtain ⟨cs40, cs41, cs42, cs43⟩ := hs4.four
  have zs4 := hs4.frozen
  have ls4 := hs4.lt
  have hu4 := (hu3.frame g3 (by intro h; first | exact h | omega)).frame f4 (by simp)
  obtain ⟨cu40, cu41, cu42, cu43⟩ := hu4.four
  have zu4 := hu4.frozen
  have lu4 := hu4.lt
  have F4 := G3.trans f4 (fun _ _ h => h)
  have g4 := (Fr.refl (fun b => b = w2.heap.size) w4).pset (b := w2.heap.size) (fun _ => rfl) (btw 32 32)
  have G4 := F4.trans g4 (fun b _ h => by omega)
  go_wp2_with fail
  refine (join_any _ _ _).mono ?_
  rintro e w5 ⟨rfl, f5⟩
  unfold setV
  have hR5 := (hR4.frame g4 (by intro h; first | exact h | omega)).frame f5 (by simp)
  obtain ⟨cR50, cR51, cR52, cR53⟩ := hR5.four
  have zR5 := hR5.frozen
  have lR5 := hR5.lt
  have hs5 := (hs4.frame g4 (by intro h; first | exact h | omega)).frame f5 (by simp)
  obtain ⟨cs50, cs51, cs52, cs53⟩ := hs5.four
  have zs5 := hs5.frozen
  have ls5 := hs5.lt
  have hu5 := (hu4.pset (btw 32 32)).frame f5 (by simp)
  obtain ⟨cu50, cu51, cu52, cu53⟩ := hu5.four
  have zu5 := hu5.frozen
  have lu5 := hu5.lt
  have F5 := G4.trans f5 (fun _ _ h => h)
  go_wp2_with fail
  obtain ⟨r0, r1, r2, r3⟩ := (hR5.pset (joinP (joinP (btw 9 10) (btw 13 13)) (btw 32 32))).four
  exact bodyPost_ret (v := setV (joinP (joinP (btw 9 10) (btw 13 13)) (btw 32 32))) (by simp [results, Tryz.results169, go_sem, setV, r0, r1, r2, r3]) rfl ⟨rfl, Fr.pset (F5) (fun h => by omega) (joinP (joinP (btw 9 10) (btw 13 13)) (btw 32 32))⟩
set_option maxHeartbeats 1000000 in
theorem word_any (w : World) : Calls Tryz.prog 172 #[] w fun e w' => e = .returned (setV wordP) ∧ Fr (fun _ => False) w w' := by
  go_enter Tryz.func172, Tryz.ntmps172
  go_wp2_with fail
  refine (span_any (noP) 48 57 (by omega) (by omega) _).mono ?_
  rintro e w1 ⟨rfl, f1⟩
  rw [joinP_no]
  unfold setV
  have hR1 := (Blk.zero4 w).frame f1 (by simp)
  obtain ⟨cR10, cR11, cR12, cR13⟩ := hR1.four
  have zR1 := hR1.frozen
  have lR1 := hR1.lt
  have F1 := ((Fr.refl (fun _ => False) w).alloc _).trans f1 (fun _ _ h => h)
  have g1 := (Fr.refl (fun _ => False) w1).alloc (.cells #[.int .u64 (wd (btw 48 57) 0 : Nat), .int .u64 (wd (btw 48 57) 1 : Nat), .int .u64 (wd (btw 48 57) 2 : Nat), .int .u64 (wd (btw 48 57) 3 : Nat)] 95)
  have G1 := F1.trans g1 (fun _ _ h => h)
  go_wp2_with fail
  refine (span_any (_) 65 90 (by omega) (by omega) _).mono ?_
  rintro e w2 ⟨rfl, f2⟩
  unfold setV
  have hR2 := (hR1.frame g1 (by intro h; first | exact h | omega)).frame f2 (by simp)
  obtain ⟨cR20, cR21, cR22, cR23⟩ := hR2.four
  have zR2 := hR2.frozen
  have lR2 := hR2.lt
  have hs2 := (Blk.u64four w1 (wd (btw 48 57)) 95).frame f2 (by simp)
  obtain ⟨cs20, cs21, cs22, cs23⟩ := hs2.four
  have zs2 := hs2.frozen
  have ls2 := hs2.lt
  have F2 := G1.trans f2 (fun _ _ h => h)
  have g2 := (Fr.refl (fun b => b = w1.heap.size) w2).pset (b := w1.heap.size) (fun _ => rfl) (joinP (btw 48 57) (btw 65 90))
  have G2 := F2.trans g2 (fun b _ h => by omega)
  go_wp2_with fail
  refine (span_any (_) 97 122 (by omega) (by omega) _).mono ?_
  rintro e w3 ⟨rfl, f3⟩
  unfold setV
  have hR3 := (hR2.frame g2 (by intro h; first | exact h | omega)).frame f3 (by simp)
  obtain ⟨cR30, cR31, cR32, cR33⟩ := hR3.four
  have zR3 := hR3.frozen
  have lR3 := hR3.lt
  have hs3 := (hs2.pset (joinP (btw 48 57) (btw 65 90))).frame f3 (by simp)
  obtain ⟨cs30, cs31, cs32, cs33⟩ := hs3.four
  have zs3 := hs3.frozen
  have ls3 := hs3.lt
  have F3 := G2.trans f3 (fun _ _ h => h)
  have g3 := (Fr.refl (fun b => b = w1.heap.size) w3).pset (b := w1.heap.size) (fun _ => rfl) (joinP (joinP (btw 48 57) (btw 65 90)) (btw 97 122))
  have G3 := F3.trans g3 (fun b _ h => by omega)
  go_wp2_with fail
  refine (span_any (_) 95 95 (by omega) (by omega) _).mono ?_
  rintro e w4 ⟨rfl, f4⟩
  unfold setV
  have hR4 := (hR3.frame g3 (by intro h; first | exact h | omega)).frame f4 (by simp)
  obtain ⟨cR40, cR41, cR42, cR43⟩ := hR4.four
  have zR4 := hR4.frozen
  have lR4 := hR4.lt
  have hs4 := (hs3.pset (joinP (joinP (btw 48 57) (btw 65 90)) (btw 97 122))).frame f4 (by simp)
  obtain ⟨cs40, cs41, cs42, cs43⟩ := hs4.four
  have zs4 := hs4.frozen
  have ls4 := hs4.lt
  have F4 := G3.trans f4 (fun _ _ h => h)
  go_wp2_with fail
  obtain ⟨r0, r1, r2, r3⟩ := (hR4.pset (joinP (joinP (joinP (btw 48 57) (btw 65 90)) (btw 97 122)) (btw 95 95))).four
  exact bodyPost_ret (v := setV (joinP (joinP (joinP (btw 48 57) (btw 65 90)) (btw 97 122)) (btw 95 95))) (by simp [results, Tryz.results172, go_sem, setV, r0, r1, r2, r3]) rfl ⟨rfl, Fr.pset (F4) (fun h => by omega) (joinP (joinP (joinP (btw 48 57) (btw 65 90)) (btw 97 122)) (btw 95 95))⟩
set_option maxHeartbeats 1000000 in
theorem blank_any (w : World) : Calls Tryz.prog 173 #[] w fun e w' => e = .returned (setV blankP) ∧ Fr (fun _ => False) w w' := by
  go_enter Tryz.func173, Tryz.ntmps173
  go_wp2_with fail
  refine (span_any (noP) 9 10 (by omega) (by omega) _).mono ?_
  rintro e w1 ⟨rfl, f1⟩
  rw [joinP_no]
  unfold setV
  have hR1 := (Blk.zero4 w).frame f1 (by simp)
  obtain ⟨cR10, cR11, cR12, cR13⟩ := hR1.four
  have zR1 := hR1.frozen
  have lR1 := hR1.lt
  have F1 := ((Fr.refl (fun _ => False) w).alloc _).trans f1 (fun _ _ h => h)
  have g1 := (Fr.refl (fun _ => False) w1).alloc (.cells #[.int .u64 (wd (btw 9 10) 0 : Nat), .int .u64 (wd (btw 9 10) 1 : Nat), .int .u64 (wd (btw 9 10) 2 : Nat), .int .u64 (wd (btw 9 10) 3 : Nat)] 95)
  have G1 := F1.trans g1 (fun _ _ h => h)
  go_wp2_with fail
  refine (span_any (_) 13 13 (by omega) (by omega) _).mono ?_
  rintro e w2 ⟨rfl, f2⟩
  unfold setV
  have hR2 := (hR1.frame g1 (by intro h; first | exact h | omega)).frame f2 (by simp)
  obtain ⟨cR20, cR21, cR22, cR23⟩ := hR2.four
  have zR2 := hR2.frozen
  have lR2 := hR2.lt
  have hs2 := (Blk.u64four w1 (wd (btw 9 10)) 95).frame f2 (by simp)
  obtain ⟨cs20, cs21, cs22, cs23⟩ := hs2.four
  have zs2 := hs2.frozen
  have ls2 := hs2.lt
  have F2 := G1.trans f2 (fun _ _ h => h)
  have g2 := (Fr.refl (fun b => b = w1.heap.size) w2).pset (b := w1.heap.size) (fun _ => rfl) (joinP (btw 9 10) (btw 13 13))
  have G2 := F2.trans g2 (fun b _ h => by omega)
  go_wp2_with fail
  refine (span_any (_) 32 32 (by omega) (by omega) _).mono ?_
  rintro e w3 ⟨rfl, f3⟩
  unfold setV
  have hR3 := (hR2.frame g2 (by intro h; first | exact h | omega)).frame f3 (by simp)
  obtain ⟨cR30, cR31, cR32, cR33⟩ := hR3.four
  have zR3 := hR3.frozen
  have lR3 := hR3.lt
  have hs3 := (hs2.pset (joinP (btw 9 10) (btw 13 13))).frame f3 (by simp)
  obtain ⟨cs30, cs31, cs32, cs33⟩ := hs3.four
  have zs3 := hs3.frozen
  have ls3 := hs3.lt
  have F3 := G2.trans f3 (fun _ _ h => h)
  go_wp2_with fail
  obtain ⟨r0, r1, r2, r3⟩ := (hR3.pset (joinP (joinP (btw 9 10) (btw 13 13)) (btw 32 32))).four
  exact bodyPost_ret (v := setV (joinP (joinP (btw 9 10) (btw 13 13)) (btw 32 32))) (by simp [results, Tryz.results173, go_sem, setV, r0, r1, r2, r3]) rfl ⟨rfl, Fr.pset (F3) (fun h => by omega) (joinP (joinP (btw 9 10) (btw 13 13)) (btw 32 32))⟩
end Go.Proofs.Qxb6500283aGreat
