/- Hex digits, named sets. -/
import Derived.Test.Qxb6500283aGreatA2
namespace Go.Proofs.Qxb6500283aGreat
open Go Go.RowKit

def hexI (c : Nat) : Int := match hexv c with | some h => h | none => -1
theorem hexI_1 {c : Nat} (h1 : 48 ≤ c) (h2 : c ≤ 57) : hexI c = (c : Int) - 48 := by
  unfold hexI hexv; rw [if_pos ⟨h1, h2⟩]; simp only; omega
theorem hexI_2 {c : Nat} (h1 : 97 ≤ c) (h2 : c ≤ 102) : hexI c = (c : Int) - 97 + 10 := by
  unfold hexI hexv; rw [if_neg (by omega), if_pos ⟨h1, h2⟩]; simp only; omega
theorem hexI_3 {c : Nat} (h1 : 65 ≤ c) (h2 : c ≤ 70) : hexI c = (c : Int) - 65 + 10 := by
  unfold hexI hexv; rw [if_neg (by omega), if_neg (by omega), if_pos ⟨h1, h2⟩]; simp only; omega
theorem hexI_4 {c : Nat} (h1 : ¬ (48 ≤ c ∧ c ≤ 57)) (h2 : ¬ (97 ≤ c ∧ c ≤ 102)) (h3 : ¬ (65 ≤ c ∧ c ≤ 70)) : hexI c = -1 := by
  unfold hexI hexv; rw [if_neg h1, if_neg h2, if_neg h3]
set_option maxHeartbeats 1000000 in
theorem nibble_any (c : Nat) (hc : c < 256) (w : World) : Calls Tryz.prog 158 #[.int .u8 c] w fun e w' => e = .returned (.int .i64 (hexI c)) ∧ w' = w := by
  go_enter Tryz.func158, Tryz.ntmps158
  by_cases a1 : 48 ≤ c ∧ c ≤ 57
  · rw [hexI_1 a1.1 a1.2]
    obtain ⟨a1, a2⟩ := a1
    go_wp2_with fail
    go_ret
    exact ⟨rfl, rfl⟩
  by_cases a2 : 97 ≤ c ∧ c ≤ 102
  · rw [hexI_2 a2.1 a2.2]
    obtain ⟨a2, a3⟩ := a2
    go_wp2_with fail
    go_ret
    exact ⟨rfl, rfl⟩
  by_cases a3 : 65 ≤ c ∧ c ≤ 70
  · rw [hexI_3 a3.1 a3.2]
    obtain ⟨a3, a4⟩ := a3
    go_wp2_with fail
    go_ret
    exact ⟨rfl, rfl⟩
  · rw [hexI_4 a1 a2 a3]
    go_wp2_with fail
    all_goals first | (exfalso; omega) | skip
    all_goals go_ret
    all_goals exact ⟨rfl, rfl⟩
set_option maxHeartbeats 1000000 in
theorem hex_any (c : Nat) (hc : c < 256) (w : World) : Calls Tryz.prog 174 #[.int .u8 c] w fun e w' => e = .returned (.int .i64 (hexI c)) ∧ w' = w := by
  go_enter Tryz.func174, Tryz.ntmps174
  by_cases a1 : 48 ≤ c ∧ c ≤ 57
  · rw [hexI_1 a1.1 a1.2]
    obtain ⟨a1, a2⟩ := a1
    go_wp2_with fail
    go_ret
    exact ⟨rfl, rfl⟩
  by_cases a2 : 97 ≤ c ∧ c ≤ 102
  · rw [hexI_2 a2.1 a2.2]
    obtain ⟨a2, a3⟩ := a2
    go_wp2_with fail
    go_ret
    exact ⟨rfl, rfl⟩
  by_cases a3 : 65 ≤ c ∧ c ≤ 70
  · rw [hexI_3 a3.1 a3.2]
    obtain ⟨a3, a4⟩ := a3
    go_wp2_with fail
    go_ret
    exact ⟨rfl, rfl⟩
  · rw [hexI_4 a1 a2 a3]
    go_wp2_with fail
    all_goals first | (exfalso; omega) | skip
    all_goals go_ret
    all_goals exact ⟨rfl, rfl⟩
def namedS (c : Nat) : Option BSet :=
  if c = 100 then some (btw 48 57) else if c = 68 then some (notP (btw 48 57)) else if c = 119 then some wordP else if c = 87 then some (notP wordP) else if c = 115 then some blankP else if c = 83 then some (notP blankP) else none
def namedV (o : Option BSet) : Value := match o with | some P => .tuple #[setV P, .bool true] | none => .tuple #[setV noP, .bool false]
-- NAMED
set_option maxHeartbeats 2000000 in
theorem named_any (c : Nat) (hc : c < 256) (w : World) : Calls Tryz.prog 157 #[.int .u8 c] w fun e w' => e = .returned (namedV (namedS c)) ∧ Fr (fun _ => False) w w' := by
  unfold namedS
  go_enter Tryz.func157, Tryz.ntmps157
  by_cases h100 : c = 100
  · subst h100
    go_wp2_with fail
    refine (digits_any _).mono ?_
    rintro e w1 ⟨rfl, f1⟩
    have hR := ((Blk.zero4 w).alloc _).frame f1 (by simp)
    have hs0 := Blk.zero4 (w.alloc (.cells #[.int .u64 0, .int .u64 0, .int .u64 0, .int .u64 0] 95))
    rw [World.size_alloc] at hs0
    have hs := hs0.frame f1 (by simp)
    obtain ⟨a0, a1, a2, a3⟩ := hR.four
    obtain ⟨b0, b1, b2, b3⟩ := hs.four
    have zR := hR.frozen
    have zs := hs.frozen
    have lR := hR.lt
    have ls := hs.lt
    have g1 := (Fr.refl (fun b => b = w.heap.size + 1) w1).pset (b := w.heap.size + 1) (fun _ => rfl) (btw 48 57)
    have hs1 := hs.pset (btw 48 57)
    have hR1 := hR.frame g1 (by omega)
    have F1 := (((Fr.refl (fun _ => False) w).alloc _).alloc _).trans f1 (fun _ _ h => h)
    have F2 := F1.trans g1 (fun b hb h => by omega)
    unfold setV
    go_wp2_with fail
    obtain ⟨r0, r1, r2, r3⟩ := (hR1.pset (btw 48 57)).four
    exact bodyPost_ret (v := .tuple #[setV (btw 48 57), .bool true]) (by simp [results, Tryz.results157, go_sem, setV, r0, r1, r2, r3]) rfl ⟨rfl, Fr.pset F2 (fun h => by omega) (btw 48 57)⟩
  rw [if_neg h100]
  by_cases h68 : c = 68
  · subst h68
    go_wp2_with fail
    refine (digits_any _).mono ?_
    rintro e w1 ⟨rfl, f1⟩
    have hR := ((Blk.zero4 w).alloc _).frame f1 (by simp)
    have hs0 := Blk.zero4 (w.alloc (.cells #[.int .u64 0, .int .u64 0, .int .u64 0, .int .u64 0] 95))
    rw [World.size_alloc] at hs0
    have hs := hs0.frame f1 (by simp)
    obtain ⟨a0, a1, a2, a3⟩ := hR.four
    obtain ⟨b0, b1, b2, b3⟩ := hs.four
    have zR := hR.frozen
    have zs := hs.frozen
    have lR := hR.lt
    have ls := hs.lt
    have g1 := (Fr.refl (fun b => b = w.heap.size + 1) w1).pset (b := w.heap.size + 1) (fun _ => rfl) (btw 48 57)
    have hs1 := hs.pset (btw 48 57)
    have hR1 := hR.frame g1 (by omega)
    have F1 := (((Fr.refl (fun _ => False) w).alloc _).alloc _).trans f1 (fun _ _ h => h)
    have F2 := F1.trans g1 (fun b hb h => by omega)
    unfold setV
    go_wp2_with fail
    refine (not_any (btw 48 57) _).mono ?_
    rintro e w2 ⟨rfl, f2⟩
    have hR2 := hR1.frame f2 (by simp)
    have hs2 := hs1.frame f2 (by simp)
    obtain ⟨p0, p1, p2, p3⟩ := hR2.four
    obtain ⟨q0, q1, q2, q3⟩ := hs2.four
    have zR2 := hR2.frozen
    have zs2 := hs2.frozen
    have lR2 := hR2.lt
    have ls2 := hs2.lt
    have g2 := (Fr.refl (fun b => b = w.heap.size + 1) w2).pset (b := w.heap.size + 1) (fun _ => rfl) (notP (btw 48 57))
    have hR3 := hR2.frame g2 (by omega)
    have F3 := (F2.trans f2 (fun _ _ h => h)).trans g2 (fun b hb h => by omega)
    unfold setV
    go_wp2_with fail
    obtain ⟨r0, r1, r2, r3⟩ := (hR3.pset (notP (btw 48 57))).four
    exact bodyPost_ret (v := .tuple #[setV (notP (btw 48 57)), .bool true]) (by simp [results, Tryz.results157, go_sem, setV, r0, r1, r2, r3]) rfl ⟨rfl, Fr.pset F3 (fun h => by omega) (notP (btw 48 57))⟩
  rw [if_neg h68]
  by_cases h119 : c = 119
  · subst h119
    go_wp2_with fail
    refine (wordy_any _).mono ?_
    rintro e w1 ⟨rfl, f1⟩
    have hR := ((Blk.zero4 w).alloc _).frame f1 (by simp)
    have hs0 := Blk.zero4 (w.alloc (.cells #[.int .u64 0, .int .u64 0, .int .u64 0, .int .u64 0] 95))
    rw [World.size_alloc] at hs0
    have hs := hs0.frame f1 (by simp)
    obtain ⟨a0, a1, a2, a3⟩ := hR.four
    obtain ⟨b0, b1, b2, b3⟩ := hs.four
    have zR := hR.frozen
    have zs := hs.frozen
    have lR := hR.lt
    have ls := hs.lt
    have g1 := (Fr.refl (fun b => b = w.heap.size + 1) w1).pset (b := w.heap.size + 1) (fun _ => rfl) (wordP)
    have hs1 := hs.pset (wordP)
    have hR1 := hR.frame g1 (by omega)
    have F1 := (((Fr.refl (fun _ => False) w).alloc _).alloc _).trans f1 (fun _ _ h => h)
    have F2 := F1.trans g1 (fun b hb h => by omega)
    unfold setV
    go_wp2_with fail
    obtain ⟨r0, r1, r2, r3⟩ := (hR1.pset (wordP)).four
    exact bodyPost_ret (v := .tuple #[setV (wordP), .bool true]) (by simp [results, Tryz.results157, go_sem, setV, r0, r1, r2, r3]) rfl ⟨rfl, Fr.pset F2 (fun h => by omega) (wordP)⟩
  rw [if_neg h119]
  by_cases h87 : c = 87
  · subst h87
    go_wp2_with fail
    refine (wordy_any _).mono ?_
    rintro e w1 ⟨rfl, f1⟩
    have hR := ((Blk.zero4 w).alloc _).frame f1 (by simp)
    have hs0 := Blk.zero4 (w.alloc (.cells #[.int .u64 0, .int .u64 0, .int .u64 0, .int .u64 0] 95))
    rw [World.size_alloc] at hs0
    have hs := hs0.frame f1 (by simp)
    obtain ⟨a0, a1, a2, a3⟩ := hR.four
    obtain ⟨b0, b1, b2, b3⟩ := hs.four
    have zR := hR.frozen
    have zs := hs.frozen
    have lR := hR.lt
    have ls := hs.lt
    have g1 := (Fr.refl (fun b => b = w.heap.size + 1) w1).pset (b := w.heap.size + 1) (fun _ => rfl) (wordP)
    have hs1 := hs.pset (wordP)
    have hR1 := hR.frame g1 (by omega)
    have F1 := (((Fr.refl (fun _ => False) w).alloc _).alloc _).trans f1 (fun _ _ h => h)
    have F2 := F1.trans g1 (fun b hb h => by omega)
    unfold setV
    go_wp2_with fail
    refine (not_any (wordP) _).mono ?_
    rintro e w2 ⟨rfl, f2⟩
    have hR2 := hR1.frame f2 (by simp)
    have hs2 := hs1.frame f2 (by simp)
    obtain ⟨p0, p1, p2, p3⟩ := hR2.four
    obtain ⟨q0, q1, q2, q3⟩ := hs2.four
    have zR2 := hR2.frozen
    have zs2 := hs2.frozen
    have lR2 := hR2.lt
    have ls2 := hs2.lt
    have g2 := (Fr.refl (fun b => b = w.heap.size + 1) w2).pset (b := w.heap.size + 1) (fun _ => rfl) (notP (wordP))
    have hR3 := hR2.frame g2 (by omega)
    have F3 := (F2.trans f2 (fun _ _ h => h)).trans g2 (fun b hb h => by omega)
    unfold setV
    go_wp2_with fail
    obtain ⟨r0, r1, r2, r3⟩ := (hR3.pset (notP (wordP))).four
    exact bodyPost_ret (v := .tuple #[setV (notP (wordP)), .bool true]) (by simp [results, Tryz.results157, go_sem, setV, r0, r1, r2, r3]) rfl ⟨rfl, Fr.pset F3 (fun h => by omega) (notP (wordP))⟩
  rw [if_neg h87]
  by_cases h115 : c = 115
  · subst h115
    go_wp2_with fail
    refine (blanks_any _).mono ?_
    rintro e w1 ⟨rfl, f1⟩
    have hR := ((Blk.zero4 w).alloc _).frame f1 (by simp)
    have hs0 := Blk.zero4 (w.alloc (.cells #[.int .u64 0, .int .u64 0, .int .u64 0, .int .u64 0] 95))
    rw [World.size_alloc] at hs0
    have hs := hs0.frame f1 (by simp)
    obtain ⟨a0, a1, a2, a3⟩ := hR.four
    obtain ⟨b0, b1, b2, b3⟩ := hs.four
    have zR := hR.frozen
    have zs := hs.frozen
    have lR := hR.lt
    have ls := hs.lt
    have g1 := (Fr.refl (fun b => b = w.heap.size + 1) w1).pset (b := w.heap.size + 1) (fun _ => rfl) (blankP)
    have hs1 := hs.pset (blankP)
    have hR1 := hR.frame g1 (by omega)
    have F1 := (((Fr.refl (fun _ => False) w).alloc _).alloc _).trans f1 (fun _ _ h => h)
    have F2 := F1.trans g1 (fun b hb h => by omega)
    unfold setV
    go_wp2_with fail
    obtain ⟨r0, r1, r2, r3⟩ := (hR1.pset (blankP)).four
    exact bodyPost_ret (v := .tuple #[setV (blankP), .bool true]) (by simp [results, Tryz.results157, go_sem, setV, r0, r1, r2, r3]) rfl ⟨rfl, Fr.pset F2 (fun h => by omega) (blankP)⟩
  rw [if_neg h115]
  by_cases h83 : c = 83
  · subst h83
    go_wp2_with fail
    refine (blanks_any _).mono ?_
    rintro e w1 ⟨rfl, f1⟩
    have hR := ((Blk.zero4 w).alloc _).frame f1 (by simp)
    have hs0 := Blk.zero4 (w.alloc (.cells #[.int .u64 0, .int .u64 0, .int .u64 0, .int .u64 0] 95))
    rw [World.size_alloc] at hs0
    have hs := hs0.frame f1 (by simp)
    obtain ⟨a0, a1, a2, a3⟩ := hR.four
    obtain ⟨b0, b1, b2, b3⟩ := hs.four
    have zR := hR.frozen
    have zs := hs.frozen
    have lR := hR.lt
    have ls := hs.lt
    have g1 := (Fr.refl (fun b => b = w.heap.size + 1) w1).pset (b := w.heap.size + 1) (fun _ => rfl) (blankP)
    have hs1 := hs.pset (blankP)
    have hR1 := hR.frame g1 (by omega)
    have F1 := (((Fr.refl (fun _ => False) w).alloc _).alloc _).trans f1 (fun _ _ h => h)
    have F2 := F1.trans g1 (fun b hb h => by omega)
    unfold setV
    go_wp2_with fail
    refine (not_any (blankP) _).mono ?_
    rintro e w2 ⟨rfl, f2⟩
    have hR2 := hR1.frame f2 (by simp)
    have hs2 := hs1.frame f2 (by simp)
    obtain ⟨p0, p1, p2, p3⟩ := hR2.four
    obtain ⟨q0, q1, q2, q3⟩ := hs2.four
    have zR2 := hR2.frozen
    have zs2 := hs2.frozen
    have lR2 := hR2.lt
    have ls2 := hs2.lt
    have g2 := (Fr.refl (fun b => b = w.heap.size + 1) w2).pset (b := w.heap.size + 1) (fun _ => rfl) (notP (blankP))
    have hR3 := hR2.frame g2 (by omega)
    have F3 := (F2.trans f2 (fun _ _ h => h)).trans g2 (fun b hb h => by omega)
    unfold setV
    go_wp2_with fail
    obtain ⟨r0, r1, r2, r3⟩ := (hR3.pset (notP (blankP))).four
    exact bodyPost_ret (v := .tuple #[setV (notP (blankP)), .bool true]) (by simp [results, Tryz.results157, go_sem, setV, r0, r1, r2, r3]) rfl ⟨rfl, Fr.pset F3 (fun h => by omega) (notP (blankP))⟩
  rw [if_neg h83]
  have t1 : (c == 100) = false := by simpa using h100
  go_wp2_with fail
  exact bodyPost_ret (v := .tuple #[setV noP, .bool false]) (by simp [results, Tryz.results157, go_sem, setV, wd_zero]) rfl ⟨rfl, ((Fr.refl (fun _ => False) w).alloc _).alloc _⟩
end Go.Proofs.Qxb6500283aGreat
