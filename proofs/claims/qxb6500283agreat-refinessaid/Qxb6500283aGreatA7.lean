/- The model's escape. -/
import Derived.Test.Qxb6500283aGreatA6
namespace Go.Proofs.Qxb6500283aGreat
open Go Go.RowKit

set_option maxRecDepth 100000 in
set_option maxHeartbeats 4000000 in
theorem escM_any {w : World} {x : Nat} {f : Nat → Value} {p : ByteArray} {i : Nat} (hb : Blk w x 6 f) (h0 : f 0 = .string p) (h1 : f 1 = .int .i64 (i : Nat)) (h4 : f 4 = .int .i64 0) (hsz : p.size ≤ 129) (hi : i < p.size) :
    Calls Tryz.prog 162 #[.pointer (some ⟨x, 0, none⟩)] w (EscPost w x 6 4 5 f (esc p i) i) := by
  have c0 := hb.cell (o := 0) (by omega)
  have c1 := hb.cell (o := 1) (by omega)
  rw [h0] at c0
  rw [h1] at c1
  have z := hb.frozen
  have hxl := hb.lt
  go_enter Tryz.func162, Tryz.ntmps162
  by_cases hlt : i + 1 < p.size
  · rw [esc_eq hlt]
    have hbt := bt_at p (i + 1) hlt
    have hcl := bt_lt p (i + 1)
    have Hbt : Hid _ := hbt
    clear hbt
    have hb2 := ((((hb.set 1 (.int .i64 ((i : Int) + 1))).set 1 (.int .i64 ((i : Int) + 1 + 1))).congr (g := upd f 1 (.int .i64 ((i + 2 : Nat) : Int))) (fun o ho => by unfold upd; split <;> rfl)).alloc (.cells #[.int .u64 0, .int .u64 0, .int .u64 0, .int .u64 0] 95)).drew.drew
    have hR2 := (Blk.zero4 ((w.setCell ⟨x, 1, none⟩ (.int .i64 ((i : Int) + 1))).setCell ⟨x, 1, none⟩ (.int .i64 ((i : Int) + 1 + 1)))).drew.drew
    simp only [World.size_setCell] at hR2
    have F2 := ((((Fr.refl (fun b => b = x) w).setC x 1 (.int .i64 ((i : Int) + 1)) (fun _ => rfl)).setC x 1 (.int .i64 ((i : Int) + 1 + 1)) (fun _ => rfl)).alloc (.cells #[.int .u64 0, .int .u64 0, .int .u64 0, .int .u64 0] 95)).drew.drew
    go_wp2_with fail
    refine wp_region_text (by kernel_rfl) (by kernel_rfl) ?_
    go_wp2_with fail
    refine ⟨by kernel_rfl, ?_⟩
    go_wp2_with fail
    refine wp_region_text (by kernel_rfl) (by kernel_rfl) ?_
    go_wp2_with fail
    refine ⟨by kernel_rfl, ?_⟩
    rw [← Hbt.out]
    clear Hbt
    generalize bt p (i + 1) = c at *
    have l2 := hb2.lt
    by_cases h110 : c = 110
    · subst h110
      go_wp2_with fail
      refine (one_any 10 (by omega) _).mono ?_
      rintro e w3 ⟨rfl, f3⟩
      have hb3 := hb2.frame f3 (by simp)
      have hR3 := hR2.frame f3 (by simp)
      have F3 := F2.trans f3 (fun _ _ h => h.elim)
      obtain ⟨m30, m31, m32, m33⟩ := hR3.four
      have zR3 := hR3.frozen
      have lR3 := hR3.lt
      have lx3 := hb3.lt
      unfold setV
      go_wp2_with fail
      obtain ⟨r0, r1, r2, r3⟩ := (hR3.pset (btw 10 10)).four
      exact bodyPost_ret (v := .tuple #[setV (btw 10 10), .bool true, .int .u8 10]) (by simp [results, Tryz.results162, go_sem, setV, r0, r1, r2, r3]) rfl (by unfold EscPost; exact ⟨rfl, hb3.frame (S := fun b => b = w.heap.size) (Fr.pset (Fr.refl (fun b => b = w.heap.size) w3) (fun _ => rfl) (btw 10 10)) (by omega), Fr.pset F3 (fun h => by omega) (btw 10 10)⟩)
    by_cases h116 : c = 116
    · subst h116
      go_wp2_with fail
      refine (one_any 9 (by omega) _).mono ?_
      rintro e w3 ⟨rfl, f3⟩
      have hb3 := hb2.frame f3 (by simp)
      have hR3 := hR2.frame f3 (by simp)
      have F3 := F2.trans f3 (fun _ _ h => h.elim)
      obtain ⟨m30, m31, m32, m33⟩ := hR3.four
      have zR3 := hR3.frozen
      have lR3 := hR3.lt
      have lx3 := hb3.lt
      unfold setV
      go_wp2_with fail
      obtain ⟨r0, r1, r2, r3⟩ := (hR3.pset (btw 9 9)).four
      exact bodyPost_ret (v := .tuple #[setV (btw 9 9), .bool true, .int .u8 9]) (by simp [results, Tryz.results162, go_sem, setV, r0, r1, r2, r3]) rfl (by unfold EscPost; exact ⟨rfl, hb3.frame (S := fun b => b = w.heap.size) (Fr.pset (Fr.refl (fun b => b = w.heap.size) w3) (fun _ => rfl) (btw 9 9)) (by omega), Fr.pset F3 (fun h => by omega) (btw 9 9)⟩)
    by_cases h114 : c = 114
    · subst h114
      go_wp2_with fail
      refine (one_any 13 (by omega) _).mono ?_
      rintro e w3 ⟨rfl, f3⟩
      have hb3 := hb2.frame f3 (by simp)
      have hR3 := hR2.frame f3 (by simp)
      have F3 := F2.trans f3 (fun _ _ h => h.elim)
      obtain ⟨m30, m31, m32, m33⟩ := hR3.four
      have zR3 := hR3.frozen
      have lR3 := hR3.lt
      have lx3 := hb3.lt
      unfold setV
      go_wp2_with fail
      obtain ⟨r0, r1, r2, r3⟩ := (hR3.pset (btw 13 13)).four
      exact bodyPost_ret (v := .tuple #[setV (btw 13 13), .bool true, .int .u8 13]) (by simp [results, Tryz.results162, go_sem, setV, r0, r1, r2, r3]) rfl (by unfold EscPost; exact ⟨rfl, hb3.frame (S := fun b => b = w.heap.size) (Fr.pset (Fr.refl (fun b => b = w.heap.size) w3) (fun _ => rfl) (btw 13 13)) (by omega), Fr.pset F3 (fun h => by omega) (btw 13 13)⟩)
    by_cases h100 : c = 100
    · subst h100
      go_wp2_with fail
      refine (span_any noP 48 57 (by omega) (by omega) _).mono ?_
      rintro e w3 ⟨rfl, f3⟩
      rw [joinP_no]
      have hb3 := hb2.frame f3 (by simp)
      have hR3 := hR2.frame f3 (by simp)
      have F3 := F2.trans f3 (fun _ _ h => h.elim)
      obtain ⟨m30, m31, m32, m33⟩ := hR3.four
      have zR3 := hR3.frozen
      have lR3 := hR3.lt
      have lx3 := hb3.lt
      unfold setV
      go_wp2_with fail
      obtain ⟨r0, r1, r2, r3⟩ := (hR3.pset (btw 48 57)).four
      exact bodyPost_ret (v := .tuple #[setV (btw 48 57), .bool false, .int .u8 0]) (by simp [results, Tryz.results162, go_sem, setV, r0, r1, r2, r3]) rfl (by unfold EscPost; exact ⟨rfl, hb3.frame (S := fun b => b = w.heap.size) (Fr.pset (Fr.refl (fun b => b = w.heap.size) w3) (fun _ => rfl) (btw 48 57)) (by omega), Fr.pset F3 (fun h => by omega) (btw 48 57)⟩)
    by_cases h68 : c = 68
    · subst h68
      go_wp2_with fail
      refine (span_any noP 48 57 (by omega) (by omega) _).mono ?_
      rintro e w3 ⟨rfl, f3⟩
      rw [joinP_no]
      have hb3 := hb2.frame f3 (by simp)
      have hR3 := hR2.frame f3 (by simp)
      have F3 := F2.trans f3 (fun _ _ h => h.elim)
      obtain ⟨m30, m31, m32, m33⟩ := hR3.four
      have zR3 := hR3.frozen
      have lR3 := hR3.lt
      have lx3 := hb3.lt
      unfold setV
      go_wp2_with fail
      refine (not_any (btw 48 57) _).mono ?_
      rintro e w4 ⟨rfl, f4⟩
      have hb4 := (hb3.alloc (.cells #[.int .u64 (wd (btw 48 57) 0 : Nat), .int .u64 (wd (btw 48 57) 1 : Nat), .int .u64 (wd (btw 48 57) 2 : Nat), .int .u64 (wd (btw 48 57) 3 : Nat)] 95)).frame f4 (by simp)
      have hR4 := (hR3.alloc (.cells #[.int .u64 (wd (btw 48 57) 0 : Nat), .int .u64 (wd (btw 48 57) 1 : Nat), .int .u64 (wd (btw 48 57) 2 : Nat), .int .u64 (wd (btw 48 57) 3 : Nat)] 95)).frame f4 (by simp)
      have F4 := (F3.alloc (.cells #[.int .u64 (wd (btw 48 57) 0 : Nat), .int .u64 (wd (btw 48 57) 1 : Nat), .int .u64 (wd (btw 48 57) 2 : Nat), .int .u64 (wd (btw 48 57) 3 : Nat)] 95)).trans f4 (fun _ _ h => h.elim)
      obtain ⟨m40, m41, m42, m43⟩ := hR4.four
      have zR4 := hR4.frozen
      have lR4 := hR4.lt
      have lx4 := hb4.lt
      unfold setV
      go_wp2_with fail
      obtain ⟨r0, r1, r2, r3⟩ := (hR4.pset (notP (btw 48 57))).four
      exact bodyPost_ret (v := .tuple #[setV (notP (btw 48 57)), .bool false, .int .u8 0]) (by simp [results, Tryz.results162, go_sem, setV, r0, r1, r2, r3]) rfl (by unfold EscPost; exact ⟨rfl, hb4.frame (S := fun b => b = w.heap.size) (Fr.pset (Fr.refl (fun b => b = w.heap.size) w4) (fun _ => rfl) (notP (btw 48 57))) (by omega), Fr.pset F4 (fun h => by omega) (notP (btw 48 57))⟩)
    by_cases h119 : c = 119
    · subst h119
      go_wp2_with fail
      refine (word_any _).mono ?_
      rintro e w3 ⟨rfl, f3⟩
      have hb3 := hb2.frame f3 (by simp)
      have hR3 := hR2.frame f3 (by simp)
      have F3 := F2.trans f3 (fun _ _ h => h.elim)
      obtain ⟨m30, m31, m32, m33⟩ := hR3.four
      have zR3 := hR3.frozen
      have lR3 := hR3.lt
      have lx3 := hb3.lt
      unfold setV
      go_wp2_with fail
      obtain ⟨r0, r1, r2, r3⟩ := (hR3.pset (wordP)).four
      exact bodyPost_ret (v := .tuple #[setV (wordP), .bool false, .int .u8 0]) (by simp [results, Tryz.results162, go_sem, setV, r0, r1, r2, r3]) rfl (by unfold EscPost; exact ⟨rfl, hb3.frame (S := fun b => b = w.heap.size) (Fr.pset (Fr.refl (fun b => b = w.heap.size) w3) (fun _ => rfl) (wordP)) (by omega), Fr.pset F3 (fun h => by omega) (wordP)⟩)
    by_cases h87 : c = 87
    · subst h87
      go_wp2_with fail
      refine (word_any _).mono ?_
      rintro e w3 ⟨rfl, f3⟩
      have hb3 := hb2.frame f3 (by simp)
      have hR3 := hR2.frame f3 (by simp)
      have F3 := F2.trans f3 (fun _ _ h => h.elim)
      obtain ⟨m30, m31, m32, m33⟩ := hR3.four
      have zR3 := hR3.frozen
      have lR3 := hR3.lt
      have lx3 := hb3.lt
      unfold setV
      go_wp2_with fail
      refine (not_any (wordP) _).mono ?_
      rintro e w4 ⟨rfl, f4⟩
      have hb4 := (hb3.alloc (.cells #[.int .u64 (wd (wordP) 0 : Nat), .int .u64 (wd (wordP) 1 : Nat), .int .u64 (wd (wordP) 2 : Nat), .int .u64 (wd (wordP) 3 : Nat)] 95)).frame f4 (by simp)
      have hR4 := (hR3.alloc (.cells #[.int .u64 (wd (wordP) 0 : Nat), .int .u64 (wd (wordP) 1 : Nat), .int .u64 (wd (wordP) 2 : Nat), .int .u64 (wd (wordP) 3 : Nat)] 95)).frame f4 (by simp)
      have F4 := (F3.alloc (.cells #[.int .u64 (wd (wordP) 0 : Nat), .int .u64 (wd (wordP) 1 : Nat), .int .u64 (wd (wordP) 2 : Nat), .int .u64 (wd (wordP) 3 : Nat)] 95)).trans f4 (fun _ _ h => h.elim)
      obtain ⟨m40, m41, m42, m43⟩ := hR4.four
      have zR4 := hR4.frozen
      have lR4 := hR4.lt
      have lx4 := hb4.lt
      unfold setV
      go_wp2_with fail
      obtain ⟨r0, r1, r2, r3⟩ := (hR4.pset (notP (wordP))).four
      exact bodyPost_ret (v := .tuple #[setV (notP (wordP)), .bool false, .int .u8 0]) (by simp [results, Tryz.results162, go_sem, setV, r0, r1, r2, r3]) rfl (by unfold EscPost; exact ⟨rfl, hb4.frame (S := fun b => b = w.heap.size) (Fr.pset (Fr.refl (fun b => b = w.heap.size) w4) (fun _ => rfl) (notP (wordP))) (by omega), Fr.pset F4 (fun h => by omega) (notP (wordP))⟩)
    by_cases h115 : c = 115
    · subst h115
      go_wp2_with fail
      refine (blank_any _).mono ?_
      rintro e w3 ⟨rfl, f3⟩
      have hb3 := hb2.frame f3 (by simp)
      have hR3 := hR2.frame f3 (by simp)
      have F3 := F2.trans f3 (fun _ _ h => h.elim)
      obtain ⟨m30, m31, m32, m33⟩ := hR3.four
      have zR3 := hR3.frozen
      have lR3 := hR3.lt
      have lx3 := hb3.lt
      unfold setV
      go_wp2_with fail
      obtain ⟨r0, r1, r2, r3⟩ := (hR3.pset (blankP)).four
      exact bodyPost_ret (v := .tuple #[setV (blankP), .bool false, .int .u8 0]) (by simp [results, Tryz.results162, go_sem, setV, r0, r1, r2, r3]) rfl (by unfold EscPost; exact ⟨rfl, hb3.frame (S := fun b => b = w.heap.size) (Fr.pset (Fr.refl (fun b => b = w.heap.size) w3) (fun _ => rfl) (blankP)) (by omega), Fr.pset F3 (fun h => by omega) (blankP)⟩)
    by_cases h83 : c = 83
    · subst h83
      go_wp2_with fail
      refine (blank_any _).mono ?_
      rintro e w3 ⟨rfl, f3⟩
      have hb3 := hb2.frame f3 (by simp)
      have hR3 := hR2.frame f3 (by simp)
      have F3 := F2.trans f3 (fun _ _ h => h.elim)
      obtain ⟨m30, m31, m32, m33⟩ := hR3.four
      have zR3 := hR3.frozen
      have lR3 := hR3.lt
      have lx3 := hb3.lt
      unfold setV
      go_wp2_with fail
      refine (not_any (blankP) _).mono ?_
      rintro e w4 ⟨rfl, f4⟩
      have hb4 := (hb3.alloc (.cells #[.int .u64 (wd (blankP) 0 : Nat), .int .u64 (wd (blankP) 1 : Nat), .int .u64 (wd (blankP) 2 : Nat), .int .u64 (wd (blankP) 3 : Nat)] 95)).frame f4 (by simp)
      have hR4 := (hR3.alloc (.cells #[.int .u64 (wd (blankP) 0 : Nat), .int .u64 (wd (blankP) 1 : Nat), .int .u64 (wd (blankP) 2 : Nat), .int .u64 (wd (blankP) 3 : Nat)] 95)).frame f4 (by simp)
      have F4 := (F3.alloc (.cells #[.int .u64 (wd (blankP) 0 : Nat), .int .u64 (wd (blankP) 1 : Nat), .int .u64 (wd (blankP) 2 : Nat), .int .u64 (wd (blankP) 3 : Nat)] 95)).trans f4 (fun _ _ h => h.elim)
      obtain ⟨m40, m41, m42, m43⟩ := hR4.four
      have zR4 := hR4.frozen
      have lR4 := hR4.lt
      have lx4 := hb4.lt
      unfold setV
      go_wp2_with fail
      obtain ⟨r0, r1, r2, r3⟩ := (hR4.pset (notP (blankP))).four
      exact bodyPost_ret (v := .tuple #[setV (notP (blankP)), .bool false, .int .u8 0]) (by simp [results, Tryz.results162, go_sem, setV, r0, r1, r2, r3]) rfl (by unfold EscPost; exact ⟨rfl, hb4.frame (S := fun b => b = w.heap.size) (Fr.pset (Fr.refl (fun b => b = w.heap.size) w4) (fun _ => rfl) (notP (blankP))) (by omega), Fr.pset F4 (fun h => by omega) (notP (blankP))⟩)
    have hE0 : escC p i c = (if c = 120 then xesc p i else if alnum c then none else one c (i + 2)) := by unfold escC; rw [if_neg h110, if_neg h116, if_neg h114, if_neg h100, if_neg h68, if_neg h119, if_neg h87, if_neg h115, if_neg h83]
    by_cases h120 : c = 120
    · have hE1 : escC p i c = xesc p i := by rw [hE0, if_pos h120]
      clear hE0
      subst h120
      by_cases h3 : i + 3 < p.size
      · go_wp2_with fail
        refine wp_region_text (by kernel_rfl) (by kernel_rfl) ?_
        go_wp2_with fail
        refine ⟨by kernel_rfl, ?_⟩
        have Hb2 : Hid _ := bt_at p (i + 1 + 1) (by omega)
        have Hb3 : Hid _ := bt_at p (i + 1 + 1 + 1) (by omega)
        have Hl2 : Hid _ := bt_lt p (i + 1 + 1)
        have Hl3 : Hid _ := bt_lt p (i + 1 + 1 + 1)
        go_wp2_with fail
        refine wp_region_text (by kernel_rfl) (by kernel_rfl) ?_
        go_wp2_with fail
        rw [← Hb2.out]
        refine (hex_any (bt p (i + 1 + 1)) Hl2.out _).mono ?_
        rintro e w3 ⟨rfl, rfl⟩
        go_wp2_with fail
        refine ⟨by kernel_rfl, ?_⟩
        go_wp2_with fail
        refine wp_region_text (by kernel_rfl) (by kernel_rfl) ?_
        go_wp2_with fail
        rw [← Hb3.out]
        refine (hex_any (bt p (i + 1 + 1 + 1)) Hl3.out _).mono ?_
        rintro e w3 ⟨rfl, rfl⟩
        go_wp2_with fail
        refine ⟨by kernel_rfl, ?_⟩
        rcases e1 : hexv (bt p (i + 1 + 1)) with _ | h
        · have hE : escC p i 120 = none := by rw [hE1]; unfold xesc; rw [if_pos h3, e1]
          rw [show hexI (bt p (i + 1 + 1)) = -1 by unfold hexI; rw [e1]]
          go_wp2_with fail
          refine (failM_any hb2.drew.drew.drew 0 (by rw [upd_other _ _ _ _ (by omega), h4]) 4 i).mono ?_
          rintro e w3 ⟨rfl, hb3, f3⟩
          rw [if_pos rfl] at hb3
          have hR3 := hR2.drew.drew.drew.frame f3 (by omega)
          obtain ⟨m0, m1, m2, m3⟩ := hR3.four
          have zR3 := hR3.frozen
          have lR3 := hR3.lt
          have l3 := hb3.lt
          go_wp2_with fail
          obtain ⟨r0, r1, r2, r3⟩ := hR3.zset.four
          exact bodyPost_ret (v := .tuple #[setV noP, .bool false, .int .u8 0]) (by simp [results, Tryz.results162, go_sem, setV, r0, r1, r2, r3]) rfl (by unfold EscPost; rw [hE]; exact ⟨rfl, ⟨i + 2, by omega, hb3.frame (S := fun b => b = w.heap.size) (Fr.zset (Fr.refl (fun b => b = w.heap.size) w3) (fun _ => rfl)) (by omega)⟩, Fr.zset (F2.drew.drew.drew.trans f3 (fun _ _ h => h)) (fun h => by omega)⟩)
        · rcases e2 : hexv (bt p (i + 1 + 1 + 1)) with _ | l
          · have hE : escC p i 120 = none := by rw [hE1]; unfold xesc; rw [if_pos h3, e1, e2]
            rw [show hexI (bt p (i + 1 + 1)) = (h : Int) by unfold hexI; rw [e1], show hexI (bt p (i + 1 + 1 + 1)) = -1 by unfold hexI; rw [e2]]
            go_wp2_with fail
            refine (failM_any hb2.drew.drew.drew 0 (by rw [upd_other _ _ _ _ (by omega), h4]) 4 i).mono ?_
            rintro e w3 ⟨rfl, hb3, f3⟩
            rw [if_pos rfl] at hb3
            have hR3 := hR2.drew.drew.drew.frame f3 (by omega)
            obtain ⟨m0, m1, m2, m3⟩ := hR3.four
            have zR3 := hR3.frozen
            have lR3 := hR3.lt
            have l3 := hb3.lt
            go_wp2_with fail
            obtain ⟨r0, r1, r2, r3⟩ := hR3.zset.four
            exact bodyPost_ret (v := .tuple #[setV noP, .bool false, .int .u8 0]) (by simp [results, Tryz.results162, go_sem, setV, r0, r1, r2, r3]) rfl (by unfold EscPost; rw [hE]; exact ⟨rfl, ⟨i + 2, by omega, hb3.frame (S := fun b => b = w.heap.size) (Fr.zset (Fr.refl (fun b => b = w.heap.size) w3) (fun _ => rfl)) (by omega)⟩, Fr.zset (F2.drew.drew.drew.trans f3 (fun _ _ h => h)) (fun h => by omega)⟩)
          · have hE : escC p i 120 = some (btw (h * 16 + l) (h * 16 + l), true, h * 16 + l, i + 4) := by rw [hE1]; unfold xesc; rw [if_pos h3, e1, e2]; rfl
            have g1 := hexv_lt e1
            have g2 := hexv_lt e2
            have hw : IntKind.u8.wrap ((h : Int) * 16 + (l : Int)) = ((h * 16 + l : Nat) : Int) := by rw [IntWalk.u8_in _ ⟨by omega, by omega⟩]; omega
            rw [show hexI (bt p (i + 1 + 1)) = (h : Int) by unfold hexI; rw [e1], show hexI (bt p (i + 1 + 1 + 1)) = (l : Int) by unfold hexI; rw [e2]]
            have hb5 := ((((((((hb.set 1 (.int .i64 ((i : Int) + 1))).set 1 (.int .i64 ((i : Int) + 1 + 1))).set 1 (.int .i64 ((i : Int) + 1 + 1 + 2))).congr (g := upd f 1 (.int .i64 ((i + 4 : Nat) : Int))) (fun o ho => by unfold upd; split <;> rfl)).alloc (.cells #[.int .u64 0, .int .u64 0, .int .u64 0, .int .u64 0] 95)).drew).drew).drew).drew.drew
            have hR5 := (Blk.zero4 (((w.setCell ⟨x, 1, none⟩ (.int .i64 ((i : Int) + 1))).setCell ⟨x, 1, none⟩ (.int .i64 ((i : Int) + 1 + 1))).setCell ⟨x, 1, none⟩ (.int .i64 ((i : Int) + 1 + 1 + 2)))).drew.drew.drew.drew.drew
            simp only [World.size_setCell] at hR5
            have F5 := (((((Fr.refl (fun b => b = x) w).setC x 1 (.int .i64 ((i : Int) + 1)) (fun _ => rfl)).setC x 1 (.int .i64 ((i : Int) + 1 + 1)) (fun _ => rfl)).setC x 1 (.int .i64 ((i : Int) + 1 + 1 + 2)) (fun _ => rfl)).alloc (.cells #[.int .u64 0, .int .u64 0, .int .u64 0, .int .u64 0] 95)).drew.drew.drew.drew.drew
            go_wp2_with fail
            rw [show (h : Int) * 16 + (l : Int) = ((h * 16 + l : Nat) : Int) by omega]
            refine (one_any (h * 16 + l) (by omega) _).mono ?_
            rintro e w3 ⟨rfl, f3⟩
            have hb3 := hb5.frame f3 (by simp)
            have hR3 := hR5.frame f3 (by simp)
            have F3 := F5.trans f3 (fun _ _ h => h.elim)
            obtain ⟨m30, m31, m32, m33⟩ := hR3.four
            have zR3 := hR3.frozen
            have lR3 := hR3.lt
            have lx3 := hb3.lt
            unfold setV
            go_wp2_with fail
            obtain ⟨r0, r1, r2, r3⟩ := (hR3.pset (btw (h * 16 + l) (h * 16 + l))).four
            exact bodyPost_ret (v := .tuple #[setV (btw (h * 16 + l) (h * 16 + l)), .bool true, .int .u8 ((h * 16 + l : Nat) : Int)]) (by simp [results, Tryz.results162, go_sem, setV, r0, r1, r2, r3]) rfl (by unfold EscPost; rw [hE]; exact ⟨rfl, hb3.frame (S := fun b => b = w.heap.size) (Fr.pset (Fr.refl (fun b => b = w.heap.size) w3) (fun _ => rfl) (btw (h * 16 + l) (h * 16 + l))) (by omega), Fr.pset F3 (fun h => by omega) (btw (h * 16 + l) (h * 16 + l))⟩)
      · have hE : escC p i 120 = none := by rw [hE1]; unfold xesc; rw [if_neg h3]
        go_wp2_with fail
        refine wp_region_text (by kernel_rfl) (by kernel_rfl) ?_
        go_wp2_with fail
        refine ⟨by kernel_rfl, ?_⟩
        go_wp2_with fail
        refine (failM_any hb2.drew 0 (by rw [upd_other _ _ _ _ (by omega), h4]) 4 i).mono ?_
        rintro e w3 ⟨rfl, hb3, f3⟩
        rw [if_pos rfl] at hb3
        have hR3 := hR2.drew.frame f3 (by omega)
        obtain ⟨m0, m1, m2, m3⟩ := hR3.four
        have zR3 := hR3.frozen
        have lR3 := hR3.lt
        have l3 := hb3.lt
        go_wp2_with fail
        obtain ⟨r0, r1, r2, r3⟩ := hR3.zset.four
        exact bodyPost_ret (v := .tuple #[setV noP, .bool false, .int .u8 0]) (by simp [results, Tryz.results162, go_sem, setV, r0, r1, r2, r3]) rfl (by unfold EscPost; rw [hE]; exact ⟨rfl, ⟨i + 2, by omega, hb3.frame (S := fun b => b = w.heap.size) (Fr.zset (Fr.refl (fun b => b = w.heap.size) w3) (fun _ => rfl)) (by omega)⟩, Fr.zset (F2.drew.trans f3 (fun _ _ h => h)) (fun h => by omega)⟩)
    rw [if_neg h120] at hE0
    by_cases hal : alnum c = true
    · have hE : escC p i c = none := by rw [hE0, if_pos hal]
      clear hE0
      simp only [alnum, Bool.or_eq_true, Bool.and_eq_true, decide_eq_true_eq] at hal
      rcases hal with (⟨a1, a2⟩ | ⟨a1, a2⟩) | ⟨a1, a2⟩
      · go_wp2_with fail
        refine (failM_any hb2 0 (by rw [upd_other _ _ _ _ (by omega), h4]) 4 i).mono ?_
        rintro e w3 ⟨rfl, hb3, f3⟩
        rw [if_pos rfl] at hb3
        have hR3 := hR2.frame f3 (by omega)
        obtain ⟨m0, m1, m2, m3⟩ := hR3.four
        have zR3 := hR3.frozen
        have lR3 := hR3.lt
        have l3 := hb3.lt
        go_wp2_with fail
        obtain ⟨r0, r1, r2, r3⟩ := hR3.zset.four
        exact bodyPost_ret (v := .tuple #[setV noP, .bool false, .int .u8 0]) (by simp [results, Tryz.results162, go_sem, setV, r0, r1, r2, r3]) rfl (by unfold EscPost; rw [hE]; exact ⟨rfl, ⟨i + 2, by omega, hb3.frame (S := fun b => b = w.heap.size) (Fr.zset (Fr.refl (fun b => b = w.heap.size) w3) (fun _ => rfl)) (by omega)⟩, Fr.zset (F2.trans f3 (fun _ _ h => h)) (fun h => by omega)⟩)
      · have a3 : 57 < c := by omega
        go_wp2_with fail
        refine (failM_any hb2 0 (by rw [upd_other _ _ _ _ (by omega), h4]) 4 i).mono ?_
        rintro e w3 ⟨rfl, hb3, f3⟩
        rw [if_pos rfl] at hb3
        have hR3 := hR2.frame f3 (by omega)
        obtain ⟨m0, m1, m2, m3⟩ := hR3.four
        have zR3 := hR3.frozen
        have lR3 := hR3.lt
        have l3 := hb3.lt
        go_wp2_with fail
        obtain ⟨r0, r1, r2, r3⟩ := hR3.zset.four
        exact bodyPost_ret (v := .tuple #[setV noP, .bool false, .int .u8 0]) (by simp [results, Tryz.results162, go_sem, setV, r0, r1, r2, r3]) rfl (by unfold EscPost; rw [hE]; exact ⟨rfl, ⟨i + 2, by omega, hb3.frame (S := fun b => b = w.heap.size) (Fr.zset (Fr.refl (fun b => b = w.heap.size) w3) (fun _ => rfl)) (by omega)⟩, Fr.zset (F2.trans f3 (fun _ _ h => h)) (fun h => by omega)⟩)
      · have a3 : 90 < c := by omega
        go_wp2_with fail
        refine (failM_any hb2 0 (by rw [upd_other _ _ _ _ (by omega), h4]) 4 i).mono ?_
        rintro e w3 ⟨rfl, hb3, f3⟩
        rw [if_pos rfl] at hb3
        have hR3 := hR2.frame f3 (by omega)
        obtain ⟨m0, m1, m2, m3⟩ := hR3.four
        have zR3 := hR3.frozen
        have lR3 := hR3.lt
        have l3 := hb3.lt
        go_wp2_with fail
        obtain ⟨r0, r1, r2, r3⟩ := hR3.zset.four
        exact bodyPost_ret (v := .tuple #[setV noP, .bool false, .int .u8 0]) (by simp [results, Tryz.results162, go_sem, setV, r0, r1, r2, r3]) rfl (by unfold EscPost; rw [hE]; exact ⟨rfl, ⟨i + 2, by omega, hb3.frame (S := fun b => b = w.heap.size) (Fr.zset (Fr.refl (fun b => b = w.heap.size) w3) (fun _ => rfl)) (by omega)⟩, Fr.zset (F2.trans f3 (fun _ _ h => h)) (fun h => by omega)⟩)
    · have hE : escC p i c = some (btw c c, true, c, i + 2) := by rw [hE0, if_neg hal]; rfl
      clear hE0
      simp only [alnum, Bool.or_eq_true, Bool.and_eq_true, decide_eq_true_eq] at hal
      have hrng : c < 48 ∨ (57 < c ∧ c < 65) ∨ (90 < c ∧ c < 97) ∨ 122 < c := by omega
      clear hal
      rcases hrng with a1 | ⟨a1, a2⟩ | ⟨a1, a2⟩ | a1
      · go_wp2_with fail
        refine (one_any c hcl _).mono ?_
        rintro e w3 ⟨rfl, f3⟩
        have hb3 := hb2.frame f3 (by simp)
        have hR3 := hR2.frame f3 (by simp)
        have F3 := F2.trans f3 (fun _ _ h => h.elim)
        obtain ⟨m30, m31, m32, m33⟩ := hR3.four
        have zR3 := hR3.frozen
        have lR3 := hR3.lt
        have lx3 := hb3.lt
        unfold setV
        go_wp2_with fail
        obtain ⟨r0, r1, r2, r3⟩ := (hR3.pset (btw c c)).four
        exact bodyPost_ret (v := .tuple #[setV (btw c c), .bool true, .int .u8 c]) (by simp [results, Tryz.results162, go_sem, setV, r0, r1, r2, r3]) rfl (by unfold EscPost; rw [hE]; exact ⟨rfl, hb3.frame (S := fun b => b = w.heap.size) (Fr.pset (Fr.refl (fun b => b = w.heap.size) w3) (fun _ => rfl) (btw c c)) (by omega), Fr.pset F3 (fun h => by omega) (btw c c)⟩)
      · go_wp2_with fail
        refine (one_any c hcl _).mono ?_
        rintro e w3 ⟨rfl, f3⟩
        have hb3 := hb2.frame f3 (by simp)
        have hR3 := hR2.frame f3 (by simp)
        have F3 := F2.trans f3 (fun _ _ h => h.elim)
        obtain ⟨m30, m31, m32, m33⟩ := hR3.four
        have zR3 := hR3.frozen
        have lR3 := hR3.lt
        have lx3 := hb3.lt
        unfold setV
        go_wp2_with fail
        obtain ⟨r0, r1, r2, r3⟩ := (hR3.pset (btw c c)).four
        exact bodyPost_ret (v := .tuple #[setV (btw c c), .bool true, .int .u8 c]) (by simp [results, Tryz.results162, go_sem, setV, r0, r1, r2, r3]) rfl (by unfold EscPost; rw [hE]; exact ⟨rfl, hb3.frame (S := fun b => b = w.heap.size) (Fr.pset (Fr.refl (fun b => b = w.heap.size) w3) (fun _ => rfl) (btw c c)) (by omega), Fr.pset F3 (fun h => by omega) (btw c c)⟩)
      · go_wp2_with fail
        refine (one_any c hcl _).mono ?_
        rintro e w3 ⟨rfl, f3⟩
        have hb3 := hb2.frame f3 (by simp)
        have hR3 := hR2.frame f3 (by simp)
        have F3 := F2.trans f3 (fun _ _ h => h.elim)
        obtain ⟨m30, m31, m32, m33⟩ := hR3.four
        have zR3 := hR3.frozen
        have lR3 := hR3.lt
        have lx3 := hb3.lt
        unfold setV
        go_wp2_with fail
        obtain ⟨r0, r1, r2, r3⟩ := (hR3.pset (btw c c)).four
        exact bodyPost_ret (v := .tuple #[setV (btw c c), .bool true, .int .u8 c]) (by simp [results, Tryz.results162, go_sem, setV, r0, r1, r2, r3]) rfl (by unfold EscPost; rw [hE]; exact ⟨rfl, hb3.frame (S := fun b => b = w.heap.size) (Fr.pset (Fr.refl (fun b => b = w.heap.size) w3) (fun _ => rfl) (btw c c)) (by omega), Fr.pset F3 (fun h => by omega) (btw c c)⟩)
      · go_wp2_with fail
        refine (one_any c hcl _).mono ?_
        rintro e w3 ⟨rfl, f3⟩
        have hb3 := hb2.frame f3 (by simp)
        have hR3 := hR2.frame f3 (by simp)
        have F3 := F2.trans f3 (fun _ _ h => h.elim)
        obtain ⟨m30, m31, m32, m33⟩ := hR3.four
        have zR3 := hR3.frozen
        have lR3 := hR3.lt
        have lx3 := hb3.lt
        unfold setV
        go_wp2_with fail
        obtain ⟨r0, r1, r2, r3⟩ := (hR3.pset (btw c c)).four
        exact bodyPost_ret (v := .tuple #[setV (btw c c), .bool true, .int .u8 c]) (by simp [results, Tryz.results162, go_sem, setV, r0, r1, r2, r3]) rfl (by unfold EscPost; rw [hE]; exact ⟨rfl, hb3.frame (S := fun b => b = w.heap.size) (Fr.pset (Fr.refl (fun b => b = w.heap.size) w3) (fun _ => rfl) (btw c c)) (by omega), Fr.pset F3 (fun h => by omega) (btw c c)⟩)
  · rw [esc_no (by omega)]
    go_wp2_with fail
    refine wp_region_text (by kernel_rfl) (by kernel_rfl) ?_
    go_wp2_with fail
    refine ⟨by kernel_rfl, ?_⟩
    go_wp2_with fail
    have hb2 := ((hb.set 1 (.int .i64 ((i : Int) + 1))).alloc (.cells #[.int .u64 0, .int .u64 0, .int .u64 0, .int .u64 0] 95)).drew
    have hR2 := (Blk.zero4 (w.setCell ⟨x, 1, none⟩ (.int .i64 ((i : Int) + 1)))).drew
    simp only [World.size_setCell] at hR2
    have F2 := (((Fr.refl (fun b => b = x) w).setC x 1 (.int .i64 ((i : Int) + 1)) (fun _ => rfl)).alloc (.cells #[.int .u64 0, .int .u64 0, .int .u64 0, .int .u64 0] 95)).drew
    refine (failM_any hb2 0 (by rw [upd_other _ _ _ _ (by omega), h4]) 4 i).mono ?_
    rintro e w3 ⟨rfl, hb3, f3⟩
    rw [if_pos rfl] at hb3
    have hR3 := hR2.frame f3 (by omega)
    obtain ⟨m0, m1, m2, m3⟩ := hR3.four
    have zR3 := hR3.frozen
    have lR3 := hR3.lt
    have l3 := hb3.lt
    go_wp2_with fail
    obtain ⟨r0, r1, r2, r3⟩ := hR3.zset.four
    exact bodyPost_ret (v := .tuple #[setV noP, .bool false, .int .u8 0]) (by simp [results, Tryz.results162, go_sem, setV, r0, r1, r2, r3]) rfl (by unfold EscPost; exact ⟨rfl, ⟨i + 1, by omega, hb3.frame (S := fun b => b = w.heap.size) (Fr.zset (Fr.refl (fun b => b = w.heap.size) w3) (fun _ => rfl)) (by omega)⟩, Fr.zset (F2.trans f3 (fun _ _ h => h)) (fun h => by omega)⟩)
end Go.Proofs.Qxb6500283aGreat
