/- The real parser's escape. -/
import Derived.Test.Qxb6500283aGreatA4
namespace Go.Proofs.Qxb6500283aGreat
open Go Go.RowKit

set_option maxRecDepth 100000 in
set_option maxHeartbeats 4000000 in
theorem escR_any {w : World} {x : Nat} {f : Nat → Value} {p : ByteArray} {i : Nat} (hb : Blk w x 325 f) (h0 : f 0 = .string p) (h1 : f 1 = .int .i64 (i : Nat)) (hsz : p.size ≤ 129) (hi : i < p.size) :
    Calls Tryz.prog 142 #[.pointer (some ⟨x, 0, none⟩)] w (EscPost w x 325 323 324 f (esc p i) i) := by
  have c0 := hb.cell (o := 0) (by omega)
  have c1 := hb.cell (o := 1) (by omega)
  rw [h0] at c0
  rw [h1] at c1
  have z := hb.frozen
  have hxl := hb.lt
  have ha := hb.alloc (.cells #[.int .u64 0, .int .u64 0, .int .u64 0, .int .u64 0] 95)
  have FA := (Fr.refl (fun b => b = x) w).alloc (.cells #[.int .u64 0, .int .u64 0, .int .u64 0, .int .u64 0] 95)
  go_enter Tryz.func142, Tryz.ntmps142
  by_cases hlt : i + 1 < p.size
  · rw [esc_eq hlt]
    have hbt := bt_at p (i + 1) hlt
    have hcl := bt_lt p (i + 1)
    have Hbt : Hid _ := hbt
    clear hbt
    have hs1 := (hb.set 1 (.int .i64 ((i : Int) + 2))).alloc (.cells #[.int .u64 0, .int .u64 0, .int .u64 0, .int .u64 0] 95)
    have FS := ((Fr.refl (fun b => b = x) w).setC x 1 (.int .i64 ((i : Int) + 2)) (fun _ => rfl)).alloc (.cells #[.int .u64 0, .int .u64 0, .int .u64 0, .int .u64 0] 95)
    have hR1 := Blk.zero4 (w.setCell ⟨x, 1, none⟩ (.int .i64 ((i : Int) + 2)))
    rw [World.size_setCell] at hR1
    go_wp2_with fail
    rw [← Hbt.out]
    refine (named_any (bt p (i + 1)) hcl _).mono ?_
    rintro e w2 ⟨rfl, f2⟩
    have hb2 := hs1.frame f2 (by simp)
    have hR2 := hR1.frame f2 (by simp)
    have F2 := FS.trans f2 (fun _ _ h => h.elim)
    clear Hbt
    generalize bt p (i + 1) = c at *
    have q0 := hb2.cell (o := 0) (by omega)
    rw [upd_other _ _ _ _ (by omega), h0] at q0
    have q1 := hb2.cell (o := 1) (by omega)
    have q8 := hb2.cell (o := 323) (by omega)
    have q9 := hb2.cell (o := 324) (by omega)
    obtain ⟨k0, k1, k2, k3⟩ := hR2.four
    have z2 := hb2.frozen
    have zR := hR2.frozen
    have l2 := hb2.lt
    have lR := hR2.lt
    clear c0 c1 z
    by_cases h110 : c = 110
    · subst h110
      rw [show namedV (namedS 110) = .tuple #[.agg #[.int .u64 0, .int .u64 0, .int .u64 0, .int .u64 0], .bool false] by rfl]
      go_wp2_with fail
      refine (between_any 10 10 (by omega) (by omega) _).mono ?_
      rintro e w3 ⟨rfl, f3⟩
      have hb3 := (hb2.alloc _).frame f3 (by simp)
      have hR3 := (hR2.alloc _).frame f3 (by simp)
      have F3 := (F2.alloc _).trans f3 (fun _ _ h => h.elim)
      obtain ⟨m0, m1, m2, m3⟩ := hR3.four
      have zR3 := hR3.frozen
      have l3 := hR3.lt
      have l3x := hb3.lt
      unfold setV
      go_wp2_with fail
      obtain ⟨r0, r1, r2, r3⟩ := (hR3.pset (btw 10 10)).four
      exact bodyPost_ret (v := .tuple #[setV (btw 10 10), .bool true, .int .u8 10]) (by simp [results, Tryz.results142, go_sem, setV, r0, r1, r2, r3]) rfl ⟨rfl, hb3.frame (S := fun b => b = w.heap.size) (Fr.pset (Fr.refl (fun b => b = w.heap.size) w3) (fun _ => rfl) (btw 10 10)) (by omega), Fr.pset F3 (fun h => by omega) (btw 10 10)⟩
    by_cases h116 : c = 116
    · subst h116
      rw [show namedV (namedS 116) = .tuple #[.agg #[.int .u64 0, .int .u64 0, .int .u64 0, .int .u64 0], .bool false] by rfl]
      go_wp2_with fail
      refine (between_any 9 9 (by omega) (by omega) _).mono ?_
      rintro e w3 ⟨rfl, f3⟩
      have hb3 := (hb2.alloc _).frame f3 (by simp)
      have hR3 := (hR2.alloc _).frame f3 (by simp)
      have F3 := (F2.alloc _).trans f3 (fun _ _ h => h.elim)
      obtain ⟨m0, m1, m2, m3⟩ := hR3.four
      have zR3 := hR3.frozen
      have l3 := hR3.lt
      have l3x := hb3.lt
      unfold setV
      go_wp2_with fail
      obtain ⟨r0, r1, r2, r3⟩ := (hR3.pset (btw 9 9)).four
      exact bodyPost_ret (v := .tuple #[setV (btw 9 9), .bool true, .int .u8 9]) (by simp [results, Tryz.results142, go_sem, setV, r0, r1, r2, r3]) rfl ⟨rfl, hb3.frame (S := fun b => b = w.heap.size) (Fr.pset (Fr.refl (fun b => b = w.heap.size) w3) (fun _ => rfl) (btw 9 9)) (by omega), Fr.pset F3 (fun h => by omega) (btw 9 9)⟩
    by_cases h114 : c = 114
    · subst h114
      rw [show namedV (namedS 114) = .tuple #[.agg #[.int .u64 0, .int .u64 0, .int .u64 0, .int .u64 0], .bool false] by rfl]
      go_wp2_with fail
      refine (between_any 13 13 (by omega) (by omega) _).mono ?_
      rintro e w3 ⟨rfl, f3⟩
      have hb3 := (hb2.alloc _).frame f3 (by simp)
      have hR3 := (hR2.alloc _).frame f3 (by simp)
      have F3 := (F2.alloc _).trans f3 (fun _ _ h => h.elim)
      obtain ⟨m0, m1, m2, m3⟩ := hR3.four
      have zR3 := hR3.frozen
      have l3 := hR3.lt
      have l3x := hb3.lt
      unfold setV
      go_wp2_with fail
      obtain ⟨r0, r1, r2, r3⟩ := (hR3.pset (btw 13 13)).four
      exact bodyPost_ret (v := .tuple #[setV (btw 13 13), .bool true, .int .u8 13]) (by simp [results, Tryz.results142, go_sem, setV, r0, r1, r2, r3]) rfl ⟨rfl, hb3.frame (S := fun b => b = w.heap.size) (Fr.pset (Fr.refl (fun b => b = w.heap.size) w3) (fun _ => rfl) (btw 13 13)) (by omega), Fr.pset F3 (fun h => by omega) (btw 13 13)⟩
    by_cases h100 : c = 100
    · subst h100
      rw [show namedV (namedS 100) = .tuple #[setV (btw 48 57), .bool true] by rfl]
      unfold setV
      go_wp2_with fail
      obtain ⟨r0, r1, r2, r3⟩ := ((hR2.pset (btw 48 57)).alloc (.cells #[.int .u64 (wd (btw 48 57) 0 : Nat), .int .u64 (wd (btw 48 57) 1 : Nat), .int .u64 (wd (btw 48 57) 2 : Nat), .int .u64 (wd (btw 48 57) 3 : Nat)] 95)).four
      exact bodyPost_ret (v := .tuple #[setV (btw 48 57), .bool false, .int .u8 0]) (by simp [results, Tryz.results142, go_sem, setV, r0, r1, r2, r3]) rfl ⟨rfl, (hb2.frame (S := fun b => b = w.heap.size) (Fr.pset (Fr.refl (fun b => b = w.heap.size) w2) (fun _ => rfl) (btw 48 57)) (by omega)).alloc _, (Fr.pset F2 (fun h => by omega) (btw 48 57)).alloc _⟩
    by_cases h68 : c = 68
    · subst h68
      rw [show namedV (namedS 68) = .tuple #[setV (notP (btw 48 57)), .bool true] by rfl]
      unfold setV
      go_wp2_with fail
      obtain ⟨r0, r1, r2, r3⟩ := ((hR2.pset (notP (btw 48 57))).alloc (.cells #[.int .u64 (wd (notP (btw 48 57)) 0 : Nat), .int .u64 (wd (notP (btw 48 57)) 1 : Nat), .int .u64 (wd (notP (btw 48 57)) 2 : Nat), .int .u64 (wd (notP (btw 48 57)) 3 : Nat)] 95)).four
      exact bodyPost_ret (v := .tuple #[setV (notP (btw 48 57)), .bool false, .int .u8 0]) (by simp [results, Tryz.results142, go_sem, setV, r0, r1, r2, r3]) rfl ⟨rfl, (hb2.frame (S := fun b => b = w.heap.size) (Fr.pset (Fr.refl (fun b => b = w.heap.size) w2) (fun _ => rfl) (notP (btw 48 57))) (by omega)).alloc _, (Fr.pset F2 (fun h => by omega) (notP (btw 48 57))).alloc _⟩
    by_cases h119 : c = 119
    · subst h119
      rw [show namedV (namedS 119) = .tuple #[setV (wordP), .bool true] by rfl]
      unfold setV
      go_wp2_with fail
      obtain ⟨r0, r1, r2, r3⟩ := ((hR2.pset (wordP)).alloc (.cells #[.int .u64 (wd (wordP) 0 : Nat), .int .u64 (wd (wordP) 1 : Nat), .int .u64 (wd (wordP) 2 : Nat), .int .u64 (wd (wordP) 3 : Nat)] 95)).four
      exact bodyPost_ret (v := .tuple #[setV (wordP), .bool false, .int .u8 0]) (by simp [results, Tryz.results142, go_sem, setV, r0, r1, r2, r3]) rfl ⟨rfl, (hb2.frame (S := fun b => b = w.heap.size) (Fr.pset (Fr.refl (fun b => b = w.heap.size) w2) (fun _ => rfl) (wordP)) (by omega)).alloc _, (Fr.pset F2 (fun h => by omega) (wordP)).alloc _⟩
    by_cases h87 : c = 87
    · subst h87
      rw [show namedV (namedS 87) = .tuple #[setV (notP wordP), .bool true] by rfl]
      unfold setV
      go_wp2_with fail
      obtain ⟨r0, r1, r2, r3⟩ := ((hR2.pset (notP wordP)).alloc (.cells #[.int .u64 (wd (notP wordP) 0 : Nat), .int .u64 (wd (notP wordP) 1 : Nat), .int .u64 (wd (notP wordP) 2 : Nat), .int .u64 (wd (notP wordP) 3 : Nat)] 95)).four
      exact bodyPost_ret (v := .tuple #[setV (notP wordP), .bool false, .int .u8 0]) (by simp [results, Tryz.results142, go_sem, setV, r0, r1, r2, r3]) rfl ⟨rfl, (hb2.frame (S := fun b => b = w.heap.size) (Fr.pset (Fr.refl (fun b => b = w.heap.size) w2) (fun _ => rfl) (notP wordP)) (by omega)).alloc _, (Fr.pset F2 (fun h => by omega) (notP wordP)).alloc _⟩
    by_cases h115 : c = 115
    · subst h115
      rw [show namedV (namedS 115) = .tuple #[setV (blankP), .bool true] by rfl]
      unfold setV
      go_wp2_with fail
      obtain ⟨r0, r1, r2, r3⟩ := ((hR2.pset (blankP)).alloc (.cells #[.int .u64 (wd (blankP) 0 : Nat), .int .u64 (wd (blankP) 1 : Nat), .int .u64 (wd (blankP) 2 : Nat), .int .u64 (wd (blankP) 3 : Nat)] 95)).four
      exact bodyPost_ret (v := .tuple #[setV (blankP), .bool false, .int .u8 0]) (by simp [results, Tryz.results142, go_sem, setV, r0, r1, r2, r3]) rfl ⟨rfl, (hb2.frame (S := fun b => b = w.heap.size) (Fr.pset (Fr.refl (fun b => b = w.heap.size) w2) (fun _ => rfl) (blankP)) (by omega)).alloc _, (Fr.pset F2 (fun h => by omega) (blankP)).alloc _⟩
    by_cases h83 : c = 83
    · subst h83
      rw [show namedV (namedS 83) = .tuple #[setV (notP blankP), .bool true] by rfl]
      unfold setV
      go_wp2_with fail
      obtain ⟨r0, r1, r2, r3⟩ := ((hR2.pset (notP blankP)).alloc (.cells #[.int .u64 (wd (notP blankP) 0 : Nat), .int .u64 (wd (notP blankP) 1 : Nat), .int .u64 (wd (notP blankP) 2 : Nat), .int .u64 (wd (notP blankP) 3 : Nat)] 95)).four
      exact bodyPost_ret (v := .tuple #[setV (notP blankP), .bool false, .int .u8 0]) (by simp [results, Tryz.results142, go_sem, setV, r0, r1, r2, r3]) rfl ⟨rfl, (hb2.frame (S := fun b => b = w.heap.size) (Fr.pset (Fr.refl (fun b => b = w.heap.size) w2) (fun _ => rfl) (notP blankP)) (by omega)).alloc _, (Fr.pset F2 (fun h => by omega) (notP blankP)).alloc _⟩
    have hnn : namedS c = none := by unfold namedS; rw [if_neg h100, if_neg h68, if_neg h119, if_neg h87, if_neg h115, if_neg h83]
    rw [hnn, show namedV none = .tuple #[.agg #[.int .u64 0, .int .u64 0, .int .u64 0, .int .u64 0], .bool false] by rfl]
    have hE0 : escC p i c = (if c = 120 then xesc p i else if alnum c then none else one c (i + 2)) := by unfold escC; rw [if_neg h110, if_neg h116, if_neg h114, if_neg h100, if_neg h68, if_neg h119, if_neg h87, if_neg h115, if_neg h83]
    have hb2' := hb2.alloc (.cells #[.int .u64 0, .int .u64 0, .int .u64 0, .int .u64 0] 95)
    have hR2' := hR2.alloc (.cells #[.int .u64 0, .int .u64 0, .int .u64 0, .int .u64 0] 95)
    have F2' := F2.alloc (.cells #[.int .u64 0, .int .u64 0, .int .u64 0, .int .u64 0] 95)
    by_cases h120 : c = 120
    · have hE1 : escC p i c = xesc p i := by rw [hE0, if_pos h120]
      clear hE0
      subst h120
      by_cases h3 : i + 3 < p.size
      · have b2 := bt_at p (i + 2) (by omega)
        have b3 := bt_at p (i + 3) h3
        have Hb2 : Hid _ := b2
        have Hb3 : Hid _ := b3
        have Hl2 : Hid _ := bt_lt p (i + 2)
        have Hl3 : Hid _ := bt_lt p (i + 3)
        clear b2 b3
        go_wp2_with fail
        rw [← Hb2.out]
        refine (nibble_any (bt p (i + 2)) Hl2.out _).mono ?_
        rintro e w3 ⟨rfl, rfl⟩
        go_wp2_with fail
        rw [← Hb3.out]
        refine (nibble_any (bt p (i + 3)) Hl3.out _).mono ?_
        rintro e w3 ⟨rfl, rfl⟩
        rcases e1 : hexv (bt p (i + 2)) with _ | h
        · have hE : escC p i 120 = none := by rw [hE1]; unfold xesc; rw [if_pos h3, e1]
          rw [show hexI (bt p (i + 2)) = -1 by unfold hexI; rw [e1]]
          go_wp2_with fail
          refine (failR_any hb2' 4 i).mono ?_
          rintro e w3 ⟨rfl, hb3, f3⟩
          have hR3 := hR2'.frame f3 (by omega)
          obtain ⟨m0, m1, m2, m3⟩ := hR3.four
          have zR3 := hR3.frozen
          have lR3 := hR3.lt
          have l3 := hb3.lt
          go_wp2_with fail
          obtain ⟨r0, r1, r2, r3⟩ := hR3.zset.four
          exact bodyPost_ret (v := .tuple #[setV noP, .bool false, .int .u8 0]) (by simp [results, Tryz.results142, go_sem, setV, r0, r1, r2, r3]) rfl (by unfold EscPost; rw [hE]; exact ⟨rfl, ⟨i + 2, by omega, hb3.frame (S := fun b => b = w.heap.size) (Fr.zset (Fr.refl (fun b => b = w.heap.size) w3) (fun _ => rfl)) (by omega)⟩, Fr.zset (F2'.trans f3 (fun _ _ h => h)) (fun h => by omega)⟩)
        · rcases e2 : hexv (bt p (i + 3)) with _ | l
          · have hE : escC p i 120 = none := by rw [hE1]; unfold xesc; rw [if_pos h3, e1, e2]
            rw [show hexI (bt p (i + 2)) = (h : Int) by unfold hexI; rw [e1], show hexI (bt p (i + 3)) = -1 by unfold hexI; rw [e2]]
            go_wp2_with fail
            refine (failR_any hb2' 4 i).mono ?_
            rintro e w3 ⟨rfl, hb3, f3⟩
            have hR3 := hR2'.frame f3 (by omega)
            obtain ⟨m0, m1, m2, m3⟩ := hR3.four
            have zR3 := hR3.frozen
            have lR3 := hR3.lt
            have l3 := hb3.lt
            go_wp2_with fail
            obtain ⟨r0, r1, r2, r3⟩ := hR3.zset.four
            exact bodyPost_ret (v := .tuple #[setV noP, .bool false, .int .u8 0]) (by simp [results, Tryz.results142, go_sem, setV, r0, r1, r2, r3]) rfl (by unfold EscPost; rw [hE]; exact ⟨rfl, ⟨i + 2, by omega, hb3.frame (S := fun b => b = w.heap.size) (Fr.zset (Fr.refl (fun b => b = w.heap.size) w3) (fun _ => rfl)) (by omega)⟩, Fr.zset (F2'.trans f3 (fun _ _ h => h)) (fun h => by omega)⟩)
          · have hE : escC p i 120 = some (btw (h * 16 + l) (h * 16 + l), true, h * 16 + l, i + 4) := by rw [hE1]; unfold xesc; rw [if_pos h3, e1, e2]; rfl
            have g1 := hexv_lt e1
            have g2 := hexv_lt e2
            have hw : IntKind.u8.wrap ((h : Int) * 16 + (l : Int)) = ((h * 16 + l : Nat) : Int) := by rw [IntWalk.u8_in _ ⟨by omega, by omega⟩]; omega
            rw [show hexI (bt p (i + 2)) = (h : Int) by unfold hexI; rw [e1], show hexI (bt p (i + 3)) = (l : Int) by unfold hexI; rw [e2]]
            go_wp2_with fail
            rw [show (h : Int) * 16 + (l : Int) = ((h * 16 + l : Nat) : Int) by omega]
            have hb4 := ((hb2.set 1 (.int .i64 ((i : Int) + 4))).congr (g := upd f 1 (.int .i64 ((i + 4 : Nat) : Int))) (fun o ho => by unfold upd; split <;> rfl)).alloc (.cells #[.int .u64 0, .int .u64 0, .int .u64 0, .int .u64 0] 95)
            have hR4 := (hR2.setOther ⟨x, 1, none⟩ (.int .i64 ((i : Int) + 4)) (show w.heap.size ≠ x by omega)).alloc (.cells #[.int .u64 0, .int .u64 0, .int .u64 0, .int .u64 0] 95)
            have F4 := (F2.setC x 1 (.int .i64 ((i : Int) + 4)) (fun _ => rfl)).alloc (.cells #[.int .u64 0, .int .u64 0, .int .u64 0, .int .u64 0] 95)
            refine (between_any (h * 16 + l) (h * 16 + l) (by omega) (by omega) _).mono ?_
            rintro e w3 ⟨rfl, f3⟩
            have hb3 := hb4.frame f3 (by simp)
            have hR3 := hR4.frame f3 (by simp)
            have F3 := F4.trans f3 (fun _ _ h => h.elim)
            obtain ⟨m0, m1, m2, m3⟩ := hR3.four
            have zR3 := hR3.frozen
            have l3 := hR3.lt
            have l3x := hb3.lt
            unfold setV
            go_wp2_with fail
            obtain ⟨r0, r1, r2, r3⟩ := (hR3.pset (btw (h * 16 + l) (h * 16 + l))).four
            exact bodyPost_ret (v := .tuple #[setV (btw (h * 16 + l) (h * 16 + l)), .bool true, .int .u8 ((h * 16 + l : Nat) : Int)]) (by simp [results, Tryz.results142, go_sem, setV, r0, r1, r2, r3]) rfl (by unfold EscPost; rw [hE]; exact ⟨rfl, hb3.frame (S := fun b => b = w.heap.size) (Fr.pset (Fr.refl (fun b => b = w.heap.size) w3) (fun _ => rfl) (btw (h * 16 + l) (h * 16 + l))) (by omega), Fr.pset F3 (fun h => by omega) (btw (h * 16 + l) (h * 16 + l))⟩)
      · have hE : escC p i 120 = none := by rw [hE1]; unfold xesc; rw [if_neg h3]
        go_wp2_with fail
        refine (failR_any hb2' 4 i).mono ?_
        rintro e w3 ⟨rfl, hb3, f3⟩
        have hR3 := hR2'.frame f3 (by omega)
        obtain ⟨m0, m1, m2, m3⟩ := hR3.four
        have zR3 := hR3.frozen
        have lR3 := hR3.lt
        have l3 := hb3.lt
        go_wp2_with fail
        obtain ⟨r0, r1, r2, r3⟩ := hR3.zset.four
        exact bodyPost_ret (v := .tuple #[setV noP, .bool false, .int .u8 0]) (by simp [results, Tryz.results142, go_sem, setV, r0, r1, r2, r3]) rfl (by unfold EscPost; rw [hE]; exact ⟨rfl, ⟨i + 2, by omega, hb3.frame (S := fun b => b = w.heap.size) (Fr.zset (Fr.refl (fun b => b = w.heap.size) w3) (fun _ => rfl)) (by omega)⟩, Fr.zset (F2'.trans f3 (fun _ _ h => h)) (fun h => by omega)⟩)
    rw [if_neg h120] at hE0
    have t110 : (c == 110) = false := by simpa using h110
    by_cases hal : alnum c = true
    · have hE : escC p i c = none := by rw [hE0, if_pos hal]
      clear hE0
      simp only [alnum, Bool.or_eq_true, Bool.and_eq_true, decide_eq_true_eq] at hal
      rcases hal with (⟨a1, a2⟩ | ⟨a1, a2⟩) | ⟨a1, a2⟩
      · go_wp2_with fail
        refine (failR_any hb2' 4 i).mono ?_
        rintro e w3 ⟨rfl, hb3, f3⟩
        have hR3 := hR2'.frame f3 (by omega)
        obtain ⟨m0, m1, m2, m3⟩ := hR3.four
        have zR3 := hR3.frozen
        have lR3 := hR3.lt
        have l3 := hb3.lt
        go_wp2_with fail
        obtain ⟨r0, r1, r2, r3⟩ := hR3.zset.four
        exact bodyPost_ret (v := .tuple #[setV noP, .bool false, .int .u8 0]) (by simp [results, Tryz.results142, go_sem, setV, r0, r1, r2, r3]) rfl (by unfold EscPost; rw [hE]; exact ⟨rfl, ⟨i + 2, by omega, hb3.frame (S := fun b => b = w.heap.size) (Fr.zset (Fr.refl (fun b => b = w.heap.size) w3) (fun _ => rfl)) (by omega)⟩, Fr.zset (F2'.trans f3 (fun _ _ h => h)) (fun h => by omega)⟩)
      · have a3 : 57 < c := by omega
        go_wp2_with fail
        refine (failR_any hb2' 4 i).mono ?_
        rintro e w3 ⟨rfl, hb3, f3⟩
        have hR3 := hR2'.frame f3 (by omega)
        obtain ⟨m0, m1, m2, m3⟩ := hR3.four
        have zR3 := hR3.frozen
        have lR3 := hR3.lt
        have l3 := hb3.lt
        go_wp2_with fail
        obtain ⟨r0, r1, r2, r3⟩ := hR3.zset.four
        exact bodyPost_ret (v := .tuple #[setV noP, .bool false, .int .u8 0]) (by simp [results, Tryz.results142, go_sem, setV, r0, r1, r2, r3]) rfl (by unfold EscPost; rw [hE]; exact ⟨rfl, ⟨i + 2, by omega, hb3.frame (S := fun b => b = w.heap.size) (Fr.zset (Fr.refl (fun b => b = w.heap.size) w3) (fun _ => rfl)) (by omega)⟩, Fr.zset (F2'.trans f3 (fun _ _ h => h)) (fun h => by omega)⟩)
      · have a3 : 90 < c := by omega
        go_wp2_with fail
        refine (failR_any hb2' 4 i).mono ?_
        rintro e w3 ⟨rfl, hb3, f3⟩
        have hR3 := hR2'.frame f3 (by omega)
        obtain ⟨m0, m1, m2, m3⟩ := hR3.four
        have zR3 := hR3.frozen
        have lR3 := hR3.lt
        have l3 := hb3.lt
        go_wp2_with fail
        obtain ⟨r0, r1, r2, r3⟩ := hR3.zset.four
        exact bodyPost_ret (v := .tuple #[setV noP, .bool false, .int .u8 0]) (by simp [results, Tryz.results142, go_sem, setV, r0, r1, r2, r3]) rfl (by unfold EscPost; rw [hE]; exact ⟨rfl, ⟨i + 2, by omega, hb3.frame (S := fun b => b = w.heap.size) (Fr.zset (Fr.refl (fun b => b = w.heap.size) w3) (fun _ => rfl)) (by omega)⟩, Fr.zset (F2'.trans f3 (fun _ _ h => h)) (fun h => by omega)⟩)
    · have hE : escC p i c = some (btw c c, true, c, i + 2) := by rw [hE0, if_neg hal]; rfl
      clear hE0
      simp only [alnum, Bool.or_eq_true, Bool.and_eq_true, decide_eq_true_eq] at hal
      have hrng : c < 48 ∨ (57 < c ∧ c < 65) ∨ (90 < c ∧ c < 97) ∨ 122 < c := by omega
      clear hal
      rcases hrng with a1 | ⟨a1, a2⟩ | ⟨a1, a2⟩ | a1
      · go_wp2_with fail
        refine (between_any c c (by omega) (by omega) _).mono ?_
        rintro e w3 ⟨rfl, f3⟩
        have hb3 := hb2'.frame f3 (by simp)
        have hR3 := hR2'.frame f3 (by simp)
        have F3 := F2'.trans f3 (fun _ _ h => h.elim)
        obtain ⟨m0, m1, m2, m3⟩ := hR3.four
        have zR3 := hR3.frozen
        have l3 := hR3.lt
        have l3x := hb3.lt
        unfold setV
        go_wp2_with fail
        obtain ⟨r0, r1, r2, r3⟩ := (hR3.pset (btw c c)).four
        exact bodyPost_ret (v := .tuple #[setV (btw c c), .bool true, .int .u8 c]) (by simp [results, Tryz.results142, go_sem, setV, r0, r1, r2, r3]) rfl (by unfold EscPost; rw [hE]; exact ⟨rfl, hb3.frame (S := fun b => b = w.heap.size) (Fr.pset (Fr.refl (fun b => b = w.heap.size) w3) (fun _ => rfl) (btw c c)) (by omega), Fr.pset F3 (fun h => by omega) (btw c c)⟩)
      · go_wp2_with fail
        refine (between_any c c (by omega) (by omega) _).mono ?_
        rintro e w3 ⟨rfl, f3⟩
        have hb3 := hb2'.frame f3 (by simp)
        have hR3 := hR2'.frame f3 (by simp)
        have F3 := F2'.trans f3 (fun _ _ h => h.elim)
        obtain ⟨m0, m1, m2, m3⟩ := hR3.four
        have zR3 := hR3.frozen
        have l3 := hR3.lt
        have l3x := hb3.lt
        unfold setV
        go_wp2_with fail
        obtain ⟨r0, r1, r2, r3⟩ := (hR3.pset (btw c c)).four
        exact bodyPost_ret (v := .tuple #[setV (btw c c), .bool true, .int .u8 c]) (by simp [results, Tryz.results142, go_sem, setV, r0, r1, r2, r3]) rfl (by unfold EscPost; rw [hE]; exact ⟨rfl, hb3.frame (S := fun b => b = w.heap.size) (Fr.pset (Fr.refl (fun b => b = w.heap.size) w3) (fun _ => rfl) (btw c c)) (by omega), Fr.pset F3 (fun h => by omega) (btw c c)⟩)
      · go_wp2_with fail
        refine (between_any c c (by omega) (by omega) _).mono ?_
        rintro e w3 ⟨rfl, f3⟩
        have hb3 := hb2'.frame f3 (by simp)
        have hR3 := hR2'.frame f3 (by simp)
        have F3 := F2'.trans f3 (fun _ _ h => h.elim)
        obtain ⟨m0, m1, m2, m3⟩ := hR3.four
        have zR3 := hR3.frozen
        have l3 := hR3.lt
        have l3x := hb3.lt
        unfold setV
        go_wp2_with fail
        obtain ⟨r0, r1, r2, r3⟩ := (hR3.pset (btw c c)).four
        exact bodyPost_ret (v := .tuple #[setV (btw c c), .bool true, .int .u8 c]) (by simp [results, Tryz.results142, go_sem, setV, r0, r1, r2, r3]) rfl (by unfold EscPost; rw [hE]; exact ⟨rfl, hb3.frame (S := fun b => b = w.heap.size) (Fr.pset (Fr.refl (fun b => b = w.heap.size) w3) (fun _ => rfl) (btw c c)) (by omega), Fr.pset F3 (fun h => by omega) (btw c c)⟩)
      · go_wp2_with fail
        refine (between_any c c (by omega) (by omega) _).mono ?_
        rintro e w3 ⟨rfl, f3⟩
        have hb3 := hb2'.frame f3 (by simp)
        have hR3 := hR2'.frame f3 (by simp)
        have F3 := F2'.trans f3 (fun _ _ h => h.elim)
        obtain ⟨m0, m1, m2, m3⟩ := hR3.four
        have zR3 := hR3.frozen
        have l3 := hR3.lt
        have l3x := hb3.lt
        unfold setV
        go_wp2_with fail
        obtain ⟨r0, r1, r2, r3⟩ := (hR3.pset (btw c c)).four
        exact bodyPost_ret (v := .tuple #[setV (btw c c), .bool true, .int .u8 c]) (by simp [results, Tryz.results142, go_sem, setV, r0, r1, r2, r3]) rfl (by unfold EscPost; rw [hE]; exact ⟨rfl, hb3.frame (S := fun b => b = w.heap.size) (Fr.pset (Fr.refl (fun b => b = w.heap.size) w3) (fun _ => rfl) (btw c c)) (by omega), Fr.pset F3 (fun h => by omega) (btw c c)⟩)
  · rw [esc_no (by omega)]
    go_wp2_with fail
    refine (failR_any ha 4 i).mono ?_
    rintro e w2 ⟨rfl, hb2, f2⟩
    have hR2 := (Blk.zero4 w).frame f2 (by omega)
    obtain ⟨k0, k1, k2, k3⟩ := hR2.four
    have zR := hR2.frozen
    have lR := hR2.lt
    have l2 := hb2.lt
    go_wp2_with fail
    obtain ⟨r0, r1, r2, r3⟩ := hR2.zset.four
    refine bodyPost_ret (v := .tuple #[setV noP, .bool false, .int .u8 0]) (by simp [results, Tryz.results142, go_sem, setV, r0, r1, r2, r3]) rfl ⟨rfl, ⟨i, by omega, ?_⟩, Fr.zset (FA.trans f2 (fun _ _ h => h)) (fun h => by omega)⟩
    have := hb2.frame (S := fun b => b = w.heap.size) (Fr.zset (Fr.refl (fun b => b = w.heap.size) w2) (fun _ => rfl)) (by omega)
    exact this.congr (fun o ho => by unfold upd; split <;> try rfl
                                     split <;> try rfl
                                     split <;> rename_i e <;> first | rfl | (subst e; exact h1))
end Go.Proofs.Qxb6500283aGreat
