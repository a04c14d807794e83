/- The law: the quiet walk. -/
import Derived.Test.Qxb6500280aPL4
namespace Go.Proofs.Qxb6500280a
open Go Go.RowKit

set_option maxRecDepth 100000 in
set_option maxHeartbeats 16000000 in
theorem walk_quiet {w : World} {a : Option Addr} {n cap : Nat} (hs : ScrAt w a n) :
    Calls Try.prog 9 #[.slice a n cap, .bool true] w fun e w' => (∃ k, e = .returned (.tuple #[.int .i64 (-1), .int .i64 k])) ∧ Fr (fun _ => False) w w' := by
  go_enter Try.func9, Try.ntmps9
  go_wp2_with fail
  refine (groundF _).mono ?_
  rintro v w1 ⟨lx, bb, r, rfl, L1, f1, h1, h2⟩
  have L1' := L1.frame ((Fr.refl (fun _ => False) w1).alloc (.cells #[.pointer (some ⟨lx, 0, none⟩)] 29)) (fun h => h) (fun h => h)
  have f1' := f1.alloc (.cells #[.pointer (some ⟨lx, 0, none⟩)] 29)
  go_wp2_with fail
  refine (newR L1').mono ?_
  rintro v w2 ⟨p, rfl, R2, f2, hp⟩
  have F2 := f1'.trans f2 (fun _ _ h => h)
  go_wp2_with fail
  refine (newMP w2).mono ?_
  rintro v w3 ⟨m, rfl, M3, f3, hm⟩
  have F3 := F2.trans f3 (fun _ _ h => h)
  have R3 := R2.frame f3 (fun _ _ h => h)
  have LI0 : LI w.heap.size ((w3.alloc (box4v (.slice none 0 0) 0 0 0)).alloc (box4v (.slice none 0 0) 0 0 0)) p m w3.heap.size (w3.heap.size + 1) (fun c => c = lx ∨ c = bb ∨ ((w1.alloc (.cells #[.pointer (some ⟨lx, 0, none⟩)] 29)).heap.size ≤ c ∧ c < w2.heap.size)) (.slice none 0 0) (.slice none 0 0) (.slice none 0 0) [] 0 0 0 0 (fun _ => .slice none 0 0) := by
    have kk := ((Fr.refl (fun _ => False) w3).alloc (box4v (.slice none 0 0) 0 0 0)).alloc (box4v (.slice none 0 0) 0 0 0)
    have T2 := trC_blk (w3.alloc (box4v (.slice none 0 0) 0 0 0)) (.slice none 0 0) 0 0 0
    rw [World.size_alloc] at T2
    have m3 := M3.lt
    have s1 := f1.size
    have s1' := f1'.size
    have s2 := f2.size
    have s3 := f3.size
    refine ⟨R3.frame kk (fun _ _ h => h), M3.frame kk (fun h => h), (trC_blk w3 (.slice none 0 0) 0 0 0).alloc _, T2, .inl ⟨rfl, rfl⟩, .inl ⟨rfl, rfl⟩, by simp, ⟨by omega, .inl ⟨rfl, rfl⟩, fun j hj => by omega⟩, fun c hc => ?_, fun c hc => (isBlk_nil hc).elim, fun c hc => (isBlk_nil hc).elim, fun j hj => by omega, by omega, by omega, by omega, by omega, by omega⟩
    have hcl := R2.lt hc
    exact ⟨by omega, by omega, by omega, nil_noB _, nil_noB _, nil_noB _, fun j hj => by omega, by rcases hc with rfl | rfl | hc <;> omega⟩
  have FI := (F3.alloc (box4v (.slice none 0 0) 0 0 0)).alloc (box4v (.slice none 0 0) 0 0 0)
  unfold box4v at LI0 FI
  obtain ⟨O0, hO0⟩ : ∃ O0 : Nat → Prop, O0 = (fun c => c = lx ∨ c = bb ∨ ((w1.alloc (.cells #[.pointer (some ⟨lx, 0, none⟩)] 29)).heap.size ≤ c ∧ c < w2.heap.size)) := ⟨_, rfl⟩
  rw [← hO0] at LI0
  have HLI : Hid (LI _ _ _ _ _ _ _ _ _ _ _ _ _ _ _ _) := LI0
  have HFI : Hid _ := FI
  clear LI0 FI hO0 f1 f2 f3 f1' L1 L1' R2 R3 M3 F2 F3 h1 h2 hp hm
  obtain ⟨bt, hbt⟩ : ∃ bt, w3.heap.size = bt := ⟨_, rfl⟩
  rw [hbt] at HLI
  go_wp2_with fail
  have Hbt : Hid _ := hbt
  clear hbt
  obtain ⟨bu, hbu⟩ : ∃ bu, bt + 1 = bu := ⟨_, rfl⟩
  rw [hbu] at HLI ⊢
  clear hbu
  go_loopg [9, 12, 13] n (fun g tv mv kv wr => ∃ (k : Nat) (txt : ByteArray), tv = .string txt ∧ kv = .int .i64 k ∧ k + g = n ∧ k ≤ 4398046511104 ∧ txt.size ≤ 4097 ∧ (∃ O v u ns r e q nn f, LI w.heap.size wr p m bt bu O v u mv ns r e q nn f) ∧ Fr (fun _ => False) w wr)
  case atStart => exact ⟨0, _, rfl, rfl, by omega, by omega, Nat.zero_le 4097, ⟨_, _, _, _, _, _, _, _, _, HLI.out⟩, HFI.out⟩
  case round =>
    obtain ⟨k, txt, rfl, rfl, hkg, hk42, htx, ⟨O, v, u, ns, r, e, q, nn, f, LJ⟩, hfr⟩ := hrel
    have Hkg : Hid _ := hkg
    have Hk42 : Hid _ := hk42
    obtain ⟨am, cm, rfl⟩ := LJ.mn.os.sl
    have hkb : (k : Int) < 140737488355328 := by omega
    clear hkg hk42 HLI HFI
    by_cases hlt : k < n
    · by_cases hlt2 : (k : Int) < 4398046511104
      · rcases hs with h0 | ⟨b, off, rfl, hb, hcells⟩
        · exact absurd hlt (by omega)
        have Hlt2 : Hid _ := hlt2
        have zlt : decide ((k : Int) < (n : Int)) = true := decide_eq_true (by omega)
        obtain ⟨kind, a', b', c', s, t, c0, c1, c2, c3, c4, c5⟩ := hcells k hlt
        rw [← hfr.cell (p := ⟨b, off + k * 6, none⟩) hb (by simp)] at c0
        rw [← hfr.cell (p := ⟨b, off + k * 6 + 1, none⟩) hb (by simp)] at c1
        rw [← hfr.cell (p := ⟨b, off + k * 6 + 2, none⟩) hb (by simp)] at c2
        rw [← hfr.cell (p := ⟨b, off + k * 6 + 3, none⟩) hb (by simp)] at c3
        rw [← hfr.cell (p := ⟨b, off + k * 6 + 4, none⟩) hb (by simp)] at c4
        rw [← hfr.cell (p := ⟨b, off + k * 6 + 5, none⟩) hb (by simp)] at c5
        have hbw : b < wr.heap.size := Nat.lt_of_lt_of_le hb hfr.size
        clear hcells
        have kA := (Fr.refl (fun _ => False) wr).alloc (.cells #[.int .i64 kind, .int .i64 a', .int .i64 b', .int .i64 c', .string s, .string t] 36)
        have LI6 := LJ.same kA
        have F6 := hfr.trans kA (fun _ _ h => h)
        by_cases k1 : kind = 1
        · subst k1
          go_wp2_with fail
          refine (joinL txt s htx _).mono ?_
          rintro v' w7 ⟨⟨tx2, rfl, htx2⟩, e7⟩
          subst w7
          go_wp2_with fail
          go_roundg (gk - 1)
          case measure => have := Hkg.out; omega
          case rel => exact ⟨k + 1, tx2, rfl, by simp, by have := Hkg.out; omega, by have := Hlt2.out; omega, htx2, ⟨_, _, _, _, _, _, _, _, _, LI6⟩, F6⟩
        · have z1 : (kind == 1) = false := by simpa using k1
          by_cases k3 : kind = 3
          · subst k3
            have hlo6 : w.heap.size ≤ (wr.alloc (.cells #[.int .i64 3, .int .i64 a', .int .i64 b', .int .i64 c', .string s, .string t] 36)).heap.size := F6.size
            clear z1 k1
            go_wp2_with fail
            refine (joinL txt s htx _).mono ?_
            rintro v' w7 ⟨⟨src, rfl, hsrc⟩, e7⟩
            subst w7
            go_wp2_with fail
            refine (parseR LI6.R src).mono ?_
            rintro v' w7 ⟨O7, v7, ns7, r7, e7, q7, rfl, R7, hO7, k7, L7, hv7, A7, le7⟩
            have LI7 := LI6.parse R7 hO7 k7 hlo6
            have F7 := F6.trans k7 (fun c hc ho => by have := (LI6.o1 c ho).2.2.2.2.2.2.2; omega)
            have HA7 : Hid (Ans src ns7 r7 e7 q7) := A7
            have OLD : Hid _ := LI6.old
            obtain ⟨s7, hs7⟩ : ∃ s7, (wr.alloc (.cells #[.int .i64 3, .int .i64 a', .int .i64 b', .int .i64 c', .string s, .string t] 36)).heap.size = s7 := ⟨_, rfl⟩
            rw [hs7] at hv7 hlo6 OLD
            have s67 : s7 ≤ w7.heap.size := by rw [← hs7]; exact k7.size
            have HS7 : Hid (s7 ≤ w7.heap.size) := s67
            have HV7 : Hid (∀ b, isBlk v7 b → s7 ≤ b ∧ ¬ O7 b) := hv7
            have HLO : Hid (w.heap.size ≤ s7) := hlo6
            obtain ⟨a7, hv7e⟩ := L7.sl
            subst hv7e
            have kB := (Fr.refl (fun _ => False) w7).alloc (box4v (.slice a7 ns7.length ns7.length) r7 e7 q7)
            have LI7' := LI7.same kB
            have F7' := F7.trans kB (fun _ _ h => h)
            have L7' := L7.frame kB (fun _ _ h => h)
            have T7 := trC_blk w7 (.slice a7 ns7.length ns7.length) r7 e7 q7
            clear hs7 s67 hv7 hlo6 A7 R7 hO7 k7 LI7 F7 L7 LI6 F6 kA kB c0 c1 c2 c3 c4 c5 LJ hfr
            unfold treeV
            go_wp2_with fail
            refine (parseMM LI7'.Mo src).mono ?_
            rintro v' w8 ⟨u8, ns8, r8, e8, q8, rfl, k8, L8, hu8, A8⟩
            obtain ⟨rfl, rfl, rfl, rfl⟩ := Ans.det HA7.out A8
            obtain ⟨a8, hu8e⟩ := L8.sl
            subst hu8e
            have LI8 := LI7'.same k8
            have F8 := F7'.trans k8 (fun _ _ h => h)
            have L78 := L7'.frame k8 (fun _ _ h => h)
            have T8 := T7.frame k8 (fun h => h)
            have kC := (Fr.refl (fun _ => False) w8).alloc (box4v (.slice a8 ns7.length ns7.length) r7 e7 q7)
            have LI8' := LI8.same kC
            have F8' := F8.trans kC (fun _ _ h => h)
            have L78' := L78.frame kC (fun _ _ h => h)
            have L8' := L8.frame kC (fun _ _ h => h)
            have T8' := T8.alloc (box4v (.slice a8 ns7.length ns7.length) r7 e7 q7)
            have U8 := trC_blk w8 (.slice a8 ns7.length ns7.length) r7 e7 q7
            have HU8 : Hid (∀ b, isBlk (.slice a8 ns7.length ns7.length) b → s7 ≤ b ∧ ¬ O7 b) := fun b hb => by
              have h1 := hu8 b hb
              rw [World.size_alloc] at h1
              have h2 := HS7.out
              exact ⟨by omega, fun ho => by have := LI7'.R.lt ho; rw [World.size_alloc] at this; omega⟩
            obtain ⟨y0, y1, y2, y3, yl⟩ := T8.four
            clear hu8 A8 k8 LI8 F8 L78 L8 T8 LI7' F7' L7' T7 kC
            unfold treeV
            go_wp2_with fail
            refine (sameTree L78' L8' le7).mono ?_
            rintro x9 w9 ⟨rfl, f9⟩
            have LI9 := LI8'.same f9
            have F9 := F8'.trans f9 (fun _ _ h => h)
            have L79 := L78'.frame f9 (fun _ _ h => h)
            have L89 := L8'.frame f9 (fun _ _ h => h)
            have T9 := T8'.frame f9 (fun h => h)
            have U9 := U8.frame f9 (fun h => h)
            obtain ⟨bT, hbT⟩ : ∃ bT, w7.heap.size = bT := ⟨_, rfl⟩
            obtain ⟨bU, hbU⟩ : ∃ bU, w8.heap.size = bU := ⟨_, rfl⟩
            have HBU : Hid (s7 ≤ bU) := by have h1 := HS7.out; have h2 := yl; show s7 ≤ bU; omega
            rw [hbT] at T9 HS7 ⊢
            rw [hbU] at U9 ⊢
            clear hbT hbU y0 y1 y2 y3 yl LI8' F8' L78' L8' T8' U8 f9
            obtain ⟨y0, y1, y2, y3, yl⟩ := T9.four
            go_wp2_with fail
            refine (nilIfEmpty L79 le7).mono ?_
            rintro x10 w10 ⟨rfl, f10⟩
            have LI10 := LI9.same f10
            have F10 := F9.trans f10 (fun _ _ h => h)
            have L710 := L79.frame f10 (fun _ _ h => h)
            have L810 := L89.frame f10 (fun _ _ h => h)
            have T10 := T9.frame f10 (fun h => h)
            have U10 := U9.frame f10 (fun h => h)
            clear y0 y1 y2 y3 yl LI9 F9 L79 L89 T9 U9 f10
            obtain ⟨av, hve⟩ := LI10.L1.sl
            obtain ⟨au, hue⟩ := LI10.L2.sl
            subst hve hue
            obtain ⟨t0, t1, t2, t3, u0, u1, u2, u3, tl, ul, tu⟩ := LI10.cells
            go_wp2_with fail
            refine (sameTree LI10.L1 LI10.L2 LI10.le).mono ?_
            rintro x11 w11 ⟨rfl, f11⟩
            have LI11 := LI10.same f11
            have F11 := F10.trans f11 (fun _ _ h => h)
            have L711 := L710.frame f11 (fun _ _ h => h)
            have L811 := L810.frame f11 (fun _ _ h => h)
            have T11 := T10.frame f11 (fun h => h)
            have U11 := U10.frame f11 (fun h => h)
            clear t0 t1 t2 t3 u0 u1 u2 u3 tl ul tu LI10 F10 L710 L810 T10 U10 f11
            go_wp2_with fail
            refine (untouchedF LI11.mn).mono ?_
            rintro x12 w12 ⟨rfl, f12⟩
            have LI12 := LI11.same f12
            have F12 := F11.trans f12 (fun _ _ h => h)
            have L712 := L711.frame f12 (fun _ _ h => h)
            have L812 := L811.frame f12 (fun _ _ h => h)
            have T12 := T11.frame f12 (fun h => h)
            have U12 := U11.frame f12 (fun h => h)
            clear LI11 F11 L711 L811 T11 U11 f12
            obtain ⟨t0, t1, t2, t3, u0, u1, u2, u3, tl, ul, tu⟩ := LI12.cells
            go_wp2_with fail
            refine (spoilF LI12.L1 LI12.le).mono ?_
            rintro x13 w13 ⟨rfl, S13, k13⟩
            have hsv : ∀ c, isBlk (.slice av ns.length ns.length) c → c < s7 := OLD.out.2.2.2.1
            have hbTv : ¬ isBlk (.slice av ns.length ns.length) bT := fun h => by have := hsv _ h; have := HS7.out; omega
            have hbUv : ¬ isBlk (.slice av ns.length ns.length) bU := fun h => by have := hsv _ h; have := HBU.out; omega
            have T13 := T12.frame k13 hbTv
            have U13 := U12.frame k13 hbUv
            have X13 := LI12.T1.frame k13 (fun h => (LI12.v1 _ h).2.1 rfl)
            have Y13 := LI12.T2.frame k13 (fun h => (LI12.v1 _ h).2.2.1 rfl)
            have M13 := LI12.mn.frame k13 (fun c hc hv => by
              rcases hc with hc | ⟨j, hj, hc⟩
              · exact (LI12.v1 c hv).2.2.2.1 hc
              · exact (LI12.v1 c hv).2.2.2.2.1 j hj hc)
            have hne : ∀ c, isBlk (.slice am nn cm) c → ¬ isBlk (.slice av ns.length ns.length) c ∧ ∀ j, j < nn → ¬ isBlk (f j) c := fun c hc => ⟨fun hv => (LI12.v1 c hv).2.2.2.1 hc, (LI12.m1 c hc).2.2.2.1⟩
            clear t0 t1 t2 t3 u0 u1 u2 u3 tl ul tu
            obtain ⟨t0, t1, t2, t3, tl⟩ := X13.four
            go_wp2_with fail
            refine (keepF M13 S13 LI12.le hne).mono ?_
            rintro x14 w14 ⟨mv', n', f', rfl, hK⟩
            have hmb : ∀ c, isBlk (.slice am nn cm) c → c < s7 := OLD.out.2.2.2.2.1
            have T14 := T13.frame hK.fr (fun h => by have := hmb _ h; have := HS7.out; omega)
            have U14 := U13.frame hK.fr (fun h => by have := hmb _ h; have := HBU.out; omega)
            have X14 := X13.frame hK.fr (fun h => (LI12.m1 _ h).2.1 rfl)
            have Y14 := Y13.frame hK.fr (fun h => (LI12.m1 _ h).2.2.1 rfl)
            obtain ⟨P1, P2, P3⟩ := put8 LI12.b1.1 X14 Y14 (.slice a7 ns7.length ns7.length) (.slice a8 ns7.length ns7.length) r7 e7 q7 r7 e7 q7
            obtain ⟨LI15, F15⟩ := LI12.next S13 k13 hK P3 P1 P2 L712 L812 le7 HLO.out (by have := HBU.out; have := U12.lt; omega) OLD.out HV7.out HU8.out
            have F15' := F12.trans F15 (fun c hc h => by omega)
            have HL15 : Hid (LI _ _ _ _ _ _ _ _ _ _ _ _ _ _ _ _) := LI15
            have HF15 : Hid _ := F15'
            clear t0 t1 t2 t3 tl LI15 F15 F15' P1 P2 P3
            obtain ⟨t0, t1, t2, t3, tl⟩ := T14.four
            obtain ⟨u0, u1, u2, u3, ul⟩ := U14.four
            obtain ⟨x0, x1, x2, x3, xl⟩ := X14.four
            obtain ⟨y0, y1, y2, y3, yl⟩ := Y14.four
            have xz := X14.frozen
            have yz := Y14.frozen
            have tu := LI12.b1.1
            have n1 : bT ≠ bt := by have := OLD.out.2.1; have := HS7.out; omega
            have n2 : bT ≠ bu := by have := OLD.out.2.2.1; have := HS7.out; omega
            have n3 : bU ≠ bt := by have := OLD.out.2.1; have := HBU.out; omega
            have n4 : bU ≠ bu := by have := OLD.out.2.2.1; have := HBU.out; omega
            obtain ⟨am2, cm2, hme⟩ := hK.mn.os.sl
            subst hme
            clear T12 T13 T14 U12 U13 U14 X13 X14 Y13 Y14 M13 hne S13 k13 hK L712 L812 LI12 F12 hsv hbTv hbUv hmb
            go_wp2_with fail
            go_region
            go_wp2_with fail
            go_roundg (gk - 1)
            case measure => have := Hkg.out; omega
            case rel => exact ⟨k + 1, _, rfl, by simp, by have := Hkg.out; omega, by have := Hlt2.out; omega, Nat.zero_le 4097, ⟨_, _, _, _, _, _, _, _, _, HL15.out⟩, HF15.out⟩
          · have z3 : (kind == 3) = false := by simpa using k3
            by_cases k4 : kind = 4
            · subst k4
              clear z1 z3 k1 k3
              go_wp2_with fail
              refine (checkR LI6.R).mono ?_
              rintro v' w7 ⟨rfl, f7⟩
              have LI7 := LI6.same f7
              have F7 := F6.trans f7 (fun _ _ h => h)
              go_wp2_with fail
              go_roundg (gk - 1)
              case measure => have := Hkg.out; omega
              case rel => exact ⟨k + 1, txt, rfl, by simp, by have := Hkg.out; omega, by have := Hlt2.out; omega, htx, ⟨_, _, _, _, _, _, _, _, _, LI7⟩, F7⟩
            · have z4 : (kind == 4) = false := by simpa using k4
              clear k1 k3 k4
              go_wp2_with fail
              go_roundg (gk - 1)
              case measure => have := Hkg.out; omega
              case rel => exact ⟨k + 1, txt, rfl, by simp, by have := Hkg.out; omega, by have := Hlt2.out; omega, htx, ⟨_, _, _, _, _, _, _, _, _, LI6⟩, F6⟩
      · have zlt : decide ((k : Int) < (n : Int)) = true := decide_eq_true (by omega)
        have zn : ¬ ((n : Int) < 4398046511104) := by omega
        go_wp2_with fail
        exact bodyPost_ret (v := .tuple #[.int .i64 (-1), .int .i64 4398046511104]) (by simp [results, Try.results9, go_sem]) rfl ⟨⟨_, rfl⟩, hfr⟩
    · have zlt : decide ((k : Int) < (n : Int)) = false := decide_eq_false (by omega)
      by_cases hn : (n : Int) < 4398046511104
      · go_wp2_with fail
        exact bodyPost_ret (v := .tuple #[.int .i64 (-1), .int .i64 n]) (by simp [results, Try.results9, go_sem]) rfl ⟨⟨_, rfl⟩, hfr⟩
      · go_wp2_with fail
        exact bodyPost_ret (v := .tuple #[.int .i64 (-1), .int .i64 4398046511104]) (by simp [results, Try.results9, go_sem]) rfl ⟨⟨_, rfl⟩, hfr⟩
end Go.Proofs.Qxb6500280a
