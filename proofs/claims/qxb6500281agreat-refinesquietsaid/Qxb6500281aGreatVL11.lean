/- The law: the walk (written by genVL10.py). -/
import Derived.Test.Qxb6500281aGreatVL9
import Derived.Deep.CutRange
namespace Go.Proofs.Qxb6500281aGreat
open Go Go.RowKit

private theorem same1 {lo : Nat} {w w' : World} {A : Va} {m hm b6 b11 b12 : Nat} {idle : Bool} {inv mv : Value} {S : HS} {s : Int} {t : Nat} {cv iv : Value} {M : MS} {sm tm : Int} {O : Nat → Prop} {er po en rt fu : Int} {L : List Int} {v1 v2 : Value} {nm : Nat} {f : Nat → Value} {I : List Int} {κ : Nat → Nat} (H : Op1 lo w A m hm b6 b11 b12 idle inv mv S s t cv iv M sm tm O er po en rt fu L v1 v2 nm f I κ) (k : Fr (fun _ => False) w w') : Op1 lo w' A m hm b6 b11 b12 idle inv mv S s t cv iv M sm tm O er po en rt fu L v1 v2 nm f I κ :=
  ⟨H.R.same k, H.X.same k, H.mi, H.h24, H.hi, H.hn, H.kI.frame k (fun _ _ h => h), H.il, H.B6.frame k (fun h => h), H.B11.frame k (fun h => h), H.B12.frame k (fun h => h), H.k1.frame k (fun _ _ h => h), H.k2.frame k (fun _ _ h => h), H.le, H.mn.frame k (fun _ _ h => h), H.kq.grow k.size, H.ne⟩
private theorem past6 {lo : Nat} {w w1 : World} {A : Va} {m hm b6 b11 b12 : Nat} {idle : Bool} {inv mv : Value} (H : LW lo w A m hm b6 b11 b12 idle inv mv) (k : Fr (OnlyH A.h) w w1) : w1.cell? ⟨b6, 0, none⟩ = some (.pointer (some ⟨A.h, 0, none⟩)) ∧ b6 < w1.heap.size := by
  obtain ⟨S, s, t, cv, iv, M, sm, tm, O, er, po, en, rt, fu, L, v1, v2, nm, f, I, κ, H⟩ := H.opn
  have B := H.B6.frame k (fun e => by
    have h1 := H.kq.q8 b6 (.inl rfl)
    have h2 := H.kq.q1 A.h (.inl (.inr rfl))
    have e' : b6 = A.h := e
    rw [e'] at h1
    omega)
  exact ⟨B.cell (o := 0) (by omega), B.lt⟩
private def opC (k a b c : Int) (s t : ByteArray) (o : Nat) : Value := match o with | 0 => .int .i64 k | 1 => .int .i64 a | 2 => .int .i64 b | 3 => .int .i64 c | 4 => .string s | _ => .string t
set_option maxRecDepth 100000 in
set_option maxHeartbeats 1000000 in
private theorem joinG {w : World} (s t : ByteArray) (hs : s.size ≤ 4097) : Calls Tryz.prog 11 #[.string s, .string t, .int .i64 4096] w fun e w' => (∃ u : ByteArray, e = .returned (.string u) ∧ u.size ≤ 4097) ∧ w' = w := by
  by_cases h1 : s.size = 4097
  · have y1 : decide ((4097 : Int) - (s.size : Int) ≤ 0) = true := decide_eq_true (by omega)
    go_enter Tryz.func11, Tryz.ntmps11
    go_wp2_with fail
    go_ret
    exact ⟨⟨_, rfl, hs⟩, rfl⟩
  · have y1 : decide ((4097 : Int) - (s.size : Int) ≤ 0) = false := decide_eq_false (by omega)
    by_cases h2 : 4097 - s.size < t.size
    · have y2 : decide ((t.size : Int) > (4097 : Int) - (s.size : Int)) = true := decide_eq_true (by omega)
      have y3 : decide ((4097 : Int) - (s.size : Int) < (t.size : Int)) = true := decide_eq_true (by omega)
      go_enter Tryz.func11, Tryz.ntmps11
      go_wp2_with fail
      go_ret
      exact ⟨⟨_, rfl, by simp; omega⟩, rfl⟩
    · have y2 : decide ((t.size : Int) > (4097 : Int) - (s.size : Int)) = false := decide_eq_false (by omega)
      have y3 : decide ((4097 : Int) - (s.size : Int) < (t.size : Int)) = false := decide_eq_false (by omega)
      go_enter Tryz.func11, Tryz.ntmps11
      go_wp2_with fail
      go_ret
      exact ⟨⟨_, rfl, by simp; omega⟩, rfl⟩
private theorem farI {lo : Nat} {w : World} {A : Va} {m hm b6 b11 b12 : Nat} {idle : Bool} {inv mv : Value} (H : LW lo w A m hm b6 b11 b12 idle inv mv) : (∀ c, isB inv c → lo ≤ c) ∧ lo ≤ A.h := by
  obtain ⟨S, s, t, cv, iv, M, sm, tm, O, er, po, en, rt, fu, L, v1, v2, nm, f, I, κ, H⟩ := H.opn
  exact ⟨fun c hc => (H.kq.lo c (by rw [H.kq.q7 c hc]; decide)).1, (H.kq.lo A.h (by rw [H.kq.q1 _ (.inl (.inr rfl))]; decide)).1⟩
set_option maxRecDepth 100000 in
set_option maxHeartbeats 16000000 in
theorem walk_loud {w : World} {a : Option Addr} {n cap : Nat} (hs : ScrAt w a n) :
    Calls Tryz.prog 6 #[.slice a n cap, .bool false] w fun e w' => (∃ k, e = .returned (.tuple #[.int .i64 (-1), .int .i64 k])) ∧ Fr (fun _ => False) w w' := by
  go_enter Tryz.func6, Tryz.ntmps6
  go_wp2_with fail
  refine (groundF _).mono ?_
  rintro v w1 ⟨h, rfl, M1, hh, f1⟩
  have hl1 := HM.lt M1
  go_upto_region 2 with fail
  generalize hwA : World.alloc w1 _ = wA
  have BA : Blk wA w1.heap.size 1 (fun _ => .pointer (some ⟨h, 0, none⟩)) := by
    rw [← hwA]
    exact Blk.new w1 _ _ _ (fun o ho => by
      have ho : o < 1 := by simpa using ho
      obtain rfl : o = 0 := by omega
      rfl)
  have kA : Fr (fun _ => False) w1 wA := by rw [← hwA]; exact (Fr.refl _ _).alloc _
  have sA : wA.heap.size = w1.heap.size + 1 := by rw [← hwA]; simp [World.size_alloc]
  clear hwA
  have ca := BA.cell (o := 0) (by omega)
  have cl := BA.lt
  go_wp2_with fail
  refine (newF8 (h := h) wA).mono ?_
  rintro v w2 ⟨rfl, f2, s2, B2⟩
  clear ca cl
  go_wp2_with fail
  refine (newXF w2).mono ?_
  rintro v w3 ⟨m, hm, rfl, X3, hm1, hm2, f3⟩
  go_upto_region 9 with fail
  generalize hw4 : World.alloc (World.alloc w3 _) _ = w4
  have k4 : Fr (fun _ => False) w3 w4 := by rw [← hw4]; exact ((Fr.refl _ _).alloc _).alloc _
  have s4 : w4.heap.size = w3.heap.size + 2 := by rw [← hw4]; simp [World.size_alloc]
  have B11 : Blk w4 w3.heap.size 6 z6 := by rw [← hw4]; exact (box6_blk w3).alloc _
  have B12 : Blk w4 (w3.heap.size + 1) 6 z6 := by
    rw [← hw4]
    have := box6_blk (w3.alloc box6)
    rw [World.size_alloc] at this
    exact this
  clear hw4
  have z3 := f3.size
  have xl := X3.lt
  have k34 := f3.trans k4 (fun _ _ h => h)
  have k24 := f2.trans k34 (fun _ _ h => h)
  rw [sA] at B2
  have HL4 : Hid (LW w.heap.size w4 ⟨w1.heap.size + 1, h⟩ m hm w1.heap.size w3.heap.size (w3.heap.size + 1) true nilS nilS) := LW.init hh (((M1.frame kA (fun h => h)).frame k24 (fun h => h))) (B2.frame k34 (fun h => h)) (X3.same k4) (BA.frame k24 (fun h => h)) B11 B12 hl1 (by omega) (by omega) (by omega) xl.1 (xl.2 hm rfl) (by omega)
  have HF4 : Hid _ := (f1.trans kA (fun _ _ h => h)).trans k24 (fun _ _ h => h)
  clear M1 hh f1 hl1 BA kA f2 s2 B2 X3 hm1 hm2 f3 k4 s4 B11 B12 z3 xl k34 k24
  clear sA
  generalize w1.heap.size = b6 at *
  generalize hb12 : w3.heap.size + 1 = b12 at *
  generalize w3.heap.size = b11 at *
  clear hb12
  have qs := HL4.out.sound
  obtain ⟨cc6, ll6⟩ := HL4.out.cell6
  simp only at qs cc6
  go_wp2_with fail
  refine qs.mono ?_
  rintro v w5 ⟨rfl, k5⟩
  have HL5 : Hid _ := HL4.out.same k5
  have HF5 : Hid _ := HF4.out.trans k5 (fun _ _ h => h)
  clear qs cc6 ll6 HL4 HF4
  have HL4 := HL5
  have HF4 := HF5
  clear HL5 HF5 k5
  go_wp2_with fail
  go_loopg [7, 9, 10, 13, 14, 15] n (fun g xv tv iv mv dv kv wr => ∃ (k : Nat) (txt : ByteArray) (cm : Nat) (idle : Bool), xv = .pointer (some ⟨cm, 0, none⟩) ∧ tv = .string txt ∧ dv = .bool idle ∧ kv = .int .i64 k ∧ k + g = n ∧ k ≤ 4398046511104 ∧ txt.size ≤ 4097 ∧ LW w.heap.size wr ⟨cm, h⟩ m hm b6 b11 b12 idle iv mv ∧ Fr (fun _ => False) w wr)
  case atStart => exact ⟨0, _, b6 + 1, true, rfl, rfl, rfl, rfl, by omega, by omega, Nat.zero_le 4097, HL4.out, HF4.out⟩
  case round =>
    obtain ⟨k, txt, cm, idle, rfl, rfl, rfl, rfl, hkg, hk42, htx, LJ, hfr⟩ := hrel
    obtain ⟨⟨ia, ni, ic, rfl, hni⟩, ⟨ma, nmv, mc, rfl, hnm⟩⟩ := LJ.slices
    have Hkg : Hid _ := hkg
    have Hk42 : Hid _ := hk42
    have hkb : (k : Int) < 140737488355328 := by omega
    clear hkg hk42 HL4 HF4
    by_cases hlt : k < n
    · by_cases hlt2 : (k : Int) < 4398046511104
      · rcases hs with h0 | ⟨b, off, rfl, hb, hcells⟩
        · exact absurd hlt (by omega)
        have Hlt2 : Hid _ := hlt2
        have zlt : decide ((k : Int) < (n : Int)) = true := decide_eq_true (by omega)
        obtain ⟨kind, a', b', c', s, t, ha', c0, c1, c2, c3, c4, c5⟩ := hcells k hlt
        rw [← hfr.cell (p := ⟨b, off + k * 6, none⟩) hb (by simp)] at c0
        rw [← hfr.cell (p := ⟨b, off + k * 6 + 1, none⟩) hb (by simp)] at c1
        rw [← hfr.cell (p := ⟨b, off + k * 6 + 2, none⟩) hb (by simp)] at c2
        rw [← hfr.cell (p := ⟨b, off + k * 6 + 3, none⟩) hb (by simp)] at c3
        rw [← hfr.cell (p := ⟨b, off + k * 6 + 4, none⟩) hb (by simp)] at c4
        rw [← hfr.cell (p := ⟨b, off + k * 6 + 5, none⟩) hb (by simp)] at c5
        have hbw : b < wr.heap.size := Nat.lt_of_lt_of_le hb hfr.size
        have hlo : w.heap.size ≤ wr.heap.size := hfr.size
        clear hcells
        go_upto_region 15 with fail
        generalize hw6 : World.alloc wr _ = w6
        have kA : Fr (fun _ => False) wr w6 := by rw [← hw6]; exact (Fr.refl _ _).alloc _
        have s6 : w6.heap.size = wr.heap.size + 1 := by rw [← hw6]; simp [World.size_alloc]
        have B16 : Blk w6 wr.heap.size 6 (opC kind a' b' c' s t) := by
          rw [← hw6]
          exact Blk.new wr _ _ _ (fun o ho => by rcases lt6 (show o < 6 from ho) with rfl | rfl | rfl | rfl | rfl | rfl <;> rfl)
        have g0 := B16.cell (o := 0) (by omega)
        have g1 := B16.cell (o := 1) (by omega)
        have g4 := B16.cell (o := 4) (by omega)
        simp only [opC] at g0 g1 g4
        have gl := B16.lt
        have HL6 : Hid _ := LJ.same kA
        have HF6 : Hid _ := hfr.trans kA (fun _ _ h => h)
        have HB : Hid _ := And.intro B16 (And.intro kA (And.intro s6 (And.intro LJ hlo)))
        clear hw6 kA s6 B16 LJ hfr c0 c1 c2 c3 c4 c5 hbw hlo zlt hlt2
        generalize hb16 : wr.heap.size = b16 at *
        have Hb16 : Hid _ := hb16
        clear hb16
        by_cases k1 : kind = 1
        · subst k1
          have qj := joinG (w := w6) txt s htx
          go_wp2_with fail
          refine qj.mono ?_
          rintro v' w7 ⟨⟨tx2, rfl, htx2⟩, e7⟩
          subst w7
          clear qj
          have qs := HL6.out.sound
          obtain ⟨cc6, ll6⟩ := HL6.out.cell6
          simp only at qs cc6
          go_wp2_with fail
          refine qs.mono ?_
          rintro v' wz ⟨rfl, kz⟩
          clear qs cc6 ll6
          go_wp2_with fail
          go_roundg (gk - 1)
          case measure => have := Hkg.out; omega
          case rel => exact ⟨k + 1, tx2, cm, idle, rfl, rfl, rfl, by simp, by have := Hkg.out; omega, by have := Hlt2.out; omega, htx2, (HL6.out.same kz), (HF6.out.trans kz (fun _ _ h => h))⟩
        have z1 : (kind == 1) = false := by simpa using k1
        by_cases k2 : kind = 2
        · subst k2
          by_cases hle : ni ≤ 128
          · have zl : decide ((ni : Int) ≤ 128) = true := decide_eq_true (by omega)
            have kB := (Fr.refl (fun _ => False) w6).alloc (.cells #[.int .i64 a'] 3)
            have hxp : KiP (w6.alloc (.cells #[.int .i64 a'] 3)) w6.heap.size [a'] := KiP.one ((Blk.new w6 #[.int .i64 a'] 3 (fun _ => .int .i64 a') (fun o ho => by
              have ho : o < 1 := by simpa using ho
              obtain rfl : o = 0 := by omega
              rfl)).cell (by simp))
            obtain ⟨I, hI, hIl⟩ : ∃ I, KiAt (w6.alloc (.cells #[.int .i64 a'] 3)) (.slice ia ni ic) I ∧ I.length = ni := by
              obtain ⟨S, s, t, cv, iv, M, sm, tm, O, er, po, en, rt, fu, L, v1, v2, nm, f, I, κ, H⟩ := HL6.out.opn
              refine ⟨I, H.kI.frame kB (fun _ _ h => h), ?_⟩
              obtain ⟨a, c, e, _⟩ := H.kI.sl
              cases e
              rfl
            have HkB : Hid _ := kB
            clear kB
            go_upto_region 45 with (
              at_builtin
              refine wpList_appendI (by rfl) _ _ (by rfl) _ _ [a'] _ 1 1 (by rfl) (by rfl) rfl hI hxp (.inr (by simp)) (by simp; omega) ?_
              intro v' w8 hc8 hb8 f8
              obtain ⟨va, vc, hvv, _⟩ := hc8.sl
              subst hvv
              have Hc8 : Hid _ := And.intro hc8 (And.intro hb8 f8)
              clear hc8 hb8 f8)
            obtain ⟨hc8, hb8, f8⟩ := Hc8.out
            have hl8 : (I ++ [a']).length ≤ 129 := by rw [List.length_append, hIl]; show ni + 1 ≤ 129; omega
            have HL8 : Hid (LW w.heap.size w8 ⟨cm, h⟩ m hm b6 b11 b12 idle (.slice va (ni + 1) vc) (.slice ma nmv mc)) := by
              have el : (I ++ [a']).length = ni + 1 := by rw [List.length_append, hIl]; rfl
              have key := (HL6.out.same HkB.out).inp (Nat.le_trans HF6.out.size HkB.out.size) f8 hc8 hl8 hb8
              rw [el] at key
              exact key
            have HF8 : Hid (Fr (fun _ => False) w w8) := (HF6.out.trans HkB.out (fun _ _ h => h)).trans f8 (fun c hc h => by have h1 := (farI HL6.out).1 c h; omega)
            clear hc8 hb8 f8 hI hxp
            have qs := HL8.out.sound
            obtain ⟨cc6, ll6⟩ := HL8.out.cell6
            simp only at qs cc6
            go_wp2_with fail
            refine qs.mono ?_
            rintro v' wz ⟨rfl, kz⟩
            clear qs cc6 ll6
            go_wp2_with fail
            go_roundg (gk - 1)
            case measure => have := Hkg.out; omega
            case rel => exact ⟨k + 1, txt, cm, idle, rfl, rfl, rfl, by simp, by have := Hkg.out; omega, by have := Hlt2.out; omega, htx, (HL8.out.same kz), (HF8.out.trans kz (fun _ _ h => h))⟩
          · have zl : decide ((ni : Int) ≤ 128) = false := decide_eq_false (by omega)
            have qs := HL6.out.sound
            obtain ⟨cc6, ll6⟩ := HL6.out.cell6
            simp only at qs cc6
            go_wp2_with fail
            refine qs.mono ?_
            rintro v' wz ⟨rfl, kz⟩
            clear qs cc6 ll6
            go_wp2_with fail
            go_roundg (gk - 1)
            case measure => have := Hkg.out; omega
            case rel => exact ⟨k + 1, txt, cm, idle, rfl, rfl, rfl, by simp, by have := Hkg.out; omega, by have := Hlt2.out; omega, htx, (HL6.out.same kz), (HF6.out.trans kz (fun _ _ h => h))⟩
        have z2 : (kind == 2) = false := by simpa using k2
        by_cases k3 : kind = 3
        · subst k3
          clear z1 z2 k1 k2
          obtain ⟨B16, kA, s6, LJ, hlo⟩ := HB.out
          obtain ⟨S, s0, t0, cv, iv, M, sm, tm, O, er, po, en, rt, fu, L, v1, v2, nm', f, I, κ, HJ⟩ := LJ.opn
          have hκ : ∀ b, κ b ≠ 0 → b < b16 := fun b hb => by have h1 := (HJ.kq.lo b hb).2; have h2 := Hb16.out; omega
          have H6 := same1 HJ kA
          obtain ⟨e1, e2, e3, ev1⟩ := H6.k1.one
          obtain ⟨e4, e5, e6, ev2⟩ := H6.k2.one
          subst ev1 ev2
          have hq := sameRunF (fuel := a') (I := I) (yv := .slice ia ni ic) H6.R H6.X H6.mi H6.h24 (fun c hc => by
            have h1 := H6.kq.q1 c hc
            exact ⟨fun e => by have := H6.kq.q2 c (.inl e); omega, fun e => by have := H6.kq.q2 c (.inr e); omega⟩)
          have hyd : ∀ b, isB (.slice ia ni ic) b → ¬ VQ ⟨cm, h⟩ cv iv b ∧ b ≠ m ∧ ¬ O b := fun b hb => by
            have h1 := H6.kq.q7 b hb
            exact ⟨fun e => by have := H6.kq.q1 b e; omega, fun e => by have := H6.kq.q2 b (.inl e); omega, fun e => by have := H6.kq.q2 b (.inr e); omega⟩
          have H6kI := H6.kI
          have H6il := H6.il
          have HO6 : Hid _ := And.intro H6 (And.intro hκ (And.intro B16 (And.intro s6 hlo)))
          have qj := joinG (w := w6) txt s htx
          clear B16 kA s6 LJ hlo HJ hκ H6
          go_wp2_with fail
          refine qj.mono ?_
          rintro v' w7 ⟨⟨code, rfl, hcode⟩, e7⟩
          subst w7
          clear qj
          replace hq := hq code hcode H6kI H6il hyd ha'
          clear H6kI H6il hyd
          try simp only at hq
          go_wp2_with fail
          refine hq.mono ?_
          rintro v' w7 ⟨er', po', en', rt', fu', L', v1', v2', v3', n3, S', s', t', cv', iv', M', sm', tm', O', rfl, T⟩
          clear hq
          obtain ⟨x1, y1, z1', ex1⟩ := T.k1.one
          obtain ⟨x2, y2, z2', ex2⟩ := T.k2.one
          obtain ⟨x3, y3, z3', ex3⟩ := T.k3.one
          subst ex1 ex2 ex3
          have HT : Hid _ := T
          clear T
          simp only [resV]
          go_upto_region 24 with fail
          generalize hw8 : World.alloc (World.alloc w7 _) _ = w8
          have k8 : Fr (fun _ => False) w7 w8 := by rw [← hw8]; exact ((Fr.refl _ _).alloc _).alloc _
          have s8 : w8.heap.size = w7.heap.size + 2 := by rw [← hw8]; simp [World.size_alloc]
          have B18 : Blk w8 w7.heap.size 6 (c6 (.int .i64 er') (.int .i64 po') (.int .i64 en') (.int .i64 rt') (.slice x1 y1 z1') (.int .i64 fu')) := by
            rw [← hw8]
            exact (Blk.new w7 _ _ _ (fun o ho => by rcases lt6 (show o < 6 from ho) with rfl | rfl | rfl | rfl | rfl | rfl <;> rfl)).alloc _
          have B19 : Blk w8 (w7.heap.size + 1) 6 (c6 (.int .i64 er') (.int .i64 po') (.int .i64 en') (.int .i64 rt') (.slice x2 y2 z2') (.int .i64 fu')) := by
            rw [← hw8]
            have hz : ∀ (o : Obj), (w7.alloc o).heap.size = w7.heap.size + 1 := fun o => by simp [World.size_alloc]
            have key := Blk.new (w7.alloc (.cells #[.int .i64 er', .int .i64 po', .int .i64 en', .int .i64 rt', .slice x1 y1 z1', .int .i64 fu'] 38)) #[.int .i64 er', .int .i64 po', .int .i64 en', .int .i64 rt', .slice x2 y2 z2', .int .i64 fu'] 38 (c6 (.int .i64 er') (.int .i64 po') (.int .i64 en') (.int .i64 rt') (.slice x2 y2 z2') (.int .i64 fu')) (fun o ho => by rcases lt6 (show o < 6 from ho) with rfl | rfl | rfl | rfl | rfl | rfl <;> rfl)
            rw [hz] at key
            exact key
          clear hw8
          obtain ⟨o1, o2, omn, oB6, oB11, oB12⟩ := HO6.out.1.at1 HT.out k8
          have HS8 : Hid _ := And.intro k8 (And.intro s8 (And.intro B18 (And.intro B19 (And.intro o1 (And.intro o2 (And.intro omn (And.intro oB11 oB12)))))))
          have q26 := sameResultF (er := er) (po := po) (en := en) (rt := rt) (fu := fu) o1 o2 (by have := HO6.out.1.le; omega)
          simp only [resV] at q26
          have p0 := oB11.cell (o := 0) (by omega)
          have p1 := oB11.cell (o := 1) (by omega)
          have p2 := oB11.cell (o := 2) (by omega)
          have p3 := oB11.cell (o := 3) (by omega)
          have p4 := oB11.cell (o := 4) (by omega)
          have p5 := oB11.cell (o := 5) (by omega)
          simp only [c6] at p0 p1 p2 p3 p4 p5
          have pl := oB11.lt
          have q0 := oB12.cell (o := 0) (by omega)
          have q1 := oB12.cell (o := 1) (by omega)
          have q2 := oB12.cell (o := 2) (by omega)
          have q3 := oB12.cell (o := 3) (by omega)
          have q4 := oB12.cell (o := 4) (by omega)
          have q5 := oB12.cell (o := 5) (by omega)
          simp only [c6] at q0 q1 q2 q3 q4 q5
          have ql := oB12.lt
          clear k8 s8 B18 B19 o1 o2 omn oB6 oB11 oB12
          go_wp2_with fail
          refine q26.mono ?_
          rintro v' w9 ⟨rfl, k9⟩
          clear q26
          clear p0 p1 p2 p3 p4 p5 pl q0 q1 q2 q3 q4 q5 ql
          obtain ⟨k8, s8, B18, B19, o1, o2, omn, oB11, oB12⟩ := HS8.out
          have mn9 := omn.frame k9 (fun _ _ h => h)
          have q28 := untouchedF mn9
          have o19 := o1.frame k9 (fun _ _ h => h)
          have q30 := spoilF o19 (by have := HO6.out.1.le; omega)
          have c11 := (oB11.frame k9 (fun h => h)).cell (o := 4) (by omega)
          simp only [c6] at c11
          have c11l := (oB11.frame k9 (fun h => h)).lt
          have H9 : Hid _ := And.intro k9 mn9
          clear k8 s8 B18 B19 o1 o2 omn oB11 oB12 k9 mn9 o19
          go_wp2_with fail
          refine q28.mono ?_
          rintro v' w9 ⟨rfl, rfl⟩
          clear q28
          go_wp2_with fail
          refine q30.mono ?_
          rintro v' w10 ⟨rfl, ks, k10⟩
          clear q30 c11 c11l
          obtain ⟨k8, s8, B18, B19, o1, o2, omn, oB11, oB12⟩ := HS8.out
          obtain ⟨k9, mn9⟩ := H9.out
          have kq := HO6.out.1.kq
          have mn10 := mn9.frame k10 (fun c hc e => by
            have h3 := kq.q3 c e
            rcases hc with hc | ⟨j, hj, hc⟩
            · have := kq.q5 c hc; omega
            · have := kq.q6 j hj c hc; omega)
          have hne1 : ∀ c, isB (.slice ma nmv mc) c → ¬ isB (.slice e1 e2 e3) c ∧ ∀ j, j < nm' → ¬ isB (f j) c := fun c hc => by
            have h5 := kq.q5 c hc
            exact ⟨fun e => by have := kq.q3 c e; omega, fun j hj e => by have := kq.q6 j hj c e; omega⟩
          have q31 := keepF mn10 ks (by have := HO6.out.1.le; omega) hne1
          have n11 : ¬ isB (.slice e1 e2 e3) b11 := fun e => by have h3 := kq.q3 b11 e; have h8 := kq.q8 b11 (.inr (.inl rfl)); omega
          have c11 := ((oB11.frame k9 (fun h => h)).frame k10 n11).cell (o := 4) (by omega)
          simp only [c6] at c11
          have c11l := ((oB11.frame k9 (fun h => h)).frame k10 n11).lt
          have H10 : Hid _ := And.intro ks (And.intro k10 (And.intro mn10 hne1))
          clear k8 s8 B18 B19 o1 o2 omn oB11 oB12 k9 mn9 mn10 hne1 n11 kq ks k10
          go_wp2_with fail
          refine q31.mono ?_
          rintro v' w11 ⟨mv1, n1, f1, rfl, K1⟩
          clear q31 c11 c11l
          obtain ⟨k8, s8, B18, B19, o1, o2, omn, oB11, oB12⟩ := HS8.out
          obtain ⟨k9, mn9⟩ := H9.out
          obtain ⟨ks, k10, mn10, hne1⟩ := H10.out
          have kq := HO6.out.1.kq
          have hκ := HO6.out.2.1
          have s6 := HO6.out.2.2.2.1
          have T := HT.out
          obtain ⟨nR, nM, a1, a2, a3, a4, a5, a6, a7⟩ := T.ap
          have t1 := T.fr.size
          have t2 := k8.size
          have t3 := k9.size
          have t4 := k10.size
          have t5 := K1.fr.size
          have v1l : ∀ b, isB (.slice e1 e2 e3) b → b < b16 := fun b hb => hκ b (by rw [kq.q3 b hb]; decide)
          have mvl : ∀ b, isB (.slice ma nmv mc) b → b < b16 := fun b hb => hκ b (by rw [kq.q5 b hb]; decide)
          have v3l : ∀ b, isB (.slice x3 y3 z3') b → b < w7.heap.size := fun b hb => T.k3.bk hb
          have k3' : KiAt w11 (.slice x3 y3 z3') (List.replicate n3 stmp) := (((T.k3.frame k8 (fun _ _ h => h)).frame k9 (fun _ _ h => h)).frame k10 (fun b hb e => by have := (a3 b hb).1; have := v1l b e; omega)).frame K1.fr (fun b hb e => by have := (a3 b hb).1; have := mvl b e; omega)
          have hne2 : ∀ c, isB mv1 c → ¬ isB (.slice x3 y3 z3') c ∧ ∀ j, j < n1 → ¬ isB (f1 j) c := fun c hc => by
            rcases K1.bk c hc with g | g
            · refine ⟨fun e => by have := v3l c e; omega, fun j hj e => ?_⟩
              rcases K1.of j hj with q | ⟨i, hi, q⟩
              · rw [q] at e; have := v1l c e; omega
              · rw [q] at e; have := hκ c (by rw [kq.q6 i hi c e]; decide); omega
            · have h5 := kq.q5 c g
              refine ⟨fun e => by have := (a3 c e).1; have := mvl c g; omega, fun j hj e => ?_⟩
              rcases K1.of j hj with q | ⟨i, hi, q⟩
              · rw [q] at e; have := kq.q3 c e; omega
              · rw [q] at e; have := kq.q6 i hi c e; omega
          have q32 := keepF K1.mn k3' T.n3 hne2
          obtain ⟨ma1, mc1, em1⟩ := K1.mn.os.sl
          subst em1
          have H11 : Hid _ := K1
          clear k8 s8 B18 B19 o1 o2 omn oB11 oB12 k9 mn9 ks k10 mn10 hne1 kq hκ s6 T a1 a2 a3 a4 a5 a6 a7 t1 t2 t3 t4 t5 v1l mvl v3l k3' hne2 K1
          go_wp2_with fail
          refine q32.mono ?_
          rintro v' w12 ⟨mv2, n2, f2, rfl, K2⟩
          clear q32
          obtain ⟨ma2, mc2, em2⟩ := K2.mn.os.sl
          subst em2
          obtain ⟨k8, s8, B18, B19, o1, o2, omn, oB11, oB12⟩ := HS8.out
          obtain ⟨k9, mn9⟩ := H9.out
          obtain ⟨ks, k10, mn10, hne1⟩ := H10.out
          have K1 := H11.out
          have kq := HO6.out.1.kq
          have hκ := HO6.out.2.1
          have B16 := HO6.out.2.2.1
          have s6 := HO6.out.2.2.2.1
          have T := HT.out
          have t1 := T.fr.size
          have t2 := k8.size
          have t3 := k9.size
          have t4 := k10.size
          have t5 := K1.fr.size
          have t6 := K2.fr.size
          have v1l : ∀ b, isB (.slice e1 e2 e3) b → b < b16 := fun b hb => hκ b (by rw [kq.q3 b hb]; decide)
          have mvl : ∀ b, isB (.slice ma nmv mc) b → b < b16 := fun b hb => hκ b (by rw [kq.q5 b hb]; decide)
          have key : ∀ {b q : Nat} {g : Nat → Value}, Blk w8 b q g → (κ b = 8 ∨ b16 ≤ b) → b < w8.heap.size → Blk w12 b q g := fun {b q g} hB hk hl => by
            have n1' : ¬ isB (.slice e1 e2 e3) b := fun e => by have := v1l b e; have := kq.q3 b e; omega
            have n2' : ¬ isB (.slice ma nmv mc) b := fun e => by have := mvl b e; have := kq.q5 b e; omega
            refine (((hB.frame k9 (fun h => h)).frame k10 n1').frame K1.fr n2').frame K2.fr (fun e => ?_)
            rcases K1.bk b e with g | g
            · omega
            · exact n2' g
          have h8' : ∀ b, b = b11 ∨ b = b12 → κ b = 8 ∧ b < b16 := fun b hb => by
            have h8 := kq.q8 b (.inr hb)
            exact ⟨h8, hκ b (by omega)⟩
          have j11 := key oB11 (.inl (h8' b11 (.inl rfl)).1) oB11.lt
          have j12 := key oB12 (.inl (h8' b12 (.inr rfl)).1) oB12.lt
          have j18 := key B18 (.inr (by omega)) (by omega)
          have j19 := key B19 (.inr (by omega)) (by omega)
          have n16 : ¬ (VQ ⟨cm, h⟩ cv iv b16 ∨ b16 = m ∨ O b16) := fun e => by
            have hk : κ b16 ≠ 0 := e.elim (fun e => by rw [kq.q1 _ e]; decide) (fun e => by rw [kq.q2 _ e]; decide)
            have := hκ b16 hk
            have := Hb16.out
            omega
          have j16 := key ((B16.frame T.fr n16).frame k8 (fun h => h)) (.inr (by have := Hb16.out; omega)) (by have := Hb16.out; omega)
          have ne := HO6.out.1.ne.2.2
          have b1 := (h8' b11 (.inl rfl)).2
          have b2 := (h8' b12 (.inr rfl)).2
          have HW : Hid _ := And.intro j11 (And.intro j12 (And.intro j18 (And.intro j19 (And.intro j16 (And.intro K2 (And.intro ne (And.intro b1 (And.intro b2 (And.intro (show w12.heap.size ≥ w7.heap.size by omega) (And.intro t1 s6))))))))))
          have p0 := j11.cell (o := 0) (by omega)
          have p1 := j11.cell (o := 1) (by omega)
          have p2 := j11.cell (o := 2) (by omega)
          have p3 := j11.cell (o := 3) (by omega)
          have p4 := j11.cell (o := 4) (by omega)
          have p5 := j11.cell (o := 5) (by omega)
          simp only [c6] at p0 p1 p2 p3 p4 p5
          have pl := j11.lt
          have pz := j11.frozen
          have q0 := j12.cell (o := 0) (by omega)
          have q1 := j12.cell (o := 1) (by omega)
          have q2 := j12.cell (o := 2) (by omega)
          have q3 := j12.cell (o := 3) (by omega)
          have q4 := j12.cell (o := 4) (by omega)
          have q5 := j12.cell (o := 5) (by omega)
          simp only [c6] at q0 q1 q2 q3 q4 q5
          have ql := j12.lt
          have qz := j12.frozen
          have r0 := j18.cell (o := 0) (by omega)
          have r1 := j18.cell (o := 1) (by omega)
          have r2 := j18.cell (o := 2) (by omega)
          have r3 := j18.cell (o := 3) (by omega)
          have r4 := j18.cell (o := 4) (by omega)
          have r5 := j18.cell (o := 5) (by omega)
          simp only [c6] at r0 r1 r2 r3 r4 r5
          have rl := j18.lt
          have u0 := j19.cell (o := 0) (by omega)
          have u1 := j19.cell (o := 1) (by omega)
          have u2 := j19.cell (o := 2) (by omega)
          have u3 := j19.cell (o := 3) (by omega)
          have u4 := j19.cell (o := 4) (by omega)
          have u5 := j19.cell (o := 5) (by omega)
          simp only [c6] at u0 u1 u2 u3 u4 u5
          have ul := j19.lt
          have m1 : w7.heap.size ≠ b11 ∧ w7.heap.size ≠ b12 ∧ w7.heap.size + 1 ≠ b11 ∧ w7.heap.size + 1 ≠ b12 := by omega
          obtain ⟨m1, m2, m3, m4⟩ := m1
          clear k8 s8 B18 B19 o1 o2 omn oB11 oB12 k9 mn9 ks k10 mn10 hne1 K1 kq hκ B16 s6 T t1 t2 t3 t4 t5 t6 v1l mvl key h8' j11 j12 j18 j19 n16 j16 b1 b2 K2
          generalize hb18 : w7.heap.size = b18 at *
          have Hb18 : Hid _ := hb18
          clear hb18
          go_upto_region 33 with fail
          go_cut [] from 37 to 148 (fun wx => Fr (fun c => c = b11 ∨ c = b12) w12 wx ∧ Blk wx b11 6 (c6 (.int .i64 er') (.int .i64 po') (.int .i64 en') (.int .i64 rt') (.slice x1 y1 z1') (.int .i64 fu')) ∧ Blk wx b12 6 (c6 (.int .i64 er') (.int .i64 po') (.int .i64 en') (.int .i64 rt') (.slice x2 y2 z2') (.int .i64 fu')))
          case first =>
            have W1f := (Fr.refl (fun c => c = b11 ∨ c = b12) w12).set6 (b := b11) (fun _ => .inl rfl) (.int .i64 er') (.int .i64 po') (.int .i64 en') (.int .i64 rt') (.slice x1 y1 z1') (.int .i64 fu')
            have D11 := HW.out.1.set6 (.int .i64 er') (.int .i64 po') (.int .i64 en') (.int .i64 rt') (.slice x1 y1 z1') (.int .i64 fu')
            have W2f := W1f.set6 (b := b12) (fun _ => .inr rfl) (.int .i64 er') (.int .i64 po') (.int .i64 en') (.int .i64 rt') (.slice x2 y2 z2') (.int .i64 fu')
            have X2f := (Fr.refl (fun c => c = b12) (set6 w12 b11 (.int .i64 er') (.int .i64 po') (.int .i64 en') (.int .i64 rt') (.slice x1 y1 z1') (.int .i64 fu'))).set6 (b := b12) (fun _ => rfl) (.int .i64 er') (.int .i64 po') (.int .i64 en') (.int .i64 rt') (.slice x2 y2 z2') (.int .i64 fu')
            have X1f := (Fr.refl (fun c => c = b11) w12).set6 (b := b11) (fun _ => rfl) (.int .i64 er') (.int .i64 po') (.int .i64 en') (.int .i64 rt') (.slice x1 y1 z1') (.int .i64 fu')
            have E11 := (D11.frame X2f ne).drew
            have E12 := ((HW.out.2.1.frame X1f (fun e => ne e.symm)).set6 (.int .i64 er') (.int .i64 po') (.int .i64 en') (.int .i64 rt') (.slice x2 y2 z2') (.int .i64 fu')).drew
            have HQ : Hid _ := And.intro W2f.drew (And.intro E11 E12)
            unfold set6 at HQ
            clear W1f D11 W2f X2f X1f E11 E12
            refine wp_region_tree (.fork 0 (.fork 1 (.run [2, 3] .fin) 2 (.run [1, 3] .fin)) 1 (.run [0, 2, 3] .fin)) (by kernel_rfl) (by kernel_rfl) ?_
            simp only [wpTL, pick, List.filterMap_cons, List.filterMap_nil, List.getElem?_cons_zero, List.getElem?_cons_succ]
            refine ⟨?_, ?_⟩
            · go_wp2_with fail
              refine ⟨⟨?_, ?_⟩⟩
              · go_wp2_with fail
                refine ⟨?_⟩
                go_wp2_with fail
                refine ⟨?_⟩
                refine ⟨by kernel_rfl, ?_⟩
                go_wp2_with fail
                go_meet
                exact HQ.out
              · go_wp2_with fail
                refine ⟨?_⟩
                go_wp2_with fail
                refine ⟨?_⟩
                refine ⟨by kernel_rfl, ?_⟩
                go_wp2_with fail
                go_meet
                exact HQ.out
            · go_wp2_with fail
              refine ⟨?_⟩
              go_wp2_with fail
              refine ⟨?_⟩
              refine ⟨by kernel_rfl, ?_⟩
              go_wp2_with fail
              go_meet
              exact HQ.out
          case rest =>
            clear p0 p1 p2 p3 p4 p5 pl q0 q1 q2 q3 q4 q5 ql r0 r1 r2 r3 r4 r5 rl u0 u1 u2 u3 u4 u5 ul pz qz
            obtain ⟨k13, h11, h12⟩ := hcut
            obtain ⟨j11, j12, j18, j19, j16, K2, ne', b1, b2, tw, t1, s6⟩ := HW.out
            obtain ⟨k8, s8, B18, B19, o1, o2, omn, oB11, oB12⟩ := HS8.out
            obtain ⟨k9, mn9⟩ := H9.out
            obtain ⟨ks, k10, mn10, hne1⟩ := H10.out
            have K1 := H11.out
            have kq := HO6.out.1.kq
            have T := HT.out
            have lo' : ∀ {b q : Nat}, κ b = q → q ≠ 0 → w.heap.size ≤ b := fun {b q} h1 h2 => (kq.lo b (by omega)).1
            have Fw : Fr (fun _ => False) w wc := ((((((HF6.out.trans T.fr (fun c hc e => by
                rcases e with e | e
                · have := lo' (kq.q1 c e) (by omega); omega
                · have := lo' (kq.q2 c e) (by omega); omega)).trans k8 (fun _ _ h => h)).trans k9 (fun _ _ h => h)).trans k10 (fun c hc e => by have := lo' (kq.q3 c e) (by omega); omega)).trans K1.fr (fun c hc e => by have := lo' (kq.q5 c e) (by omega); omega)).trans K2.fr (fun c hc e => by
                  rcases K1.bk c e with g | g
                  · have := HF6.out.size; have := k8.size; have := k9.size; have := k10.size; have := T.fr.size; omega
                  · have := lo' (kq.q5 c g) (by omega); omega)).trans k13 (fun c hc e => by have := lo' (kq.q8 c (.inr e)) (by omega); omega)
            have d18 := (j18.frame k13 (fun e => by rcases e with e | e <;> omega)).cell (o := 0) (by omega)
            have d18l := (j18.frame k13 (fun e => by rcases e with e | e <;> omega)).lt
            have d16 := (j16.frame k13 (fun e => by rcases e with e | e <;> omega)).cell (o := 1) (by omega)
            have d16l := (j16.frame k13 (fun e => by rcases e with e | e <;> omega)).lt
            simp only [c6] at d18
            simp only [opC] at d16
            have HG : Hid (∀ idle' : Bool, (er' = 0 → idle' = decide (a' ≤ 0)) → (er' ≠ 0 → idle' = idle) → LW w.heap.size wc ⟨cm, h⟩ m hm b6 b11 b12 idle' nilS (.slice ma2 n2 mc2)) := fun idle' hi0 hi1 => HO6.out.1.go HF6.out.size T (k8.trans k9 (fun _ _ h => h)) k10 K1 K2 k13 h11 h12 hi0 hi1
            have HFw : Hid _ := Fw
            clear k13 h11 h12 j11 j12 j18 j19 j16 K2 ne' b1 b2 tw t1 s6 k8 s8 B18 B19 o1 o2 omn oB11 oB12 k9 mn9 ks k10 mn10 hne1 K1 kq T lo' Fw
            by_cases her : er' = 0
            · have HL13 : Hid _ := HG.out (decide (a' ≤ 0)) (fun _ => rfl) (fun h => absurd her h)
              rw [her] at d18
              clear HG her
              have qs := HL13.out.sound
              obtain ⟨cc6, ll6⟩ := HL13.out.cell6
              simp only at qs cc6
              go_wp2_with fail
              refine qs.mono ?_
              rintro v' wz ⟨rfl, kz⟩
              clear qs cc6 ll6
              go_wp2_with fail
              go_roundg (gk - 1)
              case measure => have := Hkg.out; omega
              case rel => exact ⟨k + 1, _, cm, decide (a' ≤ 0), rfl, rfl, rfl, by simp, by have := Hkg.out; omega, by have := Hlt2.out; omega, Nat.zero_le 4097, (HL13.out.same kz), (HFw.out.trans kz (fun _ _ h => h))⟩
            · have HL13 : Hid _ := HG.out idle (fun h => absurd h her) (fun _ => rfl)
              have ye : (er' == 0) = false := by simpa using her
              clear HG her
              have qs := HL13.out.sound
              obtain ⟨cc6, ll6⟩ := HL13.out.cell6
              simp only at qs cc6
              go_wp2_with fail
              refine qs.mono ?_
              rintro v' wz ⟨rfl, kz⟩
              clear qs cc6 ll6
              go_wp2_with fail
              go_roundg (gk - 1)
              case measure => have := Hkg.out; omega
              case rel => exact ⟨k + 1, _, cm, idle, rfl, rfl, rfl, by simp, by have := Hkg.out; omega, by have := Hlt2.out; omega, Nat.zero_le 4097, (HL13.out.same kz), (HFw.out.trans kz (fun _ _ h => h))⟩
        have z3 : (kind == 3) = false := by simpa using k3
        by_cases k4 : kind = 4
        · subst k4
          have q4 := HL6.out.sound
          obtain ⟨dd6, dl6⟩ := HL6.out.cell6
          simp only at q4 dd6
          go_wp2_with fail
          refine q4.mono ?_
          rintro v' w7 ⟨rfl, k7⟩
          have HL7 : Hid _ := HL6.out.same k7
          have HF7 : Hid _ := HF6.out.trans k7 (fun _ _ h => h)
          clear q4 dd6 dl6
          have qs := HL7.out.sound
          obtain ⟨cc6, ll6⟩ := HL7.out.cell6
          simp only at qs cc6
          go_wp2_with fail
          refine qs.mono ?_
          rintro v' wz ⟨rfl, kz⟩
          clear qs cc6 ll6
          go_wp2_with fail
          go_roundg (gk - 1)
          case measure => have := Hkg.out; omega
          case rel => exact ⟨k + 1, txt, cm, idle, rfl, rfl, rfl, by simp, by have := Hkg.out; omega, by have := Hlt2.out; omega, htx, (HL7.out.same kz), (HF7.out.trans kz (fun _ _ h => h))⟩
        have z4 : (kind == 4) = false := by simpa using k4
        by_cases k5 : kind = 5
        · subst k5
          obtain ⟨S0, hM0, ht0, hS0⟩ := HL6.out.pastN
          simp only at hM0
          have q5 := pastF hM0 ht0
          obtain ⟨dd6, dl6⟩ := HL6.out.cell6
          simp only at dd6
          clear hM0
          go_wp2_with fail
          refine q5.mono ?_
          rintro v' w7 ⟨rfl, hM7, k7⟩
          clear q5 dd6 dl6
          obtain ⟨dd6, dl6⟩ := past6 HL6.out k7
          simp only at dd6
          go_wp2_with fail
          refine (newF8 (h := h) w7).mono ?_
          rintro v' w8 ⟨rfl, k8, s8, B8⟩
          clear dd6 dl6
          have HL8 : Hid (LW w.heap.size w8 ⟨w7.heap.size, h⟩ m hm b6 b11 b12 true (.slice ia ni ic) (.slice ma nmv mc)) := HL6.out.fresh HF6.out.size k7 hM7 hS0 k8 rfl B8
          have HF8 : Hid (Fr (fun _ => False) w w8) := (HF6.out.trans k7 (fun c hc e => by have h1 : w.heap.size ≤ h := (farI HL6.out).2; have e' : c = h := e; omega)).trans k8 (fun _ _ h => h.elim)
          clear hM7 k7 k8 s8 B8 hS0
          generalize w7.heap.size = cN at *
          have qs := HL8.out.sound
          obtain ⟨cc6, ll6⟩ := HL8.out.cell6
          simp only at qs cc6
          go_wp2_with fail
          refine qs.mono ?_
          rintro v' wz ⟨rfl, kz⟩
          clear qs cc6 ll6
          go_wp2_with fail
          go_roundg (gk - 1)
          case measure => have := Hkg.out; omega
          case rel => exact ⟨k + 1, txt, cN, true, rfl, rfl, rfl, by simp, by have := Hkg.out; omega, by have := Hlt2.out; omega, htx, (HL8.out.same kz), (HF8.out.trans kz (fun _ _ h => h))⟩
        have z5 : (kind == 5) = false := by simpa using k5
        have qs := HL6.out.sound
        obtain ⟨cc6, ll6⟩ := HL6.out.cell6
        simp only at qs cc6
        go_wp2_with fail
        refine qs.mono ?_
        rintro v' wz ⟨rfl, kz⟩
        clear qs cc6 ll6
        go_wp2_with fail
        go_roundg (gk - 1)
        case measure => have := Hkg.out; omega
        case rel => exact ⟨k + 1, txt, cm, idle, rfl, rfl, rfl, by simp, by have := Hkg.out; omega, by have := Hlt2.out; omega, htx, (HL6.out.same kz), (HF6.out.trans kz (fun _ _ h => h))⟩
      · have zlt : decide ((k : Int) < (n : Int)) = true := decide_eq_true (by omega)
        have zn : ¬ ((n : Int) < 4398046511104) := by omega
        go_wp2_with fail
        exact bodyPost_ret (v := .tuple #[.int .i64 (-1), .int .i64 4398046511104]) (by simp [results, Tryz.results6, go_sem]) rfl ⟨⟨_, rfl⟩, hfr⟩
    · have zlt : decide ((k : Int) < (n : Int)) = false := decide_eq_false (by omega)
      by_cases hn : (n : Int) < 4398046511104
      · go_wp2_with fail
        exact bodyPost_ret (v := .tuple #[.int .i64 (-1), .int .i64 n]) (by simp [results, Tryz.results6, go_sem]) rfl ⟨⟨_, rfl⟩, hfr⟩
      · go_wp2_with fail
        exact bodyPost_ret (v := .tuple #[.int .i64 (-1), .int .i64 4398046511104]) (by simp [results, Tryz.results6, go_sem]) rfl ⟨⟨_, rfl⟩, hfr⟩
end Go.Proofs.Qxb6500281aGreat
