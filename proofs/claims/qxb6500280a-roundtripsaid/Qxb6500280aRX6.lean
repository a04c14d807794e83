/- RoundTripUpTo. -/
import Derived.Test.Qxb6500280aRX4
import Derived.Test.Qxb6500280aRX5
namespace Go.Proofs.Qxb6500280a
open Go Go.RowKit

set_option maxRecDepth 100000 in
set_option maxHeartbeats 4000000 in
theorem print0 (w : World) (er q : Int) : Calls Try.prog 15 #[treeV (.slice none 0 0) (-1) er q] w fun v w' => v = .returned (.string ⟨#[]⟩) ∧ Fr (fun _ => False) w w' := by
  have F0 : Hid (Fr (fun _ => False) w (w.alloc (box4v (.slice none 0 0) (-1) er q))) := (Fr.refl _ _).alloc _
  unfold treeV
  go_enter Try.func15, Try.ntmps15
  go_wp2_with fail
  go_loopg [3, 4, 5] 1 (fun g sv xv pv wr => sv = .string ⟨#[]⟩ ∧ xv = .int .i64 (-1) ∧ pv = .int .i64 (-1) ∧ Fr (fun _ => False) w wr)
  case atStart => exact ⟨rfl, rfl, rfl, F0.out⟩
  case round =>
    obtain ⟨rfl, rfl, rfl, hF⟩ := hrel
    go_wp2_with fail
    go_ret
    exact ⟨rfl, hF⟩
theorem fl_nil {fs : List Fnc} (h : flFs 0 fs = []) : fs = [] := by
  cases fs with
  | nil => rfl
  | cons f r =>
    have := congrArg List.length h
    rw [flFs_len] at this
    have := szF_pos f
    simp [szFs] at *
    omega
theorem printAny {w : World} {u : Value} {fs : List Fnc} {ns : List Nd} {er q : Int} (hn : NLV w u ns) (hg : Good fs) (hns : ns = flFs 0 fs) :
    Calls Try.prog 15 #[treeV u (hdF 0 fs) er q] w fun v w' => (∃ s : ByteArray, v = .returned (.string s) ∧ s.data.toList = prFs fs) ∧ Fr (fun _ => False) w w' := by
  rcases hn with ⟨rfl, h0⟩ | ⟨b, f, rfl, h1, h2, _⟩
  · obtain rfl : fs = [] := fl_nil (by rw [← hns, h0])
    refine (print0 w er q).mono ?_
    rintro v w' ⟨rfl, f1⟩
    exact ⟨⟨_, rfl, rfl⟩, f1⟩
  · exact printF ⟨f, h1, h2⟩ hg hns
/-- What the walk holds. -/
structure RTL (lo : Nat) (w : World) (p m : Nat) (O : Nat → Prop) : Prop where
  R : RIx w p O
  M : MIx w m
  o : ∀ c, O c → lo ≤ c
  n : ¬ O m
section
variable {lo : Nat} {w w' : World} {p m : Nat} {O O1 : Nat → Prop}
theorem RTL.same (h : RTL lo w p m O) (k : Fr (fun _ => False) w w') : RTL lo w' p m O := ⟨h.R.frame k (fun _ _ h => h), h.M.frame k (fun h => h), h.o, h.n⟩
theorem RTL.parse (h : RTL lo w p m O) (R1 : RIx w' p O1) (hO : ∀ c, O1 c → O c ∨ w.heap.size ≤ c) (k : Fr O w w') (hlo : lo ≤ w.heap.size) : RTL lo w' p m O1 := by
  refine ⟨R1, h.M.frame k h.n, fun c hc => ?_, fun hc => ?_⟩
  · rcases hO c hc with h1 | h1
    · exact h.o c h1
    · omega
  · rcases hO m hc with h1 | h1
    · exact h.n h1
    · have := h.M.lt
      omega
end
set_option maxRecDepth 100000 in
set_option maxHeartbeats 16000000 in
theorem tripUpTo {w : World} {a : Option Addr} {n cap : Nat} (hs : ScrAt w a n) :
    Calls Try.prog 8 #[.slice a n cap] w fun e w' => e = .returned (.int .i64 (-1)) ∧ Fr (fun _ => False) w w' := by
  go_enter Try.func8, Try.ntmps8
  go_wp2_with fail
  refine (groundF _).mono ?_
  rintro v w1 ⟨lx, bb, r, rfl, L1, f1, h1, h2⟩
  have L1' := L1.frame ((Fr.refl (fun _ => False) w1).alloc (.cells #[.pointer (some ⟨lx, 0, none⟩)] 29)) (fun h => h) (fun h => h)
  have f1' := f1.alloc (.cells #[.pointer (some ⟨lx, 0, none⟩)] 29)
  go_wp2_with fail
  refine (newR L1').mono ?_
  rintro v w2 ⟨p, rfl, R2, f2, hp⟩
  have F2 := f1'.trans f2 (fun _ _ h => h)
  go_wp2_with fail
  refine (newMP w2).mono ?_
  rintro v w3 ⟨m, rfl, M3, f3, hm⟩
  have F3 := F2.trans f3 (fun _ _ h => h)
  have R3 := R2.frame f3 (fun _ _ h => h)
  have RL0 : RTL w.heap.size w3 p m (fun c => c = lx ∨ c = bb ∨ ((w1.alloc (.cells #[.pointer (some ⟨lx, 0, none⟩)] 29)).heap.size ≤ c ∧ c < w2.heap.size)) := by
    have s1 := f1'.size
    have l2 : ∀ c, (c = lx ∨ c = bb ∨ ((w1.alloc (.cells #[.pointer (some ⟨lx, 0, none⟩)] 29)).heap.size ≤ c ∧ c < w2.heap.size)) → c < w2.heap.size := fun c hc => R2.lt hc
    refine ⟨R3, M3, fun c hc => ?_, fun hc => ?_⟩
    · rcases hc with rfl | rfl | hc <;> omega
    · have := l2 m hc
      omega
  obtain ⟨O0, hO0⟩ : ∃ O0 : Nat → Prop, O0 = (fun c => c = lx ∨ c = bb ∨ ((w1.alloc (.cells #[.pointer (some ⟨lx, 0, none⟩)] 29)).heap.size ≤ c ∧ c < w2.heap.size)) := ⟨_, rfl⟩
  rw [← hO0] at RL0
  have HRL : Hid (RTL _ _ _ _ _) := RL0
  have HF3 : Hid _ := F3
  clear RL0 F3 hO0 f1 f2 f3 f1' L1 L1' R2 R3 M3 F2 h1 h2 hp hm
  go_wp2_with fail
  go_loopg [6, 7] n (fun g tv kv wr => ∃ (k : Nat) (txt : ByteArray), tv = .string txt ∧ kv = .int .i64 k ∧ k + g = n ∧ k ≤ 4398046511104 ∧ txt.size ≤ 4097 ∧ (∃ O, RTL w.heap.size wr p m O) ∧ Fr (fun _ => False) w wr)
  case atStart => exact ⟨0, _, rfl, rfl, by omega, by omega, Nat.zero_le 4097, ⟨_, HRL.out⟩, HF3.out⟩
  case round =>
    obtain ⟨k, txt, rfl, rfl, hkg, hk42, htx, ⟨O, LJ⟩, hfr⟩ := hrel
    have Hkg : Hid _ := hkg
    have Hk42 : Hid _ := hk42
    have hkb : (k : Int) < 140737488355328 := by omega
    clear hkg hk42 HRL HF3
    by_cases hlt : k < n
    · by_cases hlt2 : (k : Int) < 4398046511104
      · rcases hs with h0 | ⟨b, off, rfl, hb, hcells⟩
        · exact absurd hlt (by omega)
        have Hlt2 : Hid _ := hlt2
        have zlt : decide ((k : Int) < (n : Int)) = true := decide_eq_true (by omega)
        obtain ⟨kind, a', b', c', s, t, c0, c1, c2, c3, c4, c5⟩ := hcells k hlt
        rw [← hfr.cell (p := ⟨b, off + k * 6, none⟩) hb (by simp)] at c0
        rw [← hfr.cell (p := ⟨b, off + k * 6 + 1, none⟩) hb (by simp)] at c1
        rw [← hfr.cell (p := ⟨b, off + k * 6 + 2, none⟩) hb (by simp)] at c2
        rw [← hfr.cell (p := ⟨b, off + k * 6 + 3, none⟩) hb (by simp)] at c3
        rw [← hfr.cell (p := ⟨b, off + k * 6 + 4, none⟩) hb (by simp)] at c4
        rw [← hfr.cell (p := ⟨b, off + k * 6 + 5, none⟩) hb (by simp)] at c5
        have hbw : b < wr.heap.size := Nat.lt_of_lt_of_le hb hfr.size
        clear hcells
        have kA := (Fr.refl (fun _ => False) wr).alloc (.cells #[.int .i64 kind, .int .i64 a', .int .i64 b', .int .i64 c', .string s, .string t] 36)
        have L6 := LJ.same kA
        have F6 := hfr.trans kA (fun _ _ h => h)
        by_cases k1 : kind = 1
        · subst k1
          go_wp2_with fail
          refine (joinL txt s htx _).mono ?_
          rintro v' w7 ⟨⟨tx2, rfl, htx2⟩, e7⟩
          subst w7
          go_wp2_with fail
          go_roundg (gk - 1)
          case measure => have := Hkg.out; omega
          case rel => exact ⟨k + 1, tx2, rfl, by simp, by have := Hkg.out; omega, by have := Hlt2.out; omega, htx2, ⟨_, L6⟩, F6⟩
        · have z1 : (kind == 1) = false := by simpa using k1
          by_cases k3 : kind = 3
          · subst k3
            have hlo6 : w.heap.size ≤ (wr.alloc (.cells #[.int .i64 3, .int .i64 a', .int .i64 b', .int .i64 c', .string s, .string t] 36)).heap.size := F6.size
            clear z1 k1
            go_wp2_with fail
            refine (joinL txt s htx _).mono ?_
            rintro v' w7 ⟨⟨src, rfl, hsrc⟩, e7⟩
            subst w7
            go_wp2_with fail
            refine (parseMM L6.M src).mono ?_
            rintro v' w8 ⟨u8, ns8, r8, e8, q8, rfl, k8, N8, hu8, A8⟩
            have L8 := L6.same k8
            have F8 := F6.trans k8 (fun _ _ h => h)
            have s68 := k8.size
            have HU8 : Hid (∀ c, isBlk u8 c → ¬ O c) := fun c hc ho => by
              have g1 := hu8 c hc
              have g2 := L6.R.lt ho
              omega
            have Hlo8 : Hid (w.heap.size ≤ w8.heap.size) := F8.size
            obtain ⟨a8, hu8e⟩ := N8.sl
            subst hu8e
            have kC := (Fr.refl (fun _ => False) w8).alloc (box4v (.slice a8 ns8.length ns8.length) r8 e8 q8)
            have L9 := L8.same kC
            have F9 := F8.trans kC (fun _ _ h => h)
            have N9 := N8.frame kC (fun _ _ h => h)
            have T9 := trC_blk w8 (.slice a8 ns8.length ns8.length) r8 e8 q8
            have HO8 : Hid (∀ c, O c → c < w8.heap.size) := fun c hc => L8.R.lt hc
            clear L6 F6 kA L8 F8 N8 k8 hu8 kC c0 c1 c2 c3 c4 c5 hlo6 s68 LJ hfr
            have HL9 : Hid _ := L9
            have HF9 : Hid _ := F9
            have HN9 : Hid _ := N9
            have HT9 : Hid _ := T9
            have HA8 : Hid _ := A8
            clear L9 F9 N9 T9 A8
            by_cases he : e8 = 0
            · subst he
              obtain ⟨fs, hg, hns, hrt⟩ := Ans.good HA8.out rfl
              have Hg : Hid _ := hg
              have Hns : Hid _ := hns
              subst hrt
              have hl8 : ns8.length ≤ 200 := by rw [hns, flFs_len]; exact hg.sz
              have Hl8 : Hid _ := hl8
              obtain ⟨rt, hrt⟩ : ∃ rt, rt = hdF 0 fs := ⟨_, rfl⟩
              have Hrt : Hid _ := hrt
              have Hpr := fun w' (hn : NLV w' (.slice a8 ns8.length ns8.length) ns8) => printAny (er := 0) (q := q8) hn hg hns
              rw [← hrt] at HL9 HF9 HN9 HT9 HA8 Hpr ⊢
              have HPr : Hid _ := Hpr
              clear hg hns hrt Hpr
              unfold treeV
              go_wp2_with fail
              refine (HPr.out _ HN9.out).mono ?_
              rintro v' w10 ⟨⟨ps, rfl, hps⟩, k10⟩
              have Hps : Hid _ := hps
              have hpz : ps.size ≤ 20000 := sz_str hps (by have := len_Fs fs Hg.out.nm; have := Hg.out.sz; omega)
              have L10 : Hid _ := HL9.out.same k10
              have F10 : Hid _ := HF9.out.trans k10 (fun _ _ h => h)
              have N10 : Hid _ := NLV.frame HN9.out k10 (fun _ _ h => h)
              have T10 : Hid _ := Blk.frame HT9.out k10 (fun h => h)
              have Hlo10 : Hid (w.heap.size ≤ w10.heap.size) := F10.out.size
              clear HL9 HF9 HN9 HT9 k10 hps
              go_wp2_with fail
              refine (parseR L10.out.R ps).mono ?_
              rintro v' w11 ⟨O11, v11, ns11, r11, e11, q11, rfl, R11, hO11, k11, N11, hv11, A11, le11⟩
              have L11 := L10.out.parse R11 hO11 k11 Hlo10.out
              have F11 := F10.out.trans k11 (fun c hc ho => by have := L10.out.o c ho; omega)
              have M11 := NLV.frame N10.out k11 (fun c hc => HU8.out c hc)
              have T11 := Blk.frame T10.out k11 (fun ho => by have := HO8.out _ ho; omega)
              obtain ⟨a11, hv11e⟩ := N11.sl
              subst hv11e
              have kD := (Fr.refl (fun _ => False) w11).alloc (box4v (.slice a11 ns11.length ns11.length) r11 e11 q11)
              have L12 : Hid _ := L11.same kD
              have F12 : Hid _ := F11.trans kD (fun _ _ h => h)
              have N12 : Hid _ := N11.frame kD (fun _ _ h => h)
              have M12 : Hid _ := M11.frame kD (fun _ _ h => h)
              have B12 := T11.alloc (box4v (.slice a11 ns11.length ns11.length) r11 e11 q11)
              obtain ⟨y0, y1, y2, y3, yl⟩ := T11.four
              have hbk := Hg.out.back Hps.out A11
              have HA : Hid _ := hbk
              clear R11 hO11 k11 N11 hv11 A11 le11 L11 F11 M11 kD L10 F10 N10 T10 hbk T11 B12
              unfold treeV
              by_cases hz : ps.size ≤ 4096
              · obtain ⟨g1, g2, g3⟩ := HA.out.1 hz
                subst g1
                rw [← Hrt.out] at g2
                subst g2
                have Hz3 : Hid _ := g3
                have zz : decide ((4096 : Int) < (ps.size : Int)) = false := decide_eq_false (by omega)
                have zz' : decide (4096 < ps.size) = false := decide_eq_false (by omega)
                clear g3
                go_wp2_with fail
                have zq : Zq ns8 ns11 := by rw [Hns.out]; exact Hz3.out.symm
                refine (sameShape M12.out N12.out zq Hl8.out).mono ?_
                rintro v' w13 ⟨rfl, f13⟩
                go_wp2_with fail
                go_roundg (gk - 1)
                case measure => have := Hkg.out; omega
                case rel => exact ⟨k + 1, _, rfl, by simp, by have := Hkg.out; omega, by have := Hlt2.out; omega, Nat.zero_le 4097, ⟨_, L12.out.same f13⟩, F12.out.trans f13 (fun _ _ h => h)⟩
              · obtain ⟨g1, g2⟩ := HA.out.2 hz
                subst g1
                subst g2
                have zz : decide ((4096 : Int) < (ps.size : Int)) = true := decide_eq_true (by omega)
                have zz' : decide (4096 < ps.size) = true := decide_eq_true (by omega)
                go_wp2_with fail
                go_roundg (gk - 1)
                case measure => have := Hkg.out; omega
                case rel => exact ⟨k + 1, _, rfl, by simp, by have := Hkg.out; omega, by have := Hlt2.out; omega, Nat.zero_le 4097, ⟨_, L12.out⟩, F12.out⟩
            · have ze : (e8 == 0) = false := by simpa using he
              clear he
              unfold treeV
              go_wp2_with fail
              go_roundg (gk - 1)
              case measure => have := Hkg.out; omega
              case rel => exact ⟨k + 1, _, rfl, by simp, by have := Hkg.out; omega, by have := Hlt2.out; omega, Nat.zero_le 4097, ⟨_, HL9.out⟩, HF9.out⟩
          · have z3 : (kind == 3) = false := by simpa using k3
            clear k3 k1
            go_wp2_with fail
            go_roundg (gk - 1)
            case measure => have := Hkg.out; omega
            case rel => exact ⟨k + 1, txt, rfl, by simp, by have := Hkg.out; omega, by have := Hlt2.out; omega, htx, ⟨_, L6⟩, F6⟩
      · have zlt : decide ((k : Int) < (n : Int)) = true := decide_eq_true (by omega)
        have zl2 : decide ((k : Int) < 4398046511104) = false := decide_eq_false hlt2
        go_wp2_with fail
        go_ret
        exact ⟨rfl, hfr⟩
    · have zlt : decide ((k : Int) < (n : Int)) = false := decide_eq_false (by omega)
      go_wp2_with fail
      go_ret
      exact ⟨rfl, hfr⟩
set_option maxHeartbeats 400000 in
theorem trip_any {w : World} {a : Option Addr} {n cap : Nat} (hs : ScrAt w a n) :
    Calls Try.prog 5 #[.slice a n cap] w fun e w' => e = .returned (.bool true) ∧ Fr (fun _ => False) w w' := by
  go_enter Try.func5, Try.ntmps5
  go_wp2_with fail
  refine (tripUpTo hs).mono ?_
  rintro e w1 ⟨rfl, f1⟩
  go_wp2
  go_ret
  exact ⟨rfl, f1⟩
end Go.Proofs.Qxb6500280a
