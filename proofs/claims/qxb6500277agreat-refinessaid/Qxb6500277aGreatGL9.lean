/- The law: the walk (written by genGL7.py). -/
import Derived.Test.Qxb6500277aGreatGL7
import Derived.Deep.CutRange
namespace Go.Proofs.Qxb6500277aGreat
open Go Go.RowKit

private def opC (k a b c : Int) (s t : ByteArray) (o : Nat) : Value := match o with | 0 => .int .i64 k | 1 => .int .i64 a | 2 => .int .i64 b | 3 => .int .i64 c | 4 => .string s | _ => .string t
set_option maxRecDepth 100000 in
set_option maxHeartbeats 16000000 in
theorem walk_loud {w : World} {a : Option Addr} {n cap : Nat} (hs : ScrAt w a n) :
    Calls Tryz.prog 6 #[.slice a n cap, .bool false] w fun e w' => (∃ k, e = .returned (.tuple #[.int .i64 (-1), .int .i64 k])) ∧ Fr (fun _ => False) w w' := by
  go_enter Tryz.func6, Tryz.ntmps6
  go_wp2_with fail
  refine (groundG _).mono ?_
  rintro v w1 ⟨c, p, A1, A, Op, rfl, G1⟩
  go_upto_region 2 with fail
  generalize hwA : World.alloc w1 _ = wA
  have BA : Blk wA w1.heap.size 3 (o3 c A1.m A.m) := by
    rw [← hwA]
    exact Blk.new w1 _ _ _ (fun o ho => by rcases lt3 (show o < 3 from ho) with rfl | rfl | rfl <;> rfl)
  have kA : Fr (fun _ => False) w1 wA := by rw [← hwA]; exact (Fr.refl _ _).alloc _
  have sA : wA.heap.size = w1.heap.size + 1 := by rw [← hwA]; simp [World.size_alloc]
  clear hwA
  have ca := BA.cell (o := 0) (by omega)
  have cb := BA.cell (o := 1) (by omega)
  simp only [o3] at ca cb
  have cl := BA.lt
  have q8 := G1.newG kA
  have HG : Hid (True ∧ _) := ⟨trivial, And.intro G1 (And.intro BA (And.intro kA sA))⟩
  clear G1 BA kA sA
  go_wp2_with fail
  refine q8.mono ?_
  rintro v w2 ⟨rfl, X2, f2⟩
  clear ca cb cl q8
  have H2 : Hid (True ∧ _) := ⟨trivial, And.intro X2 f2⟩
  clear X2 f2
  go_wp2_with fail
  refine (newMg w2).mono ?_
  rintro v w3 ⟨e, rfl, M3, f3⟩
  have H3 : Hid (True ∧ _) := ⟨trivial, And.intro M3 f3⟩
  clear M3 f3
  go_upto_region 8 with fail
  generalize hw4 : World.alloc w3 _ = w4
  have k4 : Fr (fun _ => False) w3 w4 := by rw [← hw4]; exact (Fr.refl _ _).alloc _
  have B4 : Blk w4 w3.heap.size 13 (c13 (.int .i64 0) (.int .i64 0) (.int .i64 0) (.int .i64 0) (.slice none 0 0) (.int .i64 0) (.int .i64 0) (.int .i64 0) (.int .i64 0) (.int .i64 0) (.slice none 0 0) (.int .i64 0) (.slice none 0 0)) := by rw [← hw4]; exact blk13 _ _ _ _ _ _ _ _ _ _ _ _ _ _ _
  clear hw4
  obtain ⟨_, G1, BA, kA, sA⟩ := HG.out
  obtain ⟨_, X2, f2⟩ := H2.out
  obtain ⟨_, M3, f3⟩ := H3.out
  have HL4 : Hid (LG w.heap.size w4 wA.heap.size e A w1.heap.size w3.heap.size c A1.m nilS nilS) := LG.init G1 BA kA sA X2 f2 M3 f3 k4 B4
  have HF4 : Hid _ := (((G1.fr.trans kA (fun _ _ h => h)).trans f2 (fun _ _ h => h)).trans f3 (fun _ _ h => h)).trans k4 (fun _ _ h => h)
  clear G1 BA kA sA X2 f2 M3 f3 k4 B4 HG H2 H3
  generalize w1.heap.size = bo at *
  generalize wA.heap.size = gg at *
  generalize w3.heap.size = bb at *
  generalize A1.m = am at *
  have qs := HL4.out.check
  go_wp2_with fail
  refine qs.mono ?_
  rintro v w5 ⟨rfl, k5⟩
  have HL5 : Hid _ := HL4.out.same k5
  have HF5 : Hid _ := HF4.out.trans k5 (fun _ _ h => h)
  clear qs HL4 HF4
  have HL4 := HL5
  have HF4 := HF5
  clear HL5 HF5 k5
  go_wp2_with fail
  go_loopg [9, 10, 12, 13] n (fun g tv iv mv kv wr => ∃ (k : Nat) (txt : ByteArray), tv = .string txt ∧ kv = .int .i64 k ∧ k + g = n ∧ k ≤ 4398046511104 ∧ txt.size ≤ 4097 ∧ LG w.heap.size wr gg e A bo bb c am iv mv ∧ Fr (fun _ => False) w wr)
  case atStart => exact ⟨0, _, rfl, rfl, by omega, by omega, Nat.zero_le 4097, HL4.out, HF4.out⟩
  case round =>
    obtain ⟨k, txt, rfl, rfl, hkg, hk42, htx, LJ, hfr⟩ := hrel
    obtain ⟨⟨ia, ni, ic, rfl, hni⟩, ⟨ma, nmv, mc, rfl, hnm⟩⟩ := LJ.slices
    have Hkg : Hid _ := hkg
    have Hk42 : Hid _ := hk42
    have hkb : (k : Int) < 140737488355328 := by omega
    clear hkg hk42 HL4 HF4
    by_cases hlt : k < n
    · by_cases hlt2 : (k : Int) < 4398046511104
      · rcases hs with h0 | ⟨b, off, rfl, hb, hcells⟩
        · exact absurd hlt (by omega)
        have Hlt2 : Hid _ := hlt2
        have zlt : decide ((k : Int) < (n : Int)) = true := decide_eq_true (by omega)
        obtain ⟨kind, a', b', c', s, t, ⟨ha0, ha'⟩, c0, c1, c2, c3, c4, c5⟩ := hcells k hlt
        rw [← hfr.cell (p := ⟨b, off + k * 6, none⟩) hb (by simp)] at c0
        rw [← hfr.cell (p := ⟨b, off + k * 6 + 1, none⟩) hb (by simp)] at c1
        rw [← hfr.cell (p := ⟨b, off + k * 6 + 2, none⟩) hb (by simp)] at c2
        rw [← hfr.cell (p := ⟨b, off + k * 6 + 3, none⟩) hb (by simp)] at c3
        rw [← hfr.cell (p := ⟨b, off + k * 6 + 4, none⟩) hb (by simp)] at c4
        rw [← hfr.cell (p := ⟨b, off + k * 6 + 5, none⟩) hb (by simp)] at c5
        have hbw : b < wr.heap.size := Nat.lt_of_lt_of_le hb hfr.size
        have Hlo : Hid (w.heap.size ≤ wr.heap.size) := hfr.size
        clear hcells
        go_upto_region 15 with fail
        generalize hw6 : World.alloc wr _ = w6
        have kA : Fr (fun _ => False) wr w6 := by rw [← hw6]; exact (Fr.refl _ _).alloc _
        have s6 : w6.heap.size = wr.heap.size + 1 := by rw [← hw6]; simp [World.size_alloc]
        have B16 : Blk w6 wr.heap.size 6 (opC kind a' b' c' s t) := by
          rw [← hw6]
          exact Blk.new wr _ _ _ (fun o ho => by rcases lt6 (show o < 6 from ho) with rfl | rfl | rfl | rfl | rfl | rfl <;> rfl)
        have g0 := B16.cell (o := 0) (by omega)
        have g1 := B16.cell (o := 1) (by omega)
        have g4 := B16.cell (o := 4) (by omega)
        simp only [opC] at g0 g1 g4
        have gl := B16.lt
        have HL6 : Hid _ := LJ.same kA
        have HF6 : Hid _ := hfr.trans kA (fun _ _ h => h)
        have HB : Hid _ := And.intro B16 (And.intro kA (And.intro s6 LJ))
        clear hw6 kA s6 B16 LJ hfr c0 c1 c2 c3 c4 c5 hbw zlt hlt2
        generalize hb16 : wr.heap.size = b16 at *
        have Hb16 : Hid _ := hb16
        clear hb16
        by_cases k1 : kind = 1
        · subst k1
          have qj := joinG (w := w6) txt s htx
          go_wp2_with fail
          refine qj.mono ?_
          rintro v' w7 ⟨⟨tx2, rfl, htx2⟩, e7⟩
          subst w7
          clear qj
          have qs := HL6.out.check
          go_wp2_with fail
          refine qs.mono ?_
          rintro v' wz ⟨rfl, kz⟩
          clear qs
          go_wp2_with fail
          go_roundg (gk - 1)
          case measure => have := Hkg.out; omega
          case rel => exact ⟨k + 1, tx2, rfl, by simp, by have := Hkg.out; omega, by have := Hlt2.out; omega, htx2, (HL6.out.same kz), (HF6.out.trans kz (fun _ _ h => h))⟩
        have z1 : (kind == 1) = false := by simpa using k1
        by_cases k2 : kind = 2
        · subst k2
          by_cases hle : ni ≤ 128
          · have zl : decide ((ni : Int) ≤ 128) = true := decide_eq_true (by omega)
            have kB := (Fr.refl (fun _ => False) w6).alloc (.cells #[.int .i64 a'] 3)
            have hxp : KiP (w6.alloc (.cells #[.int .i64 a'] 3)) w6.heap.size [a'] := KiP.one ((Blk.new w6 #[.int .i64 a'] 3 (fun _ => .int .i64 a') (fun o ho => by
              have ho : o < 1 := by simpa using ho
              obtain rfl : o = 0 := by omega
              rfl)).cell (by simp))
            obtain ⟨I, hI, hIl⟩ : ∃ I, KiAt (w6.alloc (.cells #[.int .i64 a'] 3)) (.slice ia ni ic) I ∧ I.length = ni := by
              obtain ⟨E, er, po, en, rt, fu, L, v1, v2, v3, nm, f, I, κ, H⟩ := HL6.out.ex
              refine ⟨I, H.kI.frame kB (fun _ _ h => h), ?_⟩
              obtain ⟨a, c, e, _⟩ := H.kI.sl
              cases e
              rfl
            have HkB : Hid _ := kB
            clear kB
            go_upto_region 56 with (
              at_builtin
              refine wpList_appendI (by rfl) _ _ (by rfl) _ _ [a'] _ 1 1 (by rfl) (by rfl) rfl hI hxp (.inr (by simp)) (by simp; omega) ?_
              intro v' w8 hc8 hb8 f8
              obtain ⟨va, vc, hvv, _⟩ := hc8.sl
              subst hvv
              have Hc8 : Hid _ := And.intro hc8 (And.intro hb8 f8)
              clear hc8 hb8 f8)
            obtain ⟨hc8, hb8, f8⟩ := Hc8.out
            have hl8 : (I ++ [a']).length ≤ 129 := by rw [List.length_append, hIl]; show ni + 1 ≤ 129; omega
            have HL8 : Hid (LG w.heap.size w8 gg e A bo bb c am (.slice va (ni + 1) vc) (.slice ma nmv mc)) := by
              have el : (I ++ [a']).length = ni + 1 := by rw [List.length_append, hIl]; rfl
              have key := (HL6.out.same HkB.out).inp (Nat.le_trans HF6.out.size HkB.out.size) f8 hc8 hl8 hb8
              rw [el] at key
              exact key
            have HF8 : Hid (Fr (fun _ => False) w w8) := (HF6.out.trans HkB.out (fun _ _ h => h)).trans f8 (fun c hc h => by have h1 := HL6.out.farI c h; omega)
            clear hc8 hb8 f8 hI hxp
            have qs := HL8.out.check
            go_wp2_with fail
            refine qs.mono ?_
            rintro v' wz ⟨rfl, kz⟩
            clear qs
            go_wp2_with fail
            go_roundg (gk - 1)
            case measure => have := Hkg.out; omega
            case rel => exact ⟨k + 1, txt, rfl, by simp, by have := Hkg.out; omega, by have := Hlt2.out; omega, htx, (HL8.out.same kz), (HF8.out.trans kz (fun _ _ h => h))⟩
          · have zl : decide ((ni : Int) ≤ 128) = false := decide_eq_false (by omega)
            have qs := HL6.out.check
            go_wp2_with fail
            refine qs.mono ?_
            rintro v' wz ⟨rfl, kz⟩
            clear qs
            go_wp2_with fail
            go_roundg (gk - 1)
            case measure => have := Hkg.out; omega
            case rel => exact ⟨k + 1, txt, rfl, by simp, by have := Hkg.out; omega, by have := Hlt2.out; omega, htx, (HL6.out.same kz), (HF6.out.trans kz (fun _ _ h => h))⟩
        have z2 : (kind == 2) = false := by simpa using k2
        by_cases k3 : kind = 3
        · subst k3
          clear z1 z2 k1 k2
          obtain ⟨B16, kA, s6, LJ⟩ := HB.out
          obtain ⟨E, er, po, en, rt, fu, L, v1, v2, v3, nm', f, I, κ, HJ⟩ := LJ.ex
          have Hκ : Hid (κ b16 = 0) := by
            have h2 := Hb16.out
            by_cases h : κ b16 = 0
            · exact h
            · have h1 := (HJ.kq.lo b16 h).2; omega
          have H6 := HJ.same kA
          obtain ⟨e1, e2, e3, ev1⟩ := H6.k1.one
          obtain ⟨e4, e5, e6, ev2⟩ := H6.k2.one
          obtain ⟨e7, e8, e9, ev3⟩ := H6.s3
          subst ev1 ev2 ev3
          have HO6 : Hid (True ∧ _) := ⟨trivial, And.intro H6 (And.intro B16 s6)⟩
          have qj := joinG (w := w6) txt s htx
          clear B16 kA s6 HJ H6
          go_wp2_with fail
          refine qj.mono ?_
          rintro v' w7 ⟨⟨code, rfl, hcode⟩, e7'⟩
          subst w7
          clear qj
          have hq := sameRunG (src := code) (fuel := a') HO6.out.2.1.S HO6.out.2.1.kI HO6.out.2.1.il (fun b hb h => by have h1 := HO6.out.2.1.kq.q7 b hb; have h2 := HO6.out.2.1.kq.q1 b h; omega) ha' ha0
          go_wp2_with fail
          refine hq.mono ?_
          rintro v' w7 ⟨er', po', en', rt', fu', L', v1', v2', v3', E', rfl, T⟩
          clear hq
          have hlo6 : w.heap.size ≤ w6.heap.size := HF6.out.size
          have H7 := HO6.out.2.1.sys T.sys T.sub T.fr hlo6
          have T7 := T.tri (κ := κ) HO6.out.2.1.il hlo6
          have B7 := HO6.out.2.2.1.frame T.fr (fun h => by have h1 := HO6.out.2.1.kq.q1 _ h; have h2 := Hκ.out; omega)
          have hMA := T.ans
          obtain ⟨x1, y1, z1', ex1⟩ := T.k1.one
          obtain ⟨x2, y2, z2', ex2⟩ := T.k2.one
          obtain ⟨x3, y3, z3', ex3⟩ := T.k3.one
          subst ex1 ex2 ex3
          have HF7 : Hid (Fr (fun _ => False) w w7) := HF6.out.trans T.fr (fun b hb h => by have h1 := HO6.out.2.1.kq.q1 b h; have h2 := (HO6.out.2.1.kq.lo b (by omega)).1; omega)
          have Hlb : Hid (b16 < w6.heap.size) := HO6.out.2.2.1.lt
          have H7h : Hid (True ∧ _) := ⟨trivial, And.intro H7 (And.intro T7 (And.intro B7 (And.intro hMA T.fr.size)))⟩
          clear T H7 T7 B7 hMA
          simp only [bothV]
          go_upto_region 23 with fail
          generalize hw8 : World.alloc w7 _ = w8
          have k8 : Fr (fun _ => False) w7 w8 := by rw [← hw8]; exact (Fr.refl _ _).alloc _
          have s8 : w8.heap.size = w7.heap.size + 1 := by rw [← hw8]; simp [World.size_alloc]
          have B8 : Blk w8 w7.heap.size 13 (c13 (.int .i64 er') (.int .i64 po') (.int .i64 en') (.int .i64 rt') (.slice x1 y1 z1') (.int .i64 fu') (.int .i64 er') (.int .i64 po') (.int .i64 en') (.int .i64 rt') (.slice x2 y2 z2') (.int .i64 fu') (.slice x3 y3 z3')) := by rw [← hw8]; exact blk13 _ _ _ _ _ _ _ _ _ _ _ _ _ _ _
          clear hw8
          obtain ⟨_, H7, T7, B7, hMA, z7⟩ := H7h.out
          obtain ⟨κ7, hκ7⟩ : ∃ κ7, κ7 = kN κ E' w6.heap.size := ⟨_, rfl⟩
          rw [← hκ7] at H7 T7
          have n7 : κ7 w7.heap.size = 0 := Classical.byContradiction fun h => by have := (H7.kq.lo _ h).2; omega
          have n16 : κ7 b16 = 0 := by rw [hκ7, kN_old Hlb.out]; exact Hκ.out
          have b16l : b16 < w7.heap.size := B7.lt
          have lo7 : w.heap.size ≤ w7.heap.size := Nat.le_trans hlo6 z7
          have H8 : Hid (True ∧ _) := ⟨trivial, And.intro (H7.same k8) (And.intro (T7.same k8) (And.intro (B7.frame k8 id) (And.intro hMA (And.intro B8 (And.intro n7 (And.intro n16 (And.intro s8 (And.intro b16l lo7))))))))⟩
          have HF8 : Hid (Fr (fun _ => False) w w8) := HF7.out.trans k8 (fun _ _ h => h)
          clear H7 T7 B7 hMA z7 hκ7 n7 n16 k8 s8 B8 H7h HO6 HF7 hlo6 HB Hκ Hlb HL6 HF6 b16l lo7 g0 g1 g4 gl
          generalize hb17 : w7.heap.size = b17 at *
          clear hb17
          obtain ⟨_, H8g, H8t, H8o, hMA, H8b, n7, n16, s8, b16l, lo7⟩ := H8.out
          have q25 := sameResultF (er := er) (po := po) (en := en) (rt := rt) (fu := fu) H8g.k1 H8g.k2 (by have := H8g.le; omega)
          simp only [resV] at q25
          have HBb := H8g.Bb
          have p0 := HBb.cell (o := 0) (by omega)
          have p1 := HBb.cell (o := 1) (by omega)
          have p2 := HBb.cell (o := 2) (by omega)
          have p3 := HBb.cell (o := 3) (by omega)
          have p4 := HBb.cell (o := 4) (by omega)
          have p5 := HBb.cell (o := 5) (by omega)
          have p6 := HBb.cell (o := 6) (by omega)
          have p7 := HBb.cell (o := 7) (by omega)
          have p8 := HBb.cell (o := 8) (by omega)
          have p9 := HBb.cell (o := 9) (by omega)
          have p10 := HBb.cell (o := 10) (by omega)
          have p11 := HBb.cell (o := 11) (by omega)
          have p12 := HBb.cell (o := 12) (by omega)
          simp only [c13] at p0 p1 p2 p3 p4 p5 p6 p7 p8 p9 p10 p11 p12
          have pl := HBb.lt
          clear HBb H8g H8t H8o hMA H8b n7 n16 s8 b16l lo7
          go_wp2_with fail
          refine q25.mono ?_
          rintro v' w9 ⟨rfl, k9⟩
          clear q25
          clear p0 p1 p2 p3 p4 p5 p6 p7 p8 p9 p10 p11 p12 pl
          obtain ⟨_, H8g, H8t, H8o, hMA, H8b, n7, n16, s8, b16l, lo7⟩ := H8.out
          have H9 : Hid (True ∧ _) := ⟨trivial, And.intro (H8g.same k9) (And.intro (H8t.same k9) (And.intro (H8o.frame k9 id) (And.intro hMA (And.intro (H8b.frame k9 id) (And.intro n7 (And.intro n16 (And.intro b16l (And.intro (show b17 < w9.heap.size from Nat.lt_of_lt_of_le (by omega) k9.size) (Nat.le_trans (show w.heap.size ≤ w8.heap.size by omega) k9.size)))))))))⟩
          have HF9 : Hid (Fr (fun _ => False) w w9) := HF8.out.trans k9 (fun _ _ h => h)
          clear H8g H8t H8o hMA H8b n7 n16 s8 b16l lo7 k9 H8 HF8
          have q27 := untouchedF H9.out.2.1.mn
          go_wp2_with fail
          refine q27.mono ?_
          rintro v' w9' ⟨rfl, ew9⟩
          subst w9'
          clear q27
          by_cases her : er' = 32
          · have ye : (er' != 32) = false := by simp [her]
            clear her
            have HBq := H9.out.2.2.2.2.2.1
            have q6 := HBq.cell (o := 6) (by omega)
            simp only [c13] at q6
            have ql := HBq.lt
            clear HBq
            obtain ⟨κX, hκX⟩ : ∃ κX, κX = κ7 := ⟨_, rfl⟩
            subst κ7
            obtain ⟨wX, hwX⟩ : ∃ wX, wX = w9 := ⟨_, rfl⟩
            subst w9
            have HX := H9
            have HFX := HF9
            clear H9 HF9
            obtain ⟨_, Hg, Ht, Ho, hMA, Hb, n7, n16, b16l, b17l, lo9⟩ := HX.out
            have q32 := spoilF Hg.k1 (by have := Hg.le; omega)
            have HBb := Hg.Bb
            have p4 := HBb.cell (o := 4) (by omega)
            simp only [c13] at p4
            have pl := HBb.lt
            clear HBb Hg Ht Ho hMA Hb n7 n16 b16l b17l lo9
            go_wp2_with fail
            clear q6 ql
            refine q32.mono ?_
            rintro v' w10 ⟨rfl, ks, k10⟩
            clear q32
            clear p4 pl
            obtain ⟨_, Hg, Ht, Ho, hMA, Hb, n7, n16, b16l, b17l, lo9⟩ := HX.out
            have kq := Hg.kq
            have nbb : ¬ isB (.slice e1 e2 e3) bb := fun h => by have := kq.q3 bb h; have := kq.q8 bb (.inr rfl); omega
            have n17 : ¬ isB (.slice e1 e2 e3) b17 := fun h => by have := kq.q3 b17 h; omega
            have mn10 := Hg.mn.frame k10 (fun b hb h => by
              have h3 := kq.q3 b h
              rcases hb with hb | ⟨j, hj, hb⟩
              · have := kq.q5 b hb; omega
              · have := kq.q6 j hj b hb; omega)
            have hne1 : ∀ b, isB (.slice ma nmv mc) b → ¬ isB (.slice e1 e2 e3) b ∧ ∀ j, j < nm' → ¬ isB (f j) b := fun b hb => by
              have h5 := kq.q5 b hb
              exact ⟨fun h => by have := kq.q3 b h; omega, fun j hj h => by have := kq.q6 j hj b h; omega⟩
            have q33 := keepF mn10 ks (by have := Hg.le; omega) hne1
            have HBb := Hg.Bb.frame k10 nbb
            have p4 := HBb.cell (o := 4) (by omega)
            simp only [c13] at p4
            have pl := HBb.lt
            have H10 : Hid (True ∧ _) := ⟨trivial, And.intro k10 (And.intro mn10 (And.intro nbb n17))⟩
            clear HBb Hg Ht Ho hMA Hb n7 n16 b16l b17l lo9 kq nbb n17 mn10 hne1 ks k10
            go_wp2_with fail
            refine q33.mono ?_
            rintro v' w11 ⟨mv1, n1, f1, rfl, K1⟩
            clear q33
            clear p4 pl
            obtain ⟨ma1, mc1, em1⟩ := K1.mn.os.sl
            subst em1
            obtain ⟨_, Hg, Ht, Ho, hMA, Hb, n7, n16, b16l, b17l, lo9⟩ := HX.out
            obtain ⟨_, k10, mn10, nbb, n17⟩ := H10.out
            have kq := Hg.kq
            have tl : ∀ b, isB (.slice x3 y3 z3') b → κX b = 0 ∧ b < wX.heap.size := fun b hb => ⟨(Ht.c b (.inr (.inr hb))).1, Ht.k3.bk hb⟩
            have t3 : KiAt w11 (.slice x3 y3 z3') (List.replicate I.length stmp) := (Ht.k3.frame k10 (fun b hb h => by have := (tl b hb).1; have := kq.q3 b h; omega)).frame K1.fr (fun b hb h => by have := (tl b hb).1; have := kq.q5 b h; omega)
            have z10 := k10.size
            have hne2 : ∀ b, isB (.slice ma1 n1 mc1) b → ¬ isB (.slice x3 y3 z3') b ∧ ∀ j, j < n1 → ¬ isB (f1 j) b := fun b hb => by
              rcases K1.bk b hb with g | g
              · refine ⟨fun h => by have := (tl b h).2; omega, fun j hj h => ?_⟩
                rcases K1.of j hj with q | ⟨i, hi, q⟩
                · rw [q] at h; have := Hg.k1.bk h; omega
                · rw [q] at h; have := (kq.lo b (by have := kq.q6 i hi b h; omega)).2; omega
              · have h5 := kq.q5 b g
                refine ⟨fun h => by have := (tl b h).1; omega, fun j hj h => ?_⟩
                rcases K1.of j hj with q | ⟨i, hi, q⟩
                · rw [q] at h; have := kq.q3 b h; omega
                · rw [q] at h; have := kq.q6 i hi b h; omega
            have q34 := keepF K1.mn t3 Ht.lq hne2
            have nm17 : ¬ isB (.slice ma nmv mc) b17 := fun h => by have := kq.q5 b17 h; omega
            have nmbb : ¬ isB (.slice ma nmv mc) bb := fun h => by have := kq.q5 bb h; have := kq.q8 bb (.inr rfl); omega
            have Hb11 := (Hb.frame k10 n17).frame K1.fr nm17
            have Bb11 := (Hg.Bb.frame k10 nbb).frame K1.fr nmbb
            have p12 := Hb11.cell (o := 12) (by omega)
            simp only [c13] at p12
            have pl := Hb11.lt
            have H11 : Hid (True ∧ _) := ⟨trivial, And.intro K1 (And.intro Hb11 (And.intro Bb11 (And.intro nm17 nmbb)))⟩
            clear Hg Ht Ho hMA Hb n7 n16 b16l b17l lo9 k10 mn10 nbb n17 kq tl t3 z10 hne2 nm17 nmbb Hb11 Bb11 K1
            go_wp2_with fail
            refine q34.mono ?_
            rintro v' w12 ⟨mv2, n2, f2, rfl, K2⟩
            clear q34
            clear p12 pl
            obtain ⟨ma2, mc2, em2⟩ := K2.mn.os.sl
            subst em2
            obtain ⟨_, Hg, Ht, Ho, hMA, Hb, n7, n16, b16l, b17l, lo9⟩ := HX.out
            obtain ⟨_, k10, mn10, nbb, n17⟩ := H10.out
            obtain ⟨_, K1, Hb11, Bb11, nm17, nmbb⟩ := H11.out
            have z10 := k10.size
            have bbl : bb < wX.heap.size := Hg.Bb.lt
            have bbn : bb ≠ b17 := fun h => by have := Hg.kq.q8 bb (.inr rfl); rw [h] at this; omega
            have Hb12 := Hb11.frame K2.fr (fun h => by
              rcases K1.bk b17 h with g | g
              · omega
              · exact nm17 g)
            have Bb12 := Bb11.frame K2.fr (fun h => by
              rcases K1.bk bb h with g | g
              · omega
              · exact nmbb g)
            have p0 := Hb12.cell (o := 0) (by omega)
            have p1 := Hb12.cell (o := 1) (by omega)
            have p2 := Hb12.cell (o := 2) (by omega)
            have p3 := Hb12.cell (o := 3) (by omega)
            have p4 := Hb12.cell (o := 4) (by omega)
            have p5 := Hb12.cell (o := 5) (by omega)
            have p6 := Hb12.cell (o := 6) (by omega)
            have p7 := Hb12.cell (o := 7) (by omega)
            have p8 := Hb12.cell (o := 8) (by omega)
            have p9 := Hb12.cell (o := 9) (by omega)
            have p10 := Hb12.cell (o := 10) (by omega)
            have p11 := Hb12.cell (o := 11) (by omega)
            have p12 := Hb12.cell (o := 12) (by omega)
            simp only [c13] at p0 p1 p2 p3 p4 p5 p6 p7 p8 p9 p10 p11 p12
            have pl := Hb12.lt
            have q0 := Bb12.cell (o := 0) (by omega)
            have q1 := Bb12.cell (o := 1) (by omega)
            have q2 := Bb12.cell (o := 2) (by omega)
            have q3 := Bb12.cell (o := 3) (by omega)
            have q4 := Bb12.cell (o := 4) (by omega)
            have q5 := Bb12.cell (o := 5) (by omega)
            have q6 := Bb12.cell (o := 6) (by omega)
            have q7 := Bb12.cell (o := 7) (by omega)
            have q8 := Bb12.cell (o := 8) (by omega)
            have q9 := Bb12.cell (o := 9) (by omega)
            have q10 := Bb12.cell (o := 10) (by omega)
            have q11 := Bb12.cell (o := 11) (by omega)
            have q12 := Bb12.cell (o := 12) (by omega)
            simp only [c13] at q0 q1 q2 q3 q4 q5 q6 q7 q8 q9 q10 q11 q12
            have ql := Bb12.lt
            have qz := Bb12.frozen
            have D12 := Bb12.set13 (.int .i64 er') (.int .i64 po') (.int .i64 en') (.int .i64 rt') (.slice x1 y1 z1') (.int .i64 fu') (.int .i64 er') (.int .i64 po') (.int .i64 en') (.int .i64 rt') (.slice x2 y2 z2') (.int .i64 fu') (.slice x3 y3 z3')
            have F12 := (Fr.refl (fun b => b = bb) w12).set13 (b := bb) (fun _ => rfl) (.int .i64 er') (.int .i64 po') (.int .i64 en') (.int .i64 rt') (.slice x1 y1 z1') (.int .i64 fu') (.int .i64 er') (.int .i64 po') (.int .i64 en') (.int .i64 rt') (.slice x2 y2 z2') (.int .i64 fu') (.slice x3 y3 z3')
            obtain ⟨w13, hw13⟩ : ∃ w13, w13 = set13 w12 bb (.int .i64 er') (.int .i64 po') (.int .i64 en') (.int .i64 rt') (.slice x1 y1 z1') (.int .i64 fu') (.int .i64 er') (.int .i64 po') (.int .i64 en') (.int .i64 rt') (.slice x2 y2 z2') (.int .i64 fu') (.slice x3 y3 z3') := ⟨_, rfl⟩
            rw [← hw13] at D12 F12
            have HQ : Hid (True ∧ _) := ⟨trivial, And.intro K2 (And.intro D12 F12)⟩
            unfold set13 at hw13
            clear Hg Ht Ho hMA Hb n7 n16 b16l b17l lo9 k10 mn10 nbb n17 K1 Hb11 Bb11 nm17 nmbb z10 bbl Hb12 Bb12 D12 F12 K2
            go_upto_region 36 with fail
            rw [← hw13]
            clear hw13
            obtain ⟨_, K2, D12, F12⟩ := HQ.out
            obtain ⟨_, Hg, Ht, Ho, hMA, Hb, n7, n16, b16l, b17l, lo9⟩ := HX.out
            obtain ⟨_, k10, mn10, nbb, n17⟩ := H10.out
            obtain ⟨_, K1, Hb11, Bb11, nm17, nmbb⟩ := H11.out
            have key := Hg.go lo9 Ht ⟨_, _, _, rfl⟩ k10 K1 K2 F12 D12
            have HLz : Hid (LG w.heap.size w13 gg e A bo bb c am nilS (.slice ma2 n2 mc2)) := key.1
            have HFz : Hid (Fr (fun _ => False) w w13) := HFX.out.trans key.2 (fun b hb h => by omega)
            clear K2 D12 F12 Hg Ht Ho hMA Hb n7 n16 b16l b17l lo9 k10 mn10 nbb n17 K1 Hb11 Bb11 nm17 nmbb key HQ HX H10 H11 HFX
            clear p0 p1 p2 p3 p4 p5 p6 p7 p8 p9 p10 p11 p12 pl
            clear q0 q1 q2 q3 q4 q5 q6 q7 q8 q9 q10 q11 q12 ql qz
            have qs := HLz.out.check
            go_wp2_with fail
            refine qs.mono ?_
            rintro v' wz ⟨rfl, kz⟩
            clear qs
            go_wp2_with fail
            go_roundg (gk - 1)
            case measure => have := Hkg.out; omega
            case rel => exact ⟨k + 1, _, rfl, by simp, by have := Hkg.out; omega, by have := Hlt2.out; omega, Nat.zero_le 4097, (HLz.out.same kz), (HFz.out.trans kz (fun _ _ h => h))⟩
          · have ye : (er' != 32) = true := by simpa using her
            obtain ⟨_, Hg, Ht, Ho, hMA, Hb, n7, n16, b16l, b17l, lo9⟩ := H9.out
            have hn128 : I.length ≤ 128 ∨ 4096 < code.size := by
              rcases hMA with h | h | h | h
              · exact .inr h.1
              · exact absurd h.2.2.1 her
              · exact .inl h.2.1
              · exact .inl h.2.1
            have q30 := sameCodeG (c := c) (m := am) Hg.S Hg.kI (fun b hb h => by have h1 := Hg.kq.q7 b hb; have h2 := Hg.kq.q1 b h; omega) ha' hMA hn128 Ht.k2 (fun b hb h => by have h1 := (Ht.c b (.inr (.inl hb))).1; have h2 := Hg.kq.q1 b h; omega)
            simp only [resV] at q30
            have HBo := Hg.Bo
            have p0 := HBo.cell (o := 0) (by omega)
            have p1 := HBo.cell (o := 1) (by omega)
            have p2 := HBo.cell (o := 2) (by omega)
            simp only [o3] at p0 p1 p2
            have pl := HBo.lt
            have q6 := Hb.cell (o := 6) (by omega)
            have q7 := Hb.cell (o := 7) (by omega)
            have q8 := Hb.cell (o := 8) (by omega)
            have q9 := Hb.cell (o := 9) (by omega)
            have q10 := Hb.cell (o := 10) (by omega)
            have q11 := Hb.cell (o := 11) (by omega)
            simp only [c13] at q6 q7 q8 q9 q10 q11
            have ql := Hb.lt
            have g1 := Ho.cell (o := 1) (by omega)
            simp only [opC] at g1
            have gl9 := Ho.lt
            clear Hg Ht Ho hMA Hb n7 n16 b16l b17l lo9 hn128 HBo
            go_wp2_with fail
            refine q30.mono ?_
            rintro v' wX ⟨rfl, E2, S2, sub2, k2'⟩
            clear q30 g1 gl9
            clear p0 p1 p2 pl
            clear q6 q7 q8 q9 q10 q11 ql
            obtain ⟨_, Hg, Ht, Ho, hMA, Hb, n7, n16, b16l, b17l, lo9⟩ := H9.out
            have hg := Hg.sys S2 sub2 k2' lo9
            have ht := Ht.sys (E' := E2) Hg k2'
            have nE : ∀ {b : Nat}, κ7 b = 0 → ¬ E' b := fun {b} h0 h => by have h1 := Hg.kq.q1 b h; omega
            have m7 : kN κ7 E2 w9.heap.size b17 = 0 := by rw [kN_old b17l]; exact n7
            have m16 : kN κ7 E2 w9.heap.size b16 = 0 := by rw [kN_old (by omega)]; exact n16
            obtain ⟨κX, hκX⟩ : ∃ κX, κX = kN κ7 E2 w9.heap.size := ⟨_, rfl⟩
            rw [← hκX] at hg ht m7 m16
            have HX : Hid (True ∧ _) := ⟨trivial, And.intro hg (And.intro ht (And.intro (Ho.frame k2' (nE n16)) (And.intro hMA (And.intro (Hb.frame k2' (nE n7)) (And.intro m7 (And.intro m16 (And.intro b16l (And.intro (Nat.lt_of_lt_of_le b17l k2'.size) (Nat.le_trans lo9 k2'.size)))))))))⟩
            have HFX : Hid (Fr (fun _ => False) w wX) := HF9.out.trans k2' (fun b hb h => by have h1 := Hg.kq.q1 b h; have h2 := (Hg.kq.lo b (by omega)).1; omega)
            clear hκX hg ht nE m7 m16 Hg Ht Ho hMA Hb n7 n16 b16l b17l lo9 S2 sub2 k2' H9 HF9
            obtain ⟨_, Hg, Ht, Ho, hMA, Hb, n7, n16, b16l, b17l, lo9⟩ := HX.out
            have q32 := spoilF Hg.k1 (by have := Hg.le; omega)
            have HBb := Hg.Bb
            have p4 := HBb.cell (o := 4) (by omega)
            simp only [c13] at p4
            have pl := HBb.lt
            clear HBb Hg Ht Ho hMA Hb n7 n16 b16l b17l lo9
            go_wp2_with fail
            refine q32.mono ?_
            rintro v' w10 ⟨rfl, ks, k10⟩
            clear q32
            clear p4 pl
            obtain ⟨_, Hg, Ht, Ho, hMA, Hb, n7, n16, b16l, b17l, lo9⟩ := HX.out
            have kq := Hg.kq
            have nbb : ¬ isB (.slice e1 e2 e3) bb := fun h => by have := kq.q3 bb h; have := kq.q8 bb (.inr rfl); omega
            have n17 : ¬ isB (.slice e1 e2 e3) b17 := fun h => by have := kq.q3 b17 h; omega
            have mn10 := Hg.mn.frame k10 (fun b hb h => by
              have h3 := kq.q3 b h
              rcases hb with hb | ⟨j, hj, hb⟩
              · have := kq.q5 b hb; omega
              · have := kq.q6 j hj b hb; omega)
            have hne1 : ∀ b, isB (.slice ma nmv mc) b → ¬ isB (.slice e1 e2 e3) b ∧ ∀ j, j < nm' → ¬ isB (f j) b := fun b hb => by
              have h5 := kq.q5 b hb
              exact ⟨fun h => by have := kq.q3 b h; omega, fun j hj h => by have := kq.q6 j hj b h; omega⟩
            have q33 := keepF mn10 ks (by have := Hg.le; omega) hne1
            have HBb := Hg.Bb.frame k10 nbb
            have p4 := HBb.cell (o := 4) (by omega)
            simp only [c13] at p4
            have pl := HBb.lt
            have H10 : Hid (True ∧ _) := ⟨trivial, And.intro k10 (And.intro mn10 (And.intro nbb n17))⟩
            clear HBb Hg Ht Ho hMA Hb n7 n16 b16l b17l lo9 kq nbb n17 mn10 hne1 ks k10
            go_wp2_with fail
            refine q33.mono ?_
            rintro v' w11 ⟨mv1, n1, f1, rfl, K1⟩
            clear q33
            clear p4 pl
            obtain ⟨ma1, mc1, em1⟩ := K1.mn.os.sl
            subst em1
            obtain ⟨_, Hg, Ht, Ho, hMA, Hb, n7, n16, b16l, b17l, lo9⟩ := HX.out
            obtain ⟨_, k10, mn10, nbb, n17⟩ := H10.out
            have kq := Hg.kq
            have tl : ∀ b, isB (.slice x3 y3 z3') b → κX b = 0 ∧ b < wX.heap.size := fun b hb => ⟨(Ht.c b (.inr (.inr hb))).1, Ht.k3.bk hb⟩
            have t3 : KiAt w11 (.slice x3 y3 z3') (List.replicate I.length stmp) := (Ht.k3.frame k10 (fun b hb h => by have := (tl b hb).1; have := kq.q3 b h; omega)).frame K1.fr (fun b hb h => by have := (tl b hb).1; have := kq.q5 b h; omega)
            have z10 := k10.size
            have hne2 : ∀ b, isB (.slice ma1 n1 mc1) b → ¬ isB (.slice x3 y3 z3') b ∧ ∀ j, j < n1 → ¬ isB (f1 j) b := fun b hb => by
              rcases K1.bk b hb with g | g
              · refine ⟨fun h => by have := (tl b h).2; omega, fun j hj h => ?_⟩
                rcases K1.of j hj with q | ⟨i, hi, q⟩
                · rw [q] at h; have := Hg.k1.bk h; omega
                · rw [q] at h; have := (kq.lo b (by have := kq.q6 i hi b h; omega)).2; omega
              · have h5 := kq.q5 b g
                refine ⟨fun h => by have := (tl b h).1; omega, fun j hj h => ?_⟩
                rcases K1.of j hj with q | ⟨i, hi, q⟩
                · rw [q] at h; have := kq.q3 b h; omega
                · rw [q] at h; have := kq.q6 i hi b h; omega
            have q34 := keepF K1.mn t3 Ht.lq hne2
            have nm17 : ¬ isB (.slice ma nmv mc) b17 := fun h => by have := kq.q5 b17 h; omega
            have nmbb : ¬ isB (.slice ma nmv mc) bb := fun h => by have := kq.q5 bb h; have := kq.q8 bb (.inr rfl); omega
            have Hb11 := (Hb.frame k10 n17).frame K1.fr nm17
            have Bb11 := (Hg.Bb.frame k10 nbb).frame K1.fr nmbb
            have p12 := Hb11.cell (o := 12) (by omega)
            simp only [c13] at p12
            have pl := Hb11.lt
            have H11 : Hid (True ∧ _) := ⟨trivial, And.intro K1 (And.intro Hb11 (And.intro Bb11 (And.intro nm17 nmbb)))⟩
            clear Hg Ht Ho hMA Hb n7 n16 b16l b17l lo9 k10 mn10 nbb n17 kq tl t3 z10 hne2 nm17 nmbb Hb11 Bb11 K1
            go_wp2_with fail
            refine q34.mono ?_
            rintro v' w12 ⟨mv2, n2, f2, rfl, K2⟩
            clear q34
            clear p12 pl
            obtain ⟨ma2, mc2, em2⟩ := K2.mn.os.sl
            subst em2
            obtain ⟨_, Hg, Ht, Ho, hMA, Hb, n7, n16, b16l, b17l, lo9⟩ := HX.out
            obtain ⟨_, k10, mn10, nbb, n17⟩ := H10.out
            obtain ⟨_, K1, Hb11, Bb11, nm17, nmbb⟩ := H11.out
            have z10 := k10.size
            have bbl : bb < wX.heap.size := Hg.Bb.lt
            have bbn : bb ≠ b17 := fun h => by have := Hg.kq.q8 bb (.inr rfl); rw [h] at this; omega
            have Hb12 := Hb11.frame K2.fr (fun h => by
              rcases K1.bk b17 h with g | g
              · omega
              · exact nm17 g)
            have Bb12 := Bb11.frame K2.fr (fun h => by
              rcases K1.bk bb h with g | g
              · omega
              · exact nmbb g)
            have p0 := Hb12.cell (o := 0) (by omega)
            have p1 := Hb12.cell (o := 1) (by omega)
            have p2 := Hb12.cell (o := 2) (by omega)
            have p3 := Hb12.cell (o := 3) (by omega)
            have p4 := Hb12.cell (o := 4) (by omega)
            have p5 := Hb12.cell (o := 5) (by omega)
            have p6 := Hb12.cell (o := 6) (by omega)
            have p7 := Hb12.cell (o := 7) (by omega)
            have p8 := Hb12.cell (o := 8) (by omega)
            have p9 := Hb12.cell (o := 9) (by omega)
            have p10 := Hb12.cell (o := 10) (by omega)
            have p11 := Hb12.cell (o := 11) (by omega)
            have p12 := Hb12.cell (o := 12) (by omega)
            simp only [c13] at p0 p1 p2 p3 p4 p5 p6 p7 p8 p9 p10 p11 p12
            have pl := Hb12.lt
            have q0 := Bb12.cell (o := 0) (by omega)
            have q1 := Bb12.cell (o := 1) (by omega)
            have q2 := Bb12.cell (o := 2) (by omega)
            have q3 := Bb12.cell (o := 3) (by omega)
            have q4 := Bb12.cell (o := 4) (by omega)
            have q5 := Bb12.cell (o := 5) (by omega)
            have q6 := Bb12.cell (o := 6) (by omega)
            have q7 := Bb12.cell (o := 7) (by omega)
            have q8 := Bb12.cell (o := 8) (by omega)
            have q9 := Bb12.cell (o := 9) (by omega)
            have q10 := Bb12.cell (o := 10) (by omega)
            have q11 := Bb12.cell (o := 11) (by omega)
            have q12 := Bb12.cell (o := 12) (by omega)
            simp only [c13] at q0 q1 q2 q3 q4 q5 q6 q7 q8 q9 q10 q11 q12
            have ql := Bb12.lt
            have qz := Bb12.frozen
            have D12 := Bb12.set13 (.int .i64 er') (.int .i64 po') (.int .i64 en') (.int .i64 rt') (.slice x1 y1 z1') (.int .i64 fu') (.int .i64 er') (.int .i64 po') (.int .i64 en') (.int .i64 rt') (.slice x2 y2 z2') (.int .i64 fu') (.slice x3 y3 z3')
            have F12 := (Fr.refl (fun b => b = bb) w12).set13 (b := bb) (fun _ => rfl) (.int .i64 er') (.int .i64 po') (.int .i64 en') (.int .i64 rt') (.slice x1 y1 z1') (.int .i64 fu') (.int .i64 er') (.int .i64 po') (.int .i64 en') (.int .i64 rt') (.slice x2 y2 z2') (.int .i64 fu') (.slice x3 y3 z3')
            obtain ⟨w13, hw13⟩ : ∃ w13, w13 = set13 w12 bb (.int .i64 er') (.int .i64 po') (.int .i64 en') (.int .i64 rt') (.slice x1 y1 z1') (.int .i64 fu') (.int .i64 er') (.int .i64 po') (.int .i64 en') (.int .i64 rt') (.slice x2 y2 z2') (.int .i64 fu') (.slice x3 y3 z3') := ⟨_, rfl⟩
            rw [← hw13] at D12 F12
            have HQ : Hid (True ∧ _) := ⟨trivial, And.intro K2 (And.intro D12 F12)⟩
            unfold set13 at hw13
            clear Hg Ht Ho hMA Hb n7 n16 b16l b17l lo9 k10 mn10 nbb n17 K1 Hb11 Bb11 nm17 nmbb z10 bbl Hb12 Bb12 D12 F12 K2
            go_upto_region 36 with fail
            rw [← hw13]
            clear hw13
            obtain ⟨_, K2, D12, F12⟩ := HQ.out
            obtain ⟨_, Hg, Ht, Ho, hMA, Hb, n7, n16, b16l, b17l, lo9⟩ := HX.out
            obtain ⟨_, k10, mn10, nbb, n17⟩ := H10.out
            obtain ⟨_, K1, Hb11, Bb11, nm17, nmbb⟩ := H11.out
            have key := Hg.go lo9 Ht ⟨_, _, _, rfl⟩ k10 K1 K2 F12 D12
            have HLz : Hid (LG w.heap.size w13 gg e A bo bb c am nilS (.slice ma2 n2 mc2)) := key.1
            have HFz : Hid (Fr (fun _ => False) w w13) := HFX.out.trans key.2 (fun b hb h => by omega)
            clear K2 D12 F12 Hg Ht Ho hMA Hb n7 n16 b16l b17l lo9 k10 mn10 nbb n17 K1 Hb11 Bb11 nm17 nmbb key HQ HX H10 H11 HFX
            clear p0 p1 p2 p3 p4 p5 p6 p7 p8 p9 p10 p11 p12 pl
            clear q0 q1 q2 q3 q4 q5 q6 q7 q8 q9 q10 q11 q12 ql qz
            have qs := HLz.out.check
            go_wp2_with fail
            refine qs.mono ?_
            rintro v' wz ⟨rfl, kz⟩
            clear qs
            go_wp2_with fail
            go_roundg (gk - 1)
            case measure => have := Hkg.out; omega
            case rel => exact ⟨k + 1, _, rfl, by simp, by have := Hkg.out; omega, by have := Hlt2.out; omega, Nat.zero_le 4097, (HLz.out.same kz), (HFz.out.trans kz (fun _ _ h => h))⟩
        have z3 : (kind == 3) = false := by simpa using k3
        by_cases k4 : kind = 4
        · subst k4
          have q4 := HL6.out.check
          go_wp2_with fail
          refine q4.mono ?_
          rintro v' w7 ⟨rfl, k7⟩
          have HL7 : Hid _ := HL6.out.same k7
          have HF7 : Hid _ := HF6.out.trans k7 (fun _ _ h => h)
          clear q4
          have qs := HL7.out.check
          go_wp2_with fail
          refine qs.mono ?_
          rintro v' wz ⟨rfl, kz⟩
          clear qs
          go_wp2_with fail
          go_roundg (gk - 1)
          case measure => have := Hkg.out; omega
          case rel => exact ⟨k + 1, txt, rfl, by simp, by have := Hkg.out; omega, by have := Hlt2.out; omega, htx, (HL7.out.same kz), (HF7.out.trans kz (fun _ _ h => h))⟩
        have z4 : (kind == 4) = false := by simpa using k4
        by_cases k5 : kind = 5
        · subst k5
          clear z1 z2 z3 z4 k1 k2 k3 k4
          obtain ⟨B16, kA, s6, LJ⟩ := HB.out
          obtain ⟨E, er, po, en, rt, fu, L, v1, v2, v3, nm', f, I, κ, HJ⟩ := LJ.ex
          have Hκ : Hid (κ b16 = 0) := by
            have h2 := Hb16.out
            by_cases h : κ b16 = 0
            · exact h
            · have h1 := (HJ.kq.lo b16 h).2; omega
          have H6 := HJ.same kA
          obtain ⟨e1, e2, e3, ev1⟩ := H6.k1.one
          obtain ⟨e4, e5, e6, ev2⟩ := H6.k2.one
          obtain ⟨e7, e8, e9, ev3⟩ := H6.s3
          subst ev1 ev2 ev3
          have HIl : Hid (I.length = ni) := by
            obtain ⟨a, c, e, _⟩ := H6.kI.sl
            cases e
            rfl
          have HO6 : Hid (True ∧ _) := ⟨trivial, And.intro H6 (And.intro B16 s6)⟩
          have qj := joinG (w := w6) txt s htx
          clear B16 kA s6 HJ H6
          go_wp2_with fail
          refine qj.mono ?_
          rintro v' w7 ⟨⟨code, rfl, hcode⟩, e7'⟩
          subst w7
          clear qj
          have hlo6 : Hid (w.heap.size ≤ w6.heap.size) := HF6.out.size
          by_cases hle : ni ≤ 128
          · have zl : decide ((ni : Int) > 128) = false := decide_eq_false (by omega)
            have zl2 : decide ((128 : Int) < (ni : Int)) = false := decide_eq_false (by omega)
            obtain ⟨J, hJ, hJl⟩ : ∃ J, KiAt w6 (.slice ia ni ic) J ∧ J.length ≤ 128 := ⟨I, HO6.out.2.1.kI, by rw [HIl.out]; exact hle⟩
            have q46 := copyInts hJ (by omega)
            have HJh : Hid (True ∧ _) := ⟨trivial, And.intro hJ hJl⟩
            clear hJ hJl
            go_wp2_with fail
            refine q46.mono ?_
            rintro v' w7 ⟨iy, rfl, kiy, biy, f7⟩
            clear q46
            obtain ⟨ya, eiy, _⟩ := kiy.ex
            have Hg7 := HO6.out.2.1.same f7
            have q47 := Hg7.S.runM (src := code) (fuel := a') kiy.at (fun b hb h => by have h1 := (Hg7.kq.q1 b h); have h2 := biy b hb; have h3 := (HO6.out.2.1.kq.lo b (by omega)).2; omega) ha' ha0
            have Ho7 := HO6.out.2.2.1.frame f7 (fun h => h)
            have H7 : Hid (True ∧ _) := ⟨trivial, And.intro Hg7 (And.intro f7 Ho7)⟩
            have g1 := Ho7.cell (o := 1) (by omega)
            simp only [opC] at g1
            have gl7 := Ho7.lt
            rw [eiy] at q47 ⊢
            clear Hg7 f7 Ho7 kiy biy eiy g0 g4 gl
            go_wp2_with fail
            refine q47.mono ?_
            rintro v' w8 ⟨er', po', en', rt', fu', L', v2', E', rfl, hMA, S8, sub8, K8, b8, f8⟩
            clear q47 g1 gl7
            obtain ⟨x2, y2, z2', ex2⟩ := K8.at.one
            subst ex2
            obtain ⟨_, Hg7, f7, Ho7⟩ := H7.out
            have lo7 : w.heap.size ≤ w7.heap.size := Nat.le_trans hlo6.out f7.size
            have Hg8 := Hg7.sys S8 sub8 f8 lo7
            have n16 : ¬ E b16 := fun h => by have h1 := Hg7.kq.q1 _ h; have h2 := Hκ.out; omega
            have Ho8 := Ho7.frame f8 n16
            have b16l : b16 < w7.heap.size := Ho7.lt
            have n16' : kN κ E' w7.heap.size b16 = 0 := by rw [kN_old b16l]; exact Hκ.out
            have n2' : ∀ b, isB (.slice x2 y2 z2') b → kN κ E' w7.heap.size b = 0 := fun b hb => by
              have o := b8 b hb
              unfold kN
              rw [if_neg (by omega), if_neg o.2]
            obtain ⟨κ8, hκ8⟩ : ∃ κ8, κ8 = kN κ E' w7.heap.size := ⟨_, rfl⟩
            rw [← hκ8] at Hg8 n16' n2'
            have lo8 : w.heap.size ≤ w8.heap.size := Nat.le_trans lo7 f8.size
            have HF8 : Hid (Fr (fun _ => False) w w8) := (HF6.out.trans f7 (fun _ _ h => h)).trans f8 (fun b hb h => by have h1 := Hg7.kq.q1 b h; have h2 := (Hg7.kq.lo b (by omega)).1; omega)
            have hJ8 : KiAt w8 (.slice ia ni ic) J := (HJh.out.2.1.frame f7 (fun _ _ h => h)).frame f8 (fun b hb h => by
              have h1 := Hg7.kq.q1 b h
              have h2 := Hg7.kq.q7 b (hb)
              omega)
            have H8 : Hid (True ∧ _) := ⟨trivial, And.intro Hg8 (And.intro Ho8 (And.intro n16' (And.intro n2' (And.intro lo8 (And.intro K8 (And.intro hMA hJ8))))))⟩
            clear hMA S8 sub8 K8 b8 f8 Hg7 f7 Ho7 lo7 Hg8 n16 Ho8 b16l n16' n2' hκ8 lo8 hJ8 H7
            simp only [resV]
            go_upto_region 48 with fail
            generalize hw9 : World.alloc w8 _ = w9
            have k9 : Fr (fun _ => False) w8 w9 := by rw [← hw9]; exact (Fr.refl _ _).alloc _
            have B9 : Blk w9 w8.heap.size 6 (c6 (.int .i64 er') (.int .i64 po') (.int .i64 en') (.int .i64 rt') (.slice x2 y2 z2') (.int .i64 fu')) := by rw [← hw9]; exact blk6 _ _ _ _ _ _ _ _
            clear hw9
            obtain ⟨_, Hg8, Ho8, n16', n2', lo8, K8, hMA, hJ8⟩ := H8.out
            have Hg9 := Hg8.same k9
            have Ho9 := Ho8.frame k9 (fun h => h)
            have q48 := sameCodeG (c := c) (m := am) Hg9.S (hJ8.frame k9 (fun _ _ h => h)) (fun b hb h => by
              have h1 := Hg9.kq.q1 b h
              have h2 := Hg9.kq.q7 b (hb)
              omega) ha' hMA (.inl HJh.out.2.2) (K8.at.frame k9 (fun _ _ h => h)) (fun b hb h => by have h1 := n2' b hb; have h2 := Hg9.kq.q1 b h; omega)
            simp only [resV] at q48
            have HBo := Hg9.Bo
            have p0 := HBo.cell (o := 0) (by omega)
            have p1 := HBo.cell (o := 1) (by omega)
            have p2 := HBo.cell (o := 2) (by omega)
            simp only [o3] at p0 p1 p2
            have pl := HBo.lt
            have q0 := B9.cell (o := 0) (by omega)
            have q1 := B9.cell (o := 1) (by omega)
            have q2 := B9.cell (o := 2) (by omega)
            have q3 := B9.cell (o := 3) (by omega)
            have q4 := B9.cell (o := 4) (by omega)
            have q5 := B9.cell (o := 5) (by omega)
            simp only [c6] at q0 q1 q2 q3 q4 q5
            have ql := B9.lt
            have g1 := Ho9.cell (o := 1) (by omega)
            simp only [opC] at g1
            have gl9 := Ho9.lt
            have H9 : Hid (True ∧ _) := ⟨trivial, And.intro Hg9 (Nat.le_trans lo8 k9.size)⟩
            have HF9 : Hid (Fr (fun _ => False) w w9) := HF8.out.trans k9 (fun _ _ h => h)
            clear Hg8 Ho8 n16' n2' lo8 K8 hMA hJ8 Hg9 Ho9 HBo k9 B9 H8 HF8
            go_wp2_with fail
            refine q48.mono ?_
            rintro v' w10 ⟨rfl, E2, S2, sub2, k2'⟩
            clear q48 g1 gl9
            clear p0 p1 p2 pl
            clear q0 q1 q2 q3 q4 q5 ql
            obtain ⟨_, Hg9, lo9⟩ := H9.out
            have Hg10 := Hg9.sys S2 sub2 k2' lo9
            have HF10 : Hid (Fr (fun _ => False) w w10) := HF9.out.trans k2' (fun b hb h => by have h1 := Hg9.kq.q1 b h; have h2 := (Hg9.kq.lo b (by omega)).1; omega)
            have q50 := sameResultF (er := er) (po := po) (en := en) (rt := rt) (fu := fu) Hg10.k1 Hg10.k2 (by have := Hg10.le; omega)
            simp only [resV] at q50
            have HBb := Hg10.Bb
            have p0 := HBb.cell (o := 0) (by omega)
            have p1 := HBb.cell (o := 1) (by omega)
            have p2 := HBb.cell (o := 2) (by omega)
            have p3 := HBb.cell (o := 3) (by omega)
            have p4 := HBb.cell (o := 4) (by omega)
            have p5 := HBb.cell (o := 5) (by omega)
            have p6 := HBb.cell (o := 6) (by omega)
            have p7 := HBb.cell (o := 7) (by omega)
            have p8 := HBb.cell (o := 8) (by omega)
            have p9 := HBb.cell (o := 9) (by omega)
            have p10 := HBb.cell (o := 10) (by omega)
            have p11 := HBb.cell (o := 11) (by omega)
            have p12 := HBb.cell (o := 12) (by omega)
            simp only [c13] at p0 p1 p2 p3 p4 p5 p6 p7 p8 p9 p10 p11 p12
            have pl := HBb.lt
            have H10 : Hid (True ∧ _) := ⟨trivial, Hg10⟩
            clear HBb Hg9 lo9 Hg10 S2 sub2 k2' H9 HF9
            go_wp2_with fail
            refine q50.mono ?_
            rintro v' w11 ⟨rfl, k11⟩
            clear q50
            clear p0 p1 p2 p3 p4 p5 p6 p7 p8 p9 p10 p11 p12 pl
            have Hg11 := H10.out.2.same k11
            have HF11 : Hid (Fr (fun _ => False) w w11) := HF10.out.trans k11 (fun _ _ h => h)
            have q52 := untouchedF Hg11.mn
            have HLz : Hid (LG w.heap.size w11 gg e A bo bb c am nilS (.slice ma nmv mc)) := Hg11.none
            clear Hg11 k11 H10 HF10
            go_wp2_with fail
            refine q52.mono ?_
            rintro v' w12 ⟨rfl, ew⟩
            subst w12
            clear q52
            have qs := HLz.out.check
            go_wp2_with fail
            refine qs.mono ?_
            rintro v' wz ⟨rfl, kz⟩
            clear qs
            go_wp2_with fail
            go_roundg (gk - 1)
            case measure => have := Hkg.out; omega
            case rel => exact ⟨k + 1, _, rfl, by simp, by have := Hkg.out; omega, by have := Hlt2.out; omega, Nat.zero_le 4097, (HLz.out.same kz), (HF11.out.trans kz (fun _ _ h => h))⟩
          · have zl : decide ((ni : Int) > 128) = true := decide_eq_true (by omega)
            have zl2 : decide ((128 : Int) < (ni : Int)) = true := decide_eq_true (by omega)
            obtain ⟨ib, eia, hJ, hic⟩ := HO6.out.2.1.kI.cutN (q := 128) (by omega)
            obtain ⟨J, hJe⟩ : ∃ J, J = I.take 128 := ⟨_, rfl⟩
            rw [← hJe] at hJ
            have hJl : J.length ≤ 128 := by rw [hJe, List.length_take]; omega
            have q46 := copyInts hJ (by omega)
            have HJh : Hid (True ∧ _) := ⟨trivial, And.intro hJ hJl⟩
            have hsl1 := fun w => cut128 (ib := ib) (ni := ni) hic w
            have hsl2 := fun w => cut128' (ib := ib) (ni := ni) hic w
            clear hJ hJl hJe
            subst eia
            go_wp2_with fail
            refine q46.mono ?_
            rintro v' w7 ⟨iy, rfl, kiy, biy, f7⟩
            clear q46
            obtain ⟨ya, eiy, _⟩ := kiy.ex
            have Hg7 := HO6.out.2.1.same f7
            have q47 := Hg7.S.runM (src := code) (fuel := a') kiy.at (fun b hb h => by have h1 := (Hg7.kq.q1 b h); have h2 := biy b hb; have h3 := (HO6.out.2.1.kq.lo b (by omega)).2; omega) ha' ha0
            have Ho7 := HO6.out.2.2.1.frame f7 (fun h => h)
            have H7 : Hid (True ∧ _) := ⟨trivial, And.intro Hg7 (And.intro f7 Ho7)⟩
            have g1 := Ho7.cell (o := 1) (by omega)
            simp only [opC] at g1
            have gl7 := Ho7.lt
            rw [eiy] at q47 ⊢
            clear Hg7 f7 Ho7 kiy biy eiy g0 g4 gl
            go_wp2_with fail
            refine q47.mono ?_
            rintro v' w8 ⟨er', po', en', rt', fu', L', v2', E', rfl, hMA, S8, sub8, K8, b8, f8⟩
            clear q47 g1 gl7
            obtain ⟨x2, y2, z2', ex2⟩ := K8.at.one
            subst ex2
            obtain ⟨_, Hg7, f7, Ho7⟩ := H7.out
            have lo7 : w.heap.size ≤ w7.heap.size := Nat.le_trans hlo6.out f7.size
            have Hg8 := Hg7.sys S8 sub8 f8 lo7
            have n16 : ¬ E b16 := fun h => by have h1 := Hg7.kq.q1 _ h; have h2 := Hκ.out; omega
            have Ho8 := Ho7.frame f8 n16
            have b16l : b16 < w7.heap.size := Ho7.lt
            have n16' : kN κ E' w7.heap.size b16 = 0 := by rw [kN_old b16l]; exact Hκ.out
            have n2' : ∀ b, isB (.slice x2 y2 z2') b → kN κ E' w7.heap.size b = 0 := fun b hb => by
              have o := b8 b hb
              unfold kN
              rw [if_neg (by omega), if_neg o.2]
            obtain ⟨κ8, hκ8⟩ : ∃ κ8, κ8 = kN κ E' w7.heap.size := ⟨_, rfl⟩
            rw [← hκ8] at Hg8 n16' n2'
            have lo8 : w.heap.size ≤ w8.heap.size := Nat.le_trans lo7 f8.size
            have HF8 : Hid (Fr (fun _ => False) w w8) := (HF6.out.trans f7 (fun _ _ h => h)).trans f8 (fun b hb h => by have h1 := Hg7.kq.q1 b h; have h2 := (Hg7.kq.lo b (by omega)).1; omega)
            have hJ8 : KiAt w8 (.slice (some ⟨ib, 0, none⟩) 128 ic) J := (HJh.out.2.1.frame f7 (fun _ _ h => h)).frame f8 (fun b hb h => by
              have h1 := Hg7.kq.q1 b h
              have h2 := Hg7.kq.q7 b (by obtain ⟨k0, n0, h0⟩ := hb; cases h0; exact ⟨_, _, rfl⟩)
              omega)
            have H8 : Hid (True ∧ _) := ⟨trivial, And.intro Hg8 (And.intro Ho8 (And.intro n16' (And.intro n2' (And.intro lo8 (And.intro K8 (And.intro hMA hJ8))))))⟩
            clear hMA S8 sub8 K8 b8 f8 Hg7 f7 Ho7 lo7 Hg8 n16 Ho8 b16l n16' n2' hκ8 lo8 hJ8 H7
            simp only [resV]
            go_upto_region 48 with fail
            generalize hw9 : World.alloc w8 _ = w9
            have k9 : Fr (fun _ => False) w8 w9 := by rw [← hw9]; exact (Fr.refl _ _).alloc _
            have B9 : Blk w9 w8.heap.size 6 (c6 (.int .i64 er') (.int .i64 po') (.int .i64 en') (.int .i64 rt') (.slice x2 y2 z2') (.int .i64 fu')) := by rw [← hw9]; exact blk6 _ _ _ _ _ _ _ _
            clear hw9
            obtain ⟨_, Hg8, Ho8, n16', n2', lo8, K8, hMA, hJ8⟩ := H8.out
            have Hg9 := Hg8.same k9
            have Ho9 := Ho8.frame k9 (fun h => h)
            have q48 := sameCodeG (c := c) (m := am) Hg9.S (hJ8.frame k9 (fun _ _ h => h)) (fun b hb h => by
              have h1 := Hg9.kq.q1 b h
              have h2 := Hg9.kq.q7 b (by obtain ⟨k0, n0, h0⟩ := hb; cases h0; exact ⟨_, _, rfl⟩)
              omega) ha' hMA (.inl HJh.out.2.2) (K8.at.frame k9 (fun _ _ h => h)) (fun b hb h => by have h1 := n2' b hb; have h2 := Hg9.kq.q1 b h; omega)
            simp only [resV] at q48
            have HBo := Hg9.Bo
            have p0 := HBo.cell (o := 0) (by omega)
            have p1 := HBo.cell (o := 1) (by omega)
            have p2 := HBo.cell (o := 2) (by omega)
            simp only [o3] at p0 p1 p2
            have pl := HBo.lt
            have q0 := B9.cell (o := 0) (by omega)
            have q1 := B9.cell (o := 1) (by omega)
            have q2 := B9.cell (o := 2) (by omega)
            have q3 := B9.cell (o := 3) (by omega)
            have q4 := B9.cell (o := 4) (by omega)
            have q5 := B9.cell (o := 5) (by omega)
            simp only [c6] at q0 q1 q2 q3 q4 q5
            have ql := B9.lt
            have g1 := Ho9.cell (o := 1) (by omega)
            simp only [opC] at g1
            have gl9 := Ho9.lt
            have H9 : Hid (True ∧ _) := ⟨trivial, And.intro Hg9 (Nat.le_trans lo8 k9.size)⟩
            have HF9 : Hid (Fr (fun _ => False) w w9) := HF8.out.trans k9 (fun _ _ h => h)
            clear Hg8 Ho8 n16' n2' lo8 K8 hMA hJ8 Hg9 Ho9 HBo k9 B9 H8 HF8
            go_wp2_with fail
            refine q48.mono ?_
            rintro v' w10 ⟨rfl, E2, S2, sub2, k2'⟩
            clear q48 g1 gl9
            clear p0 p1 p2 pl
            clear q0 q1 q2 q3 q4 q5 ql
            obtain ⟨_, Hg9, lo9⟩ := H9.out
            have Hg10 := Hg9.sys S2 sub2 k2' lo9
            have HF10 : Hid (Fr (fun _ => False) w w10) := HF9.out.trans k2' (fun b hb h => by have h1 := Hg9.kq.q1 b h; have h2 := (Hg9.kq.lo b (by omega)).1; omega)
            have q50 := sameResultF (er := er) (po := po) (en := en) (rt := rt) (fu := fu) Hg10.k1 Hg10.k2 (by have := Hg10.le; omega)
            simp only [resV] at q50
            have HBb := Hg10.Bb
            have p0 := HBb.cell (o := 0) (by omega)
            have p1 := HBb.cell (o := 1) (by omega)
            have p2 := HBb.cell (o := 2) (by omega)
            have p3 := HBb.cell (o := 3) (by omega)
            have p4 := HBb.cell (o := 4) (by omega)
            have p5 := HBb.cell (o := 5) (by omega)
            have p6 := HBb.cell (o := 6) (by omega)
            have p7 := HBb.cell (o := 7) (by omega)
            have p8 := HBb.cell (o := 8) (by omega)
            have p9 := HBb.cell (o := 9) (by omega)
            have p10 := HBb.cell (o := 10) (by omega)
            have p11 := HBb.cell (o := 11) (by omega)
            have p12 := HBb.cell (o := 12) (by omega)
            simp only [c13] at p0 p1 p2 p3 p4 p5 p6 p7 p8 p9 p10 p11 p12
            have pl := HBb.lt
            have H10 : Hid (True ∧ _) := ⟨trivial, Hg10⟩
            clear HBb Hg9 lo9 Hg10 S2 sub2 k2' H9 HF9
            go_wp2_with fail
            refine q50.mono ?_
            rintro v' w11 ⟨rfl, k11⟩
            clear q50
            clear p0 p1 p2 p3 p4 p5 p6 p7 p8 p9 p10 p11 p12 pl
            have Hg11 := H10.out.2.same k11
            have HF11 : Hid (Fr (fun _ => False) w w11) := HF10.out.trans k11 (fun _ _ h => h)
            have q52 := untouchedF Hg11.mn
            have HLz : Hid (LG w.heap.size w11 gg e A bo bb c am nilS (.slice ma nmv mc)) := Hg11.none
            clear Hg11 k11 H10 HF10
            go_wp2_with fail
            refine q52.mono ?_
            rintro v' w12 ⟨rfl, ew⟩
            subst w12
            clear q52
            have qs := HLz.out.check
            go_wp2_with fail
            refine qs.mono ?_
            rintro v' wz ⟨rfl, kz⟩
            clear qs
            go_wp2_with fail
            go_roundg (gk - 1)
            case measure => have := Hkg.out; omega
            case rel => exact ⟨k + 1, _, rfl, by simp, by have := Hkg.out; omega, by have := Hlt2.out; omega, Nat.zero_le 4097, (HLz.out.same kz), (HF11.out.trans kz (fun _ _ h => h))⟩
        have z5 : (kind == 5) = false := by simpa using k5
        have qs := HL6.out.check
        go_wp2_with fail
        refine qs.mono ?_
        rintro v' wz ⟨rfl, kz⟩
        clear qs
        go_wp2_with fail
        go_roundg (gk - 1)
        case measure => have := Hkg.out; omega
        case rel => exact ⟨k + 1, txt, rfl, by simp, by have := Hkg.out; omega, by have := Hlt2.out; omega, htx, (HL6.out.same kz), (HF6.out.trans kz (fun _ _ h => h))⟩
      · have zlt : decide ((k : Int) < (n : Int)) = true := decide_eq_true (by omega)
        have zn : ¬ ((n : Int) < 4398046511104) := by omega
        go_wp2_with fail
        exact bodyPost_ret (v := .tuple #[.int .i64 (-1), .int .i64 4398046511104]) (by simp [results, Tryz.results6, go_sem]) rfl ⟨⟨_, rfl⟩, hfr⟩
    · have zlt : decide ((k : Int) < (n : Int)) = false := decide_eq_false (by omega)
      by_cases hn : (n : Int) < 4398046511104
      · go_wp2_with fail
        exact bodyPost_ret (v := .tuple #[.int .i64 (-1), .int .i64 n]) (by simp [results, Tryz.results6, go_sem]) rfl ⟨⟨_, rfl⟩, hfr⟩
      · go_wp2_with fail
        exact bodyPost_ret (v := .tuple #[.int .i64 (-1), .int .i64 4398046511104]) (by simp [results, Tryz.results6, go_sem]) rfl ⟨⟨_, rfl⟩, hfr⟩
end Go.Proofs.Qxb6500277aGreat
