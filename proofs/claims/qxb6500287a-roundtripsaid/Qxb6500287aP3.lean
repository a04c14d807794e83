/- wants, putSet. -/
import Derived.Test.Qxb6500287aP2
namespace Go.Proofs.Qxb6500287a
open Go Go.RowKit

set_option maxHeartbeats 4000000 in
theorem wants_any (kind : Int) (pl : Nat) (hp : pl ≤ 4) (w : World) : Calls Try.prog 37 #[.int .i64 kind, .int .i64 (pl : Nat)] w fun e w' => e = .returned (.bool (wantsB kind pl)) ∧ w' = w := by
  by_cases h5 : kind = 5
  · subst h5
    obtain rfl | rfl | rfl | rfl | rfl : pl = 0 ∨ pl = 1 ∨ pl = 2 ∨ pl = 3 ∨ pl = 4 := by omega
    all_goals
      go_enter Try.func37, Try.ntmps37
      go_wp2_with fail
      go_ret
      exact ⟨rfl, rfl⟩
  by_cases h4 : kind = 4
  · subst h4
    obtain rfl | rfl | rfl | rfl | rfl : pl = 0 ∨ pl = 1 ∨ pl = 2 ∨ pl = 3 ∨ pl = 4 := by omega
    all_goals
      go_enter Try.func37, Try.ntmps37
      go_wp2_with fail
      go_ret
      exact ⟨rfl, rfl⟩
  by_cases h0 : kind = 0
  · subst h0
    obtain rfl | rfl | rfl | rfl | rfl : pl = 0 ∨ pl = 1 ∨ pl = 2 ∨ pl = 3 ∨ pl = 4 := by omega
    all_goals
      go_enter Try.func37, Try.ntmps37
      go_wp2_with fail
      go_ret
      exact ⟨rfl, rfl⟩
  · have t5 : (kind == 5) = false := by simpa using h5
    have t4 : (kind == 4) = false := by simpa using h4
    have t0 : (kind == 0) = false := by simpa using h0
    have hw : wantsB kind pl = false := by simp [wantsB, h5, h4, h0]
    rw [hw]
    clear h5 h4 h0 hw
    go_enter Try.func37, Try.ntmps37
    go_wp2_with fail
    go_ret
    exact ⟨rfl, rfl⟩
theorem runT_len (c e : Nat) : (runT c e).length ≤ 9 := by
  unfold runT
  split <;> simp [byteT]
theorem runsT_len (P : BSet) : ∀ f c, (runsT P f c).length ≤ 9 * f
  | 0, _ => by simp [runsT]
  | f + 1, c => by
    unfold runsT
    split
    · split
      · have h1 := runT_len c (runEnd P (255 - c) c)
        have h2 := runsT_len P f (runEnd P (255 - c) c + 1)
        simp only [List.length_append]
        omega
      · have := runsT_len P f (c + 1)
        omega
    · simp
theorem runEnd_go {P : BSet} {e : Nat} (h : e + 1 < 256) (hp : P (e + 1) = true) : runEnd P (255 - e) e = runEnd P (255 - (e + 1)) (e + 1) := by
  obtain ⟨f, hf⟩ : ∃ f, 255 - e = f + 1 := ⟨255 - e - 1, by omega⟩
  rw [hf, show 255 - (e + 1) = f by omega]
  simp [runEnd, h, hp]
theorem runEnd_stop {P : BSet} {e : Nat} (hp : e + 1 < 256 → P (e + 1) = false) : runEnd P (255 - e) e = e := by
  cases hf : 255 - e with
  | zero => rfl
  | succ f =>
    have : P (e + 1) = false := hp (by omega)
    simp [runEnd, this]
set_option maxRecDepth 100000 in
set_option maxHeartbeats 16000000 in
theorem putSet_any {w : World} {v : Value} {l : List Nat} (h : BtAt w v l) (hlen : l.length ≤ 549755813888) (P : BSet) : Calls Try.prog 38 #[v, setV P] w fun e w' => ∃ v', e = .returned v' ∧ Put w v l (setT P) v' w' := by
  obtain ⟨a, n, cap, rfl⟩ := h.sl
  have FB := (Fr.refl (fun _ => False) w).alloc (.cells #[.int .u64 (wd P 0 : Nat), .int .u64 (wd P 1 : Nat), .int .u64 (wd P 2 : Nat), .int .u64 (wd P 3 : Nat)] 47)
  have hS0 := Blk.u64four w (wd P) 47
  have hvB := h.frame FB (fun _ _ h => h)
  have F1 := (Fr.refl (fun _ => False) (w.alloc (.cells #[.int .u64 (wd P 0 : Nat), .int .u64 (wd P 1 : Nat), .int .u64 (wd P 2 : Nat), .int .u64 (wd P 3 : Nat)] 47))).alloc (.cells #[.int .u8 91] 5)
  have hv1 := hvB.frame F1 (fun _ _ h => h)
  have hfb := fresh_bytes (w.alloc (.cells #[.int .u64 (wd P 0 : Nat), .int .u64 (wd P 1 : Nat), .int .u64 (wd P 2 : Nat), .int .u64 (wd P 3 : Nat)] 47)) [91] #[.int .u8 91] rfl
  simp only [World.size_alloc] at hfb
  have Hfb : Hid _ := hfb
  clear hfb
  have hvl : ∀ b, isBlk (.slice a n cap) b → b < w.heap.size := fun b hb => h.lt hb
  unfold setV
  go_enter Try.func38, Try.ntmps38
  go_wp2_with (at_builtin; refine wpList_appendB (by rfl) _ _ (by rfl) (.slice a n cap) l [91] _ (by rfl) (by rfl) hv1 Hfb.out (by simp) (by simp) (by omega) ?_; intro v8 w8 hP8; obtain ⟨a8, n8, cap8, rfl⟩ := hP8.bt.sl)
  have hP0 := hP8.pre F1
  have hbox : ∀ {V : Value} {t : List Nat} {W : World}, Put (w.alloc (.cells #[.int .u64 (wd P 0 : Nat), .int .u64 (wd P 1 : Nat), .int .u64 (wd P 2 : Nat), .int .u64 (wd P 3 : Nat)] 47)) (.slice a n cap) l t V W → ¬ isBlk V w.heap.size := fun hP hb => by
    rcases hP.bk _ hb with e | e
    · have := hvl _ e; omega
    · simp only [World.size_alloc] at e; omega
  have hS8 := hS0.frame hP0.fr (fun e => by have := hvl _ e; omega)
  go_loopg [5, 0] 256 (fun gk cv vv wr => ∃ (c f : Nat) (t : List Nat) (a' : Option Addr) (n' cap' : Nat), cv = .int .i64 (c : Nat) ∧ vv = .slice a' n' cap' ∧ c + gk = 256 ∧ 256 ≤ c + f ∧ t ++ runsT P f c = runsT P 256 0 ∧ Put (w.alloc (.cells #[.int .u64 (wd P 0 : Nat), .int .u64 (wd P 1 : Nat), .int .u64 (wd P 2 : Nat), .int .u64 (wd P 3 : Nat)] 47)) (.slice a n cap) l (91 :: t) (.slice a' n' cap') wr ∧ Blk wr w.heap.size 4 (u64s (wd P)))
  case atStart => exact ⟨0, 256, [], a8, n8, cap8, rfl, rfl, by omega, by omega, rfl, hP0, hS8⟩
  case round =>
    clear hP8 hP0 hS8 hv1 Hfb hS0
    obtain ⟨c, f, t, a', n', cap', rfl, rfl, hcg, hcf, htx, hP, hS⟩ := hrel
    have hcg' : c + gk = 256 := hcg
    clear hcg
    have Htx : Hid _ := htx
    have htl : t.length ≤ 2304 := by
      have h1 := runsT_len P 256 0
      rw [← htx] at h1
      simp only [List.length_append] at h1
      omega
    clear htx
    have hSl := hS.lt
    have hll : (l ++ 91 :: t).length ≤ 549755816200 := by simp; omega
    have Hll : Hid _ := hll
    clear hll
    by_cases hc : c < 256
    · have hcd : decide ((c : Int) < 256) = true := decide_eq_true (by omega)
      have hcb : (c : Int) ≤ 255 := by omega
      obtain ⟨f', rfl⟩ : ∃ f', f = f' + 1 := ⟨f - 1, by omega⟩
      obtain ⟨s0, s1, s2, s3⟩ := hS.four
      go_wp2_with fail
      have hh := has_any P c hc wr
      unfold setV at hh
      refine hh.mono ?_
      rintro e w2 ⟨rfl, f2⟩
      have hP2 := hP.post f2
      have hS2 := hS.frame f2 (fun h => h)
      clear s0 s1 s2 s3 hh
      cases hp : P c with
      | false =>
        have Hp : Hid _ := hp
        clear hp
        go_wp2_with fail
        go_roundg (gk - 1)
        case measure => omega
        case rel =>
          refine ⟨c + 1, f', t, a', n', cap', by simp, rfl, by omega, by omega, ?_, hP2, hS2⟩
          rw [← Htx.out]
          simp [runsT, hc, Hp.out]
      | true =>
        have Hp : Hid _ := hp
        clear hp
        go_wp2_with fail
        go_loopg [5] (255 - c) (fun g2 ev wq => ∃ e : Nat, ev = .int .i64 (e : Nat) ∧ c ≤ e ∧ e + g2 = 255 ∧ runEnd P (255 - e) e = runEnd P (255 - c) c ∧ Fr (fun _ => False) w2 wq)
        case atStart => exact ⟨c, rfl, by omega, by omega, rfl, Fr.refl _ _⟩
        case round =>
          obtain ⟨e, rfl, hce, heg, hre, hfq⟩ := hrel
          have heg' : e + gk = 255 := heg
          clear heg
          have Hre : Hid _ := hre
          clear hre
          have hPq := hP2.post hfq
          have hSq := hS2.frame hfq (fun h => h)
          have hSql := hSq.lt
          have heb : (e : Int) ≤ 255 := by omega
          by_cases he : e + 1 < 256
          · have hed : decide ((e : Int) + 1 < 256) = true := decide_eq_true (by omega)
            have heb2 : (e : Int) ≤ 254 := by omega
            obtain ⟨s0, s1, s2, s3⟩ := hSq.four
            go_wp2_with fail
            have hh := has_any P (e + 1) he wr
            unfold setV at hh
            refine hh.mono ?_
            rintro ee w3 ⟨rfl, f3⟩
            have hPq3 := hPq.post f3
            have hSq3 := hSq.frame f3 (fun h => h)
            clear s0 s1 s2 s3 hh
            cases hpe : P (e + 1) with
            | true =>
              have Hpe : Hid _ := hpe
              clear hpe
              go_wp2_with fail
              go_roundg (gk - 1)
              case measure => omega
              case rel => exact ⟨e + 1, by simp, by omega, by omega, by rw [← Hre.out, runEnd_go he Hpe.out], hfq.trans f3 (fun _ _ h => h)⟩
            | false =>
              have Hend : Hid _ := (show runEnd P (255 - c) c = e by rw [← Hre.out]; exact runEnd_stop (fun _ => hpe))
              clear hpe
              go_wp2_with fail
              have hll2 := Hll.out
              refine (putByte_any hPq3.bt (by omega) c hc).mono ?_
              rintro ee w4 ⟨v4, rfl, hP4⟩
              clear hll2
              obtain ⟨a4, n4, cap4, rfl⟩ := hP4.bt.sl
              have hP5 := hPq3.trans hP4
              have hS5 := hSq3.frame hP4.fr (hbox hPq3)
              by_cases hlt : c < e
              · have hld : decide ((c : Int) < e) = true := decide_eq_true (by omega)
                have F6 := (Fr.refl (fun _ => False) w4).alloc (.cells #[.int .u8 45] 5)
                have hfb := fresh_bytes w4 [45] #[.int .u8 45] rfl
                have Hfb : Hid _ := hfb
                clear hfb
                have hv6 := hP5.bt.frame F6 (fun _ _ h => h)
                go_wp2_with (at_builtin; refine wpList_appendB (by rfl) _ _ (by rfl) (.slice a4 n4 cap4) (l ++ (91 :: t ++ byteT c)) [45] _ (by rfl) (by rfl) hv6 Hfb.out (by simp) (by simp) (by have := Hll.out; simp [byteT] at this ⊢; omega) ?_; intro v7 w7 hP7; obtain ⟨a7, n7, cap7, rfl⟩ := hP7.bt.sl)
                have hP8 := hP5.trans (hP7.pre F6)
                have hS8 := (hS5.frame F6 (fun h => h)).frame hP7.fr (hbox hP5)
                refine (putByte_any hP8.bt (by have := Hll.out; simp [byteT] at this ⊢; omega) e (by omega)).mono ?_
                rintro ee w9 ⟨v9, rfl, hP9⟩
                obtain ⟨a9, n9, cap9, rfl⟩ := hP9.bt.sl
                have hP10 := hP8.trans hP9
                have hS10 := hS8.frame hP9.fr (hbox hP8)
                go_wp2_with fail
                go_roundg (255 - e)
                case measure => omega
                case rel =>
                  refine ⟨e + 1, f', t ++ runT c e, a9, n9, cap9, by simp, rfl, by omega, by omega, ?_, ?_, hS10⟩
                  · rw [← Htx.out]
                    simp [runsT, hc, Hp.out, Hend.out]
                  · have : 91 :: t ++ byteT c ++ [45] ++ byteT e = 91 :: (t ++ runT c e) := by simp [runT, hlt]
                    rw [← this]
                    exact hP10
              · have hld : decide ((c : Int) < e) = false := decide_eq_false (by omega)
                go_wp2_with fail
                go_roundg (255 - e)
                case measure => omega
                case rel =>
                  refine ⟨e + 1, f', t ++ runT c e, a4, n4, cap4, by simp, rfl, by omega, by omega, ?_, ?_, hS5⟩
                  · rw [← Htx.out]
                    simp [runsT, hc, Hp.out, Hend.out]
                  · have : 91 :: t ++ byteT c = 91 :: (t ++ runT c e) := by simp [runT, hlt]
                    rw [← this]
                    exact hP5
          · have hed : decide ((e : Int) + 1 < 256) = false := decide_eq_false (by omega)
            have Hend : Hid _ := (show runEnd P (255 - c) c = e by rw [← Hre.out]; exact runEnd_stop (fun h => absurd h he))
            go_wp2_with fail
            have hll2 := Hll.out
            refine (putByte_any hPq.bt (by omega) c hc).mono ?_
            rintro ee w4 ⟨v4, rfl, hP4⟩
            clear hll2
            obtain ⟨a4, n4, cap4, rfl⟩ := hP4.bt.sl
            have hP5 := hPq.trans hP4
            have hS5 := hSq.frame hP4.fr (hbox hPq)
            by_cases hlt : c < e
            · have hld : decide ((c : Int) < e) = true := decide_eq_true (by omega)
              have F6 := (Fr.refl (fun _ => False) w4).alloc (.cells #[.int .u8 45] 5)
              have hfb := fresh_bytes w4 [45] #[.int .u8 45] rfl
              have Hfb : Hid _ := hfb
              clear hfb
              have hv6 := hP5.bt.frame F6 (fun _ _ h => h)
              go_wp2_with (at_builtin; refine wpList_appendB (by rfl) _ _ (by rfl) (.slice a4 n4 cap4) (l ++ (91 :: t ++ byteT c)) [45] _ (by rfl) (by rfl) hv6 Hfb.out (by simp) (by simp) (by have := Hll.out; simp [byteT] at this ⊢; omega) ?_; intro v7 w7 hP7; obtain ⟨a7, n7, cap7, rfl⟩ := hP7.bt.sl)
              have hP8 := hP5.trans (hP7.pre F6)
              have hS8 := (hS5.frame F6 (fun h => h)).frame hP7.fr (hbox hP5)
              refine (putByte_any hP8.bt (by have := Hll.out; simp [byteT] at this ⊢; omega) e (by omega)).mono ?_
              rintro ee w9 ⟨v9, rfl, hP9⟩
              obtain ⟨a9, n9, cap9, rfl⟩ := hP9.bt.sl
              have hP10 := hP8.trans hP9
              have hS10 := hS8.frame hP9.fr (hbox hP8)
              go_wp2_with fail
              go_roundg (255 - e)
              case measure => omega
              case rel =>
                refine ⟨e + 1, f', t ++ runT c e, a9, n9, cap9, by simp, rfl, by omega, by omega, ?_, ?_, hS10⟩
                · rw [← Htx.out]
                  simp [runsT, hc, Hp.out, Hend.out]
                · have : 91 :: t ++ byteT c ++ [45] ++ byteT e = 91 :: (t ++ runT c e) := by simp [runT, hlt]
                  rw [← this]
                  exact hP10
            · have hld : decide ((c : Int) < e) = false := decide_eq_false (by omega)
              go_wp2_with fail
              go_roundg (255 - e)
              case measure => omega
              case rel =>
                refine ⟨e + 1, f', t ++ runT c e, a4, n4, cap4, by simp, rfl, by omega, by omega, ?_, ?_, hS5⟩
                · rw [← Htx.out]
                  simp [runsT, hc, Hp.out, Hend.out]
                · have : 91 :: t ++ byteT c = 91 :: (t ++ runT c e) := by simp [runT, hlt]
                  rw [← this]
                  exact hP5
    · have hcd : decide ((c : Int) < 256) = false := decide_eq_false (by omega)
      have hend : runsT P f c = [] := by
        cases f with
        | zero => rfl
        | succ f => simp [runsT, hc]
      have F9 := (Fr.refl (fun _ => False) wr).alloc (.cells #[.int .u8 93] 5)
      have hfb := fresh_bytes wr [93] #[.int .u8 93] rfl
      have Hfb : Hid _ := hfb
      clear hfb
      have hv9 := hP.bt.frame F9 (fun _ _ h => h)
      have Hend : Hid _ := hend
      clear hend
      go_wp2_with (at_builtin; refine wpList_appendB (by rfl) _ _ (by rfl) (.slice a' n' cap') (l ++ 91 :: t) [93] _ (by rfl) (by rfl) hv9 Hfb.out (by simp) (by simp) (by have := Hll.out; omega) ?_; intro v9 w9 hP9; obtain ⟨a9, n9, cap9, rfl⟩ := hP9.bt.sl)
      go_ret
      refine ⟨_, rfl, ?_⟩
      have hF := (hP.trans (hP9.pre F9)).pre FB
      have ht : 91 :: t ++ [93] = setT P := by
        unfold setT
        rw [← Htx.out, Hend.out]
        simp
      rw [ht] at hF
      exact hF
end Go.Proofs.Qxb6500287a
