/- The law: the desk, Stamp, Untouched. -/
import Derived.Test.Qxb6500283aGreatHL1
namespace Go.Proofs.Qxb6500283aGreat
open Go Go.RowKit

def stpC : Nat → Int := fun _ => -7
theorem stV : cpV stpC = .agg #[.int .i64 (-7), .int .i64 (-7), .int .i64 (-7), .int .i64 (-7), .int .i64 (-7), .int .i64 (-7), .int .i64 (-7), .int .i64 (-7)] := rfl
set_option maxRecDepth 100000 in
set_option maxHeartbeats 4000000 in
theorem stampF_any (w : World) : Calls Tryz.prog 59 #[] w fun v w' => v = .returned (cpV stpC) ∧ Fr (fun _ => False) w w' := by
  go_enter Tryz.func59, Tryz.ntmps59
  go_wp2_with fail
  refine wp_loop_rounds 9 ?_
  rw [rounds_succ]
  go_wp2_with fail
  rw [rounds_succ]
  go_wp2_with fail
  rw [rounds_succ]
  go_wp2_with fail
  rw [rounds_succ]
  go_wp2_with fail
  rw [rounds_succ]
  go_wp2_with fail
  rw [rounds_succ]
  go_wp2_with fail
  rw [rounds_succ]
  go_wp2_with fail
  rw [rounds_succ]
  go_wp2_with fail
  rw [rounds_succ]
  go_wp2_with fail
  exact bodyPost_ret (v := cpV stpC) (by simp [results, Tryz.results59, go_sem, cpV, stpC]) rfl ⟨rfl, ((Fr.refl _ _).alloc _).alloc _⟩
structure Dk where
  pat : ByteArray
  sub : ByteArray
  ax : Value
  am : Value
  cx : Value
  cm : Value
  oa : Nat → Value
  oc : Nat → Value
  na : Nat
  nc : Nat
def dkCell (D : Dk) (o : Nat) : Value := match o with | 0 => .string D.pat | 1 => .string D.sub | 2 => D.ax | 3 => D.am | 4 => D.cx | 5 => D.cm | 6 => D.oa 0 | 7 => D.oa 1 | 8 => D.oa 2 | 9 => D.oa 3 | 10 => D.oc 0 | 11 => D.oc 1 | 12 => D.oc 2 | 13 => D.oc 3 | 14 => .int .i64 (D.na : Nat) | _ => .int .i64 (D.nc : Nat)
theorem dk_oa (D : Dk) {k : Nat} (h : k < 4) : dkCell D (6 + k) = D.oa k := by
  obtain rfl | rfl | rfl | rfl : k = 0 ∨ k = 1 ∨ k = 2 ∨ k = 3 := by omega
  all_goals rfl
theorem dk_oc (D : Dk) {k : Nat} (h : k < 4) : dkCell D (10 + k) = D.oc k := by
  obtain rfl | rfl | rfl | rfl : k = 0 ∨ k = 1 ∨ k = 2 ∨ k = 3 := by omega
  all_goals rfl
def bang : ByteArray := ⟨#[33]⟩
structure OldOk (w : World) (D : Dk) : Prop where
  a : ∀ k, k < 4 → ∃ n, n ≤ 1000 ∧ CAt w (D.oa k) (List.replicate n stpC)
  c : ∀ k, k < 4 → ∃ n, n ≤ 1000 ∧ XAt w (D.oc k) (List.replicate n bang)
theorem CAt.sl {w : World} {v : Value} {cs : List (Nat → Int)} (h : CAt w v cs) : ∃ a k, v = .slice a cs.length k := by
  rcases h with ⟨rfl, a, k, rfl⟩ | ⟨b, k, m, f, rfl, _⟩
  · exact ⟨a, k, rfl⟩
  · exact ⟨_, _, rfl⟩
theorem XAt.sl {w : World} {v : Value} {cs : List ByteArray} (h : XAt w v cs) : ∃ a k, v = .slice a cs.length k := by
  rcases h with ⟨rfl, a, k, rfl⟩ | ⟨b, k, m, f, rfl, _⟩
  · exact ⟨a, k, rfl⟩
  · exact ⟨_, _, rfl⟩
set_option maxRecDepth 100000 in
set_option maxHeartbeats 8000000 in
theorem untouchedF {w : World} {d : Nat} {D : Dk} (hd : Blk w d 16 (dkCell D)) (ho : OldOk w D) :
    Calls Tryz.prog 60 #[.pointer (some ⟨d, 0, none⟩)] w fun v w' => v = .returned (.bool true) ∧ Fr (fun _ => False) w w' := by
  have hdl := hd.lt
  have Ho : Hid _ := ho
  clear ho
  go_enter Tryz.func60, Tryz.ntmps60
  go_wp2_with fail
  refine (stampF_any _).mono ?_
  rintro v w1 ⟨rfl, f1⟩
  have hst := capB w1 stpC
  have F1 := f1.alloc (.cells #[.int .i64 (stpC 0), .int .i64 (stpC 1), .int .i64 (stpC 2), .int .i64 (stpC 3), .int .i64 (stpC 4), .int .i64 (stpC 5), .int .i64 (stpC 6), .int .i64 (stpC 7)] 64)
  have hw1 := f1.size
  simp only [stpC] at hst F1
  rw [stV]
  go_wp2_with fail
  go_loopg [4] 4 (fun g iv wr => ∃ i : Nat, iv = .int .i64 i ∧ i + g = 4 ∧ Fr (fun _ => False) w wr ∧ Blk wr w1.heap.size 8 (fun _ => .int .i64 (-7)))
  case atStart => exact ⟨0, rfl, by omega, F1, hst⟩
  case round =>
    obtain ⟨i, rfl, hg, hfr, hS⟩ := hrel
    have hg' : i + gk = 4 := hg
    clear hg hst F1
    by_cases hlt : i < 4
    · have hI : decide ((i : Int) < 4) = true := decide_eq_true (by omega)
      have hib : (i : Int) ≤ 3 := by omega
      obtain ⟨n, hn, hv⟩ := Ho.out.a i hlt
      have hlen : (List.replicate n stpC).length = n := by simp
      go_wp2_with fail
      go_loopg [5] n (fun g2 jv wq => ∃ j : Nat, jv = .int .i64 j ∧ j + g2 = n ∧ Fr (fun _ => False) w wq ∧ Blk wq w1.heap.size 8 (fun _ => .int .i64 (-7)))
      case atStart => exact ⟨0, rfl, by omega, hfr, hS⟩
      case round =>
        obtain ⟨j, rfl, hg2, hfq, hSq⟩ := hrel
        have hg2' : j + gk = n := hg2
        clear hg2
        have hdq := hd.frame hfq (fun h => h)
        have hvq := hv.frame hfq (fun _ _ h => h)
        have cO := hdq.cell (o := 6 + i) (by omega)
        rw [dk_oa D hlt] at cO
        have hdql := hdq.lt
        have jb : (j : Int) ≤ 1000 := by omega
        by_cases hj : j < n
        · have hJ : decide ((j : Int) < (n : Nat)) = true := decide_eq_true (by omega)
          rcases hvq with ⟨h0, _⟩ | ⟨b, kk, m, f, hsl, hbk, hm, hf⟩
          · have := congrArg List.length h0; rw [hlen] at this; simp at this; omega
          rw [hsl, hlen] at cO
          rw [hlen] at hm
          have hjl : j < (List.replicate n stpC).length := by omega
          have a0 := hbk.cell (o := j * 8 + 0) (by omega)
          rw [hf j hjl 0 (by omega), List.getElem_replicate] at a0
          have a1 := hbk.cell (o := j * 8 + 1) (by omega)
          rw [hf j hjl 1 (by omega), List.getElem_replicate] at a1
          have a2 := hbk.cell (o := j * 8 + 2) (by omega)
          rw [hf j hjl 2 (by omega), List.getElem_replicate] at a2
          have a3 := hbk.cell (o := j * 8 + 3) (by omega)
          rw [hf j hjl 3 (by omega), List.getElem_replicate] at a3
          have a4 := hbk.cell (o := j * 8 + 4) (by omega)
          rw [hf j hjl 4 (by omega), List.getElem_replicate] at a4
          have a5 := hbk.cell (o := j * 8 + 5) (by omega)
          rw [hf j hjl 5 (by omega), List.getElem_replicate] at a5
          have a6 := hbk.cell (o := j * 8 + 6) (by omega)
          rw [hf j hjl 6 (by omega), List.getElem_replicate] at a6
          have a7 := hbk.cell (o := j * 8 + 7) (by omega)
          rw [hf j hjl 7 (by omega), List.getElem_replicate] at a7
          simp only [stpC, Nat.add_zero] at a0 a1 a2 a3 a4 a5 a6 a7
          have s0 := hSq.cell (o := 0) (by omega)
          have s1 := hSq.cell (o := 1) (by omega)
          have s2 := hSq.cell (o := 2) (by omega)
          have s3 := hSq.cell (o := 3) (by omega)
          have s4 := hSq.cell (o := 4) (by omega)
          have s5 := hSq.cell (o := 5) (by omega)
          have s6 := hSq.cell (o := 6) (by omega)
          have s7 := hSq.cell (o := 7) (by omega)
          have e1 := eqCaps stpC
          have e2 := eqg64
          simp only [stV] at e1
          have lb := hbk.lt
          have ls := hSq.lt
          go_wp2_with fail
          go_quiet (fail)
          go_wp2_with fail
          go_roundg (gk - 1)
          case measure => omega
          case rel => exact ⟨j + 1, by simp, by omega, hfq.drewN _, hSq.drewN _⟩
        · have hJ : decide ((j : Int) < (n : Nat)) = false := decide_eq_false (by omega)
          obtain ⟨aa, kk, hsl⟩ := hvq.sl
          rw [hsl, hlen] at cO
          obtain ⟨n2, hn2, hx⟩ := Ho.out.c i hlt
          have hlen2 : (List.replicate n2 bang).length = n2 := by simp
          go_wp2_with fail
          go_loopg [6] n2 (fun g3 jv wz => ∃ j : Nat, jv = .int .i64 j ∧ j + g3 = n2 ∧ Fr (fun _ => False) w wz ∧ Blk wz w1.heap.size 8 (fun _ => .int .i64 (-7)))
          case atStart => exact ⟨0, rfl, by omega, hfq, hSq⟩
          case round =>
            obtain ⟨y, rfl, hg3, hfz, hSz⟩ := hrel
            have hg3' : y + gk = n2 := hg3
            clear hg3 cO
            have hdz := hd.frame hfz (fun h => h)
            have hxz := hx.frame hfz (fun _ _ h => h)
            have cX := hdz.cell (o := 10 + i) (by omega)
            rw [dk_oc D hlt] at cX
            have hdzl := hdz.lt
            have yb : (y : Int) ≤ 1000 := by omega
            by_cases hy : y < n2
            · have hY : decide ((y : Int) < (n2 : Nat)) = true := decide_eq_true (by omega)
              rcases hxz with ⟨h0, _⟩ | ⟨b, kk, m, f, hsl, hbk, hm, hf⟩
              · have := congrArg List.length h0; rw [hlen2] at this; simp at this; omega
              rw [hsl, hlen2] at cX
              rw [hlen2] at hm
              have hyl : y < (List.replicate n2 bang).length := by omega
              have a0 := hbk.cell (o := y) (by omega)
              rw [hf y hyl, List.getElem_replicate] at a0
              simp only [bang] at a0
              have lb := hbk.lt
              go_wp2_with fail
              go_roundg (gk - 1)
              case measure => omega
              case rel => exact ⟨y + 1, by simp, by omega, hfz, hSz⟩
            · have hY : decide ((y : Int) < (n2 : Nat)) = false := decide_eq_false (by omega)
              obtain ⟨aa, kk, hsl⟩ := hxz.sl
              rw [hsl, hlen2] at cX
              go_wp2_with fail
              go_roundg (3 - i)
              case measure => omega
              case rel => exact ⟨i + 1, by simp, by omega, hfz, hSz⟩
    · have hI : decide ((i : Int) < 4) = false := decide_eq_false (by omega)
      go_wp2_with fail
      go_ret
      exact ⟨rfl, hfr⟩
end Go.Proofs.Qxb6500283aGreat
