/- FindAll. -/
import Derived.Test.Qxb6500283aGreatHG2
import Derived.Test.Qxb6500283aGreatHL3
namespace Go.Proofs.Qxb6500283aGreat
open Go Go.RowKit

/-- What FindAll answers. -/
def FAll (p s : ByteArray) (er q : Int) (cs : List Cp) : Prop := (er ≠ 0 ∧ cs = [] ∧ ∃ o, Sol p s 0 er q o) ∨ (er = 0 ∧ q = 0 ∧ All p s 0 cs)
theorem All.sol {p s : ByteArray} {l : List Cp} (h : All p s 0 l) : ∃ q o, Sol p s 0 0 q o := by
  cases h with
  | stop h1 h2 => exact ⟨_, _, h2⟩
  | past h => omega
  | step h1 _ => exact ⟨_, _, h1⟩
theorem FAll.det {p s : ByteArray} {er q er' q' : Int} {l l' : List Cp} (h : FAll p s er q l) (h' : FAll p s er' q' l') : er = er' ∧ q = q' ∧ l = l' := by
  rcases h with ⟨h1, rfl, o, hS⟩ | ⟨rfl, rfl, hA⟩
  · rcases h' with ⟨k1, rfl, o', kS⟩ | ⟨rfl, rfl, kA⟩
    · have := hS.det kS; exact ⟨this.1, this.2.1, rfl⟩
    · obtain ⟨q2, o2, hq⟩ := kA.sol
      exact absurd (hS.det hq).1 h1
  · rcases h' with ⟨k1, rfl, o', kS⟩ | ⟨rfl, rfl, kA⟩
    · obtain ⟨q2, o2, hq⟩ := hA.sol
      exact absurd (kS.det hq).1 k1
    · exact ⟨rfl, rfl, hA.det kA⟩
theorem ScanR.all {p s : ByteArray} {er q er' q' : Int} {o : Option Cp} {cs : List Cp} (h : ScanR p s er q cs er' q') (hS : Sol p s 0 er q o) : FAll p s er' q' cs := by
  rcases h with ⟨h1, rfl, rfl, rfl⟩ | ⟨rfl, rfl, rfl, hA⟩
  · exact .inl ⟨h1, rfl, o, hS⟩
  · exact .inr ⟨rfl, rfl, hA⟩
def zC : Value := .agg #[.int .i64 0, .int .i64 0, .int .i64 0, .int .i64 0, .int .i64 0, .int .i64 0, .int .i64 0, .int .i64 0]
set_option maxRecDepth 100000 in
set_option maxHeartbeats 8000000 in
theorem findAllF {X : Nat → Prop} {w : World} {A : Fa} {cs : List Cp} {ps : List Pc} {G : Nat} (h : Fnd X w A cs ps G) (hG : G ≤ 700000000000000000) (p s : ByteArray) :
    Calls Tryz.prog 48 #[.pointer (some ⟨A.fb, 0, none⟩), .string p, .string s] w fun v w' => ∃ er q lv cs', v = .returned (.tuple #[lv, .int .i64 er, .int .i64 q]) ∧ FAll p s er q cs' ∧ LVc w' lv cs' ∧ cs'.length ≤ 257 ∧ (∀ b, isBk lv b → w.heap.size ≤ b) ∧ (∃ cs2, Fnd (fun c => X c ∨ isBk lv c) w' A cs2 ps (G + 100000)) ∧ Fr (fun c => A.eo c ∨ A.fo c) w w' := by
  have noB : ∀ b, ¬ isBk (.slice none 0 0) b := fun b hb => by obtain ⟨_, _, e⟩ := hb; cases e
  by_cases hL : 128 < p.size ∨ 256 < s.size
  · have hsol : Sol p s 0 12 0 none := .long hL
    have hd : (128 < (p.size : Int)) ∨ ((p.size : Int) ≤ 128 ∧ 256 < (s.size : Int)) := by omega
    have hfn := h.le (show G ≤ G + 100000 by omega)
    clear hL
    rcases hd with hd | ⟨hd, hd2⟩
    all_goals
      go_enter Tryz.func48, Tryz.ntmps48
      go_wp2_with fail
      refine bodyPost_ret (v := .tuple #[.slice none 0 0, .int .i64 12, .int .i64 0]) (by simp [results, Tryz.results48, go_sem]) rfl ?_
      exact ⟨12, 0, .slice none 0 0, [], rfl, .inl ⟨by decide, rfl, _, hsol⟩, .inl ⟨rfl, rfl⟩, by simp, fun b hb => absurd hb (noB b), ⟨cs, hfn.step (Fr.refl (fun _ => False) w) (fun _ h => h.elim) (fun c hc => .inl (hc.elim id (fun hb => absurd hb (noB c))))⟩, Fr.refl _ _⟩
  · have hp1 : (p.size : Int) ≤ 128 := by omega
    have hs1 : (s.size : Int) ≤ 256 := by omega
    have hss : s.size ≤ 256 := by omega
    clear hL
    obtain ⟨ea, eb, hE⟩ := h.eng
    have g0 := h.pm.fd.cell (o := 0) (by omega)
    have g1 := h.pm.fd.cell (o := 1) (by omega)
    have g2 := h.pm.fd.cell (o := 2) (by omega)
    simp only [fdCell] at g0 g1 g2
    have lF := h.pm.fd.lt
    go_enter Tryz.func48, Tryz.ntmps48
    go_wp2_with fail
    refine (hasG hE (by omega) p s 0).mono ?_
    rintro v w1 ⟨⟨er0, q0, o0, rfl, hS⟩, n1, m1, hE1, f1⟩
    have fd1 := h.ofE f1 hE1
    have F1 : Fr (fun c => A.eo c ∨ A.fo c) w w1 := f1.mono (fun _ _ h => .inl h)
    have kA := (Fr.refl (fun _ => False) w1).alloc (.cells #[.int .i64 er0, .int .i64 q0, .bool (okOf o0), .int .i64 (-1), .int .i64 (-1), .int .i64 (-1), .int .i64 (-1), .int .i64 (-1), .int .i64 (-1), .int .i64 (-1), .int .i64 (-1)] 66)
    have fd2 := fd1.same kA
    have F2 := F1.trans kA (fun _ _ h => h.elim)
    have hcall := scan_any fd2 (by omega) p s hss hS
    rw [foundV_no] at hcall ⊢
    have Hcall : Hid _ := hcall
    clear hcall g0 g1 g2 hE hE1
    go_wp2_with fail
    refine Calls.mono Hcall.out ?_
    rintro v w3 ⟨er, q, cs', rfl, hR, fd3, f3⟩
    have hFA := hR.all hS
    have F3 := F2.trans f3 (fun _ _ h => h)
    have hlen : cs'.length ≤ 257 := fd3.sm.le
    have HFA : Hid _ := hFA
    clear hR hFA Hcall fd2 fd1 kA F1 F2
    by_cases he : er = 0
    · subst he
      have g0 := fd3.pm.fd.cell (o := 0) (by omega)
      have g1 := fd3.pm.fd.cell (o := 1) (by omega)
      have g2 := fd3.pm.fd.cell (o := 2) (by omega)
      simp only [fdCell] at g0 g1 g2
      have lF := fd3.pm.fd.lt
      have hq : q = 0 := by
        rcases HFA.out with ⟨h1, _⟩ | ⟨_, h2, _⟩
        · exact absurd rfl h1
        · exact h2
      subst hq
      have hAll : All p s 0 cs' := by
        rcases HFA.out with ⟨h1, _⟩ | ⟨_, _, h2⟩
        · exact absurd rfl h1
        · exact h2
      have HAll : Hid _ := hAll
      clear hAll
      have hlb : (cs'.length : Int) ≤ 257 := by omega
      have hz3 := F3.size
      go_wp2_with (refine wpList_makeB (by rfl) 40 _ _ (by rfl) 64 8 64 zC cs'.length (by rfl) (by rfl) Tryz.underlying40 (by kernel_rfl) (by kernel_rfl) (by kernel_rfl) (by omega) (by omega) ?_; intro w4 f4 s4 b4)
      obtain ⟨nb, hnb⟩ : ∃ nb, nb = w3.heap.size := ⟨_, rfl⟩
      have hnw : w.heap.size ≤ nb := by omega
      have fd4 := fd3.step (X' := fun c => X c ∨ c = nb) f4 (fun _ h => h.elim) (fun c hc => hc.imp id (fun e => by omega))
      have F4 := F3.trans f4 (fun _ _ h => h.elim)
      rw [← hnb] at b4 ⊢
      clear hnb g0 g1 g2 lF fd3 s4
      go_loopg [13] cs'.length (fun g iv wr => ∃ (i : Nat) (f : Nat → Value), iv = .int .i64 i ∧ i + g = cs'.length ∧ Blk wr nb (cs'.length * 8) f ∧ (∀ k (hk : k < cs'.length), k < i → ∀ j, j < 8 → f (k * 8 + j) = .int .i64 (cs'[k] j)) ∧ Fr (fun c => c = nb) w4 wr)
      case atStart => exact ⟨0, _, rfl, by omega, b4, fun k hk h0 => by omega, Fr.refl _ _⟩
      case round =>
        obtain ⟨i, f, rfl, hg, hcb, hf, hfr⟩ := hrel
        have hg' : i + gk = cs'.length := hg
        have Hf : Hid _ := hf
        clear hg hf b4
        have fdr := fd4.step (X' := fun c => X c ∨ c = nb) hfr (fun c hc => .inl (.inr hc)) (fun c hc => .inl hc)
        have ib : (i : Int) ≤ 257 := by omega
        have g0 := fdr.pm.fd.cell (o := 0) (by omega)
        have g1 := fdr.pm.fd.cell (o := 1) (by omega)
        have g2 := fdr.pm.fd.cell (o := 2) (by omega)
        simp only [fdCell] at g0 g1 g2
        have lF := fdr.pm.fd.lt
        by_cases hlt : i < cs'.length
        · have hI : decide ((i : Int) < (cs'.length : Nat)) = true := decide_eq_true (by omega)
          have s0 := fdr.sm.cells hlt (j := 0) (by omega)
          have a0 := hcb.cell (o := i * 8) (by omega)
          have s1 := fdr.sm.cells hlt (j := 1) (by omega)
          have a1 := hcb.cell (o := i * 8 + 1) (by omega)
          have s2 := fdr.sm.cells hlt (j := 2) (by omega)
          have a2 := hcb.cell (o := i * 8 + 2) (by omega)
          have s3 := fdr.sm.cells hlt (j := 3) (by omega)
          have a3 := hcb.cell (o := i * 8 + 3) (by omega)
          have s4 := fdr.sm.cells hlt (j := 4) (by omega)
          have a4 := hcb.cell (o := i * 8 + 4) (by omega)
          have s5 := fdr.sm.cells hlt (j := 5) (by omega)
          have a5 := hcb.cell (o := i * 8 + 5) (by omega)
          have s6 := fdr.sm.cells hlt (j := 6) (by omega)
          have a6 := hcb.cell (o := i * 8 + 6) (by omega)
          have s7 := fdr.sm.cells hlt (j := 7) (by omega)
          have a7 := hcb.cell (o := i * 8 + 7) (by omega)
          simp only [Nat.add_zero] at s0
          have z := hcb.frozen
          have lcb := hcb.lt
          have hkey := ((((((((hcb.set (i * 8) (.int .i64 (cs'[i] 0))).set (i * 8 + 1) (.int .i64 (cs'[i] 1))).set (i * 8 + 2) (.int .i64 (cs'[i] 2))).set (i * 8 + 3) (.int .i64 (cs'[i] 3))).set (i * 8 + 4) (.int .i64 (cs'[i] 4))).set (i * 8 + 5) (.int .i64 (cs'[i] 5))).set (i * 8 + 6) (.int .i64 (cs'[i] 6))).set (i * 8 + 7) (.int .i64 (cs'[i] 7)))
          have FK := ((((((((hfr.setC nb (i * 8) (.int .i64 (cs'[i] 0)) (fun _ => rfl)).setC nb (i * 8 + 1) (.int .i64 (cs'[i] 1)) (fun _ => rfl)).setC nb (i * 8 + 2) (.int .i64 (cs'[i] 2)) (fun _ => rfl)).setC nb (i * 8 + 3) (.int .i64 (cs'[i] 3)) (fun _ => rfl)).setC nb (i * 8 + 4) (.int .i64 (cs'[i] 4)) (fun _ => rfl)).setC nb (i * 8 + 5) (.int .i64 (cs'[i] 5)) (fun _ => rfl)).setC nb (i * 8 + 6) (.int .i64 (cs'[i] 6)) (fun _ => rfl)).setC nb (i * 8 + 7) (.int .i64 (cs'[i] 7)) (fun _ => rfl))
          have hnew : ∀ k (hk : k < cs'.length), k < i + 1 → ∀ j, j < 8 → (upd (upd (upd (upd (upd (upd (upd (upd f (i * 8) (.int .i64 (cs'[i] 0))) (i * 8 + 1) (.int .i64 (cs'[i] 1))) (i * 8 + 2) (.int .i64 (cs'[i] 2))) (i * 8 + 3) (.int .i64 (cs'[i] 3))) (i * 8 + 4) (.int .i64 (cs'[i] 4))) (i * 8 + 5) (.int .i64 (cs'[i] 5))) (i * 8 + 6) (.int .i64 (cs'[i] 6))) (i * 8 + 7) (.int .i64 (cs'[i] 7))) (k * 8 + j) = .int .i64 (cs'[k] j) := fun k hk hki j hj => by
            by_cases he : k = i
            · subst he
              obtain rfl | rfl | rfl | rfl | rfl | rfl | rfl | rfl : j = 0 ∨ j = 1 ∨ j = 2 ∨ j = 3 ∨ j = 4 ∨ j = 5 ∨ j = 6 ∨ j = 7 := by omega
              all_goals simp [upd]
            · simp only [upd]
              rw [if_neg (by omega), if_neg (by omega), if_neg (by omega), if_neg (by omega), if_neg (by omega), if_neg (by omega), if_neg (by omega), if_neg (by omega)]
              exact Hf.out k hk (by omega) j hj
          have Hk : Hid _ := hkey
          have HFK : Hid _ := FK
          have Hnew : Hid _ := hnew
          clear hkey FK hnew
          go_wp2_with fail
          go_roundg (gk - 1)
          case measure => omega
          case rel => exact ⟨i + 1, _, by simp, by omega, Hk.out, Hnew.out, HFK.out⟩
        · have hI : decide ((i : Int) < (cs'.length : Nat)) = false := decide_eq_false (by omega)
          go_wp2_with fail
          refine bodyPost_ret (v := .tuple #[.slice (some ⟨nb, 0, none⟩) cs'.length cs'.length, .int .i64 0, .int .i64 0]) (by simp [results, Tryz.results48, go_sem]) rfl ?_
          have hH : HoldsC f cs' := fun k hk j hj => Hf.out k hk (by omega) j hj
          exact ⟨0, 0, _, cs', rfl, .inr ⟨rfl, rfl, HAll.out⟩, .inr ⟨nb, f, rfl, hcb, hH⟩, hlen, fun b hb => by rw [isB_one hb]; exact hnw, ⟨cs', (fdr.step (X' := fun c => X c ∨ isBk (.slice (some ⟨nb, 0, none⟩) cs'.length cs'.length) c) (Fr.refl (fun _ => False) _) (fun _ h => h.elim) (fun c hc => .inl (hc.imp id (fun hb => isB_one hb)))).le (by omega)⟩, F4.trans hfr (fun c hl e => by omega)⟩
    · have t0 : (er != 0) = true := by simpa using he
      have HE : Hid _ := he
      clear he
      go_wp2_with fail
      refine bodyPost_ret (v := .tuple #[.slice none 0 0, .int .i64 er, .int .i64 q]) (by simp [results, Tryz.results48, go_sem]) rfl ?_
      have hc0 : cs' = [] := by
        rcases HFA.out with ⟨_, h2, _⟩ | ⟨h2, _⟩
        · exact h2
        · exact absurd h2 HE.out
      subst hc0
      exact ⟨er, q, .slice none 0 0, [], rfl, HFA.out, .inl ⟨rfl, rfl⟩, by simp, fun b hb => absurd hb (noB b), ⟨_, (fd3.step (Fr.refl (fun _ => False) w3) (fun _ h => h.elim) (fun c hc => .inl (hc.elim id (fun hb => absurd hb (noB c))))).le (by omega)⟩, F3⟩
end Go.Proofs.Qxb6500283aGreat
