/- Split. -/
import Derived.Test.Qxb6500283aGreatHG4
import Derived.Test.Qxb6500283aGreatHL4
namespace Go.Proofs.Qxb6500283aGreat
open Go Go.RowKit

/-- The pieces between the matches, from last on. -/
def cutsFrom (s : ByteArray) : List Cp → Nat → List ByteArray
  | [], last => [s.extract last s.size]
  | c :: r, last => s.extract last (c 0).toNat :: cutsFrom s r (c 1).toNat
theorem cuts_len (s : ByteArray) : ∀ (cs : List Cp) (last : Nat), (cutsFrom s cs last).length = cs.length + 1
  | [], _ => rfl
  | c :: r, last => by simp [cutsFrom, cuts_len s r]
/-- What Split answers. -/
def FCut (p s : ByteArray) (er q : Int) (xs : List ByteArray) : Prop := ∃ cs, FAll p s er q cs ∧ ((er ≠ 0 ∧ xs = []) ∨ (er = 0 ∧ xs = cutsFrom s cs 0))
theorem FCut.det {p s : ByteArray} {er q er' q' : Int} {l l' : List ByteArray} (h : FCut p s er q l) (h' : FCut p s er' q' l') : er = er' ∧ q = q' ∧ l = l' := by
  obtain ⟨cs, h1, h2⟩ := h
  obtain ⟨cs', k1, k2⟩ := h'
  obtain ⟨rfl, rfl, rfl⟩ := h1.det k1
  refine ⟨rfl, rfl, ?_⟩
  rcases h2 with ⟨a, rfl⟩ | ⟨a, rfl⟩
  · rcases k2 with ⟨b, rfl⟩ | ⟨b, rfl⟩
    · rfl
    · exact absurd b a
  · rcases k2 with ⟨b, rfl⟩ | ⟨b, rfl⟩
    · exact absurd a b
    · rfl
set_option maxRecDepth 100000 in
set_option maxHeartbeats 8000000 in
theorem splitF {X : Nat → Prop} {w : World} {A : Fa} {cs : List Cp} {ps : List Pc} {G : Nat} (h : Fnd X w A cs ps G) (hG : G ≤ 700000000000000000) (p s : ByteArray) :
    Calls Tryz.prog 51 #[.pointer (some ⟨A.fb, 0, none⟩), .string p, .string s] w fun v w' => ∃ er q lv xs, v = .returned (.tuple #[lv, .int .i64 er, .int .i64 q]) ∧ FCut p s er q xs ∧ LVx w' lv xs ∧ xs.length ≤ 258 ∧ (∀ b, isBk lv b → w.heap.size ≤ b) ∧ (∃ cs2, Fnd (fun c => X c ∨ isBk lv c) w' A cs2 ps (G + 100000)) ∧ Fr (fun c => A.eo c ∨ A.fo c) w w' := by
  have noB : ∀ b, ¬ isBk (.slice none 0 0) b := fun b hb => by obtain ⟨_, _, e⟩ := hb; cases e
  by_cases hL : 128 < p.size ∨ 256 < s.size
  · have hsol : Sol p s 0 12 0 none := .long hL
    have hd : (128 < (p.size : Int)) ∨ ((p.size : Int) ≤ 128 ∧ 256 < (s.size : Int)) := by omega
    have hfn := h.le (show G ≤ G + 100000 by omega)
    clear hL
    rcases hd with hd | ⟨hd, hd2⟩
    all_goals
      go_enter Tryz.func51, Tryz.ntmps51
      go_wp2_with fail
      refine bodyPost_ret (v := .tuple #[.slice none 0 0, .int .i64 12, .int .i64 0]) (by simp [results, Tryz.results51, go_sem]) rfl ?_
      exact ⟨12, 0, .slice none 0 0, [], rfl, ⟨[], .inl ⟨by decide, rfl, _, hsol⟩, .inl ⟨by decide, rfl⟩⟩, .inl ⟨rfl, rfl⟩, by simp, fun b hb => absurd hb (noB b), ⟨cs, hfn.step (Fr.refl (fun _ => False) w) (fun _ h => h.elim) (fun c hc => .inl (hc.elim id (fun hb => absurd hb (noB c))))⟩, Fr.refl _ _⟩
  · have hp1 : (p.size : Int) ≤ 128 := by omega
    have hs1 : (s.size : Int) ≤ 256 := by omega
    have hss : s.size ≤ 256 := by omega
    clear hL
    obtain ⟨ea, eb, hE⟩ := h.eng
    have g0 := h.pm.fd.cell (o := 0) (by omega)
    have g1 := h.pm.fd.cell (o := 1) (by omega)
    have g2 := h.pm.fd.cell (o := 2) (by omega)
    simp only [fdCell] at g0 g1 g2
    have lF := h.pm.fd.lt
    go_enter Tryz.func51, Tryz.ntmps51
    go_wp2_with fail
    refine (hasG hE (by omega) p s 0).mono ?_
    rintro v w1 ⟨⟨er0, q0, o0, rfl, hS⟩, n1, m1, hE1, f1⟩
    have fd1 := h.ofE f1 hE1
    have F1 : Fr (fun c => A.eo c ∨ A.fo c) w w1 := f1.mono (fun _ _ h => .inl h)
    have kA := (Fr.refl (fun _ => False) w1).alloc (.cells #[.int .i64 er0, .int .i64 q0, .bool (okOf o0), .int .i64 (-1), .int .i64 (-1), .int .i64 (-1), .int .i64 (-1), .int .i64 (-1), .int .i64 (-1), .int .i64 (-1), .int .i64 (-1)] 66)
    have fd2 := fd1.same kA
    have F2 := F1.trans kA (fun _ _ h => h.elim)
    have hcall := scan_any fd2 (by omega) p s hss hS
    rw [foundV_no] at hcall ⊢
    have Hcall : Hid _ := hcall
    clear hcall g0 g1 g2 hE hE1
    go_wp2_with fail
    refine Calls.mono Hcall.out ?_
    rintro v w3 ⟨er, q, cs', rfl, hR, fd3, f3⟩
    have hFA := hR.all hS
    have F3 := F2.trans f3 (fun _ _ h => h)
    have hlen : cs'.length ≤ 257 := fd3.sm.le
    have HFA : Hid _ := hFA
    clear hR hFA Hcall fd2 fd1 kA F1 F2
    by_cases he : er = 0
    · subst he
      have g0 := fd3.pm.fd.cell (o := 0) (by omega)
      have g1 := fd3.pm.fd.cell (o := 1) (by omega)
      have g2 := fd3.pm.fd.cell (o := 2) (by omega)
      simp only [fdCell] at g0 g1 g2
      have lF := fd3.pm.fd.lt
      have hq : q = 0 := by
        rcases HFA.out with ⟨h1, _⟩ | ⟨_, h2, _⟩
        · exact absurd rfl h1
        · exact h2
      subst hq
      have hAll : All p s 0 cs' := by
        rcases HFA.out with ⟨h1, _⟩ | ⟨_, _, h2⟩
        · exact absurd rfl h1
        · exact h2
      have HAll : Hid _ := hAll
      clear hAll
      have hlb : (cs'.length : Int) ≤ 257 := by omega
      have hz3 := F3.size
      have hA3 := fd3.asc
      have hAs : Asc s.size cs' 0 := (HAll.out.asc.1).asc 0 (Nat.le_refl _) (Nat.zero_le _)
      have HAs : Hid _ := hAs
      clear hA3 hAs
      go_wp2_with (refine wpList_makeB (by rfl) 41 _ _ (by rfl) 9 1 16 (.string ⟨#[]⟩) (cs'.length + 1) (by rfl) (by rfl) Tryz.underlying41 (by kernel_rfl) (by kernel_rfl) (by kernel_rfl) (by omega) (by omega) ?_; intro w4 f4 s4 b4)
      obtain ⟨nb, hnb⟩ : ∃ nb, nb = w3.heap.size := ⟨_, rfl⟩
      have hnw : w.heap.size ≤ nb := by omega
      have fd4 := fd3.step (X' := fun c => X c ∨ c = nb) f4 (fun _ h => h.elim) (fun c hc => hc.imp id (fun e => by omega))
      have F4 := F3.trans f4 (fun _ _ h => h.elim)
      rw [← hnb] at b4 ⊢
      rw [Nat.mul_one] at b4
      clear hnb g0 g1 g2 lF fd3 s4
      go_loopg [13, 14] cs'.length (fun g lv iv wr => ∃ (i last : Nat) (f : Nat → Value) (l : List ByteArray), lv = .int .i64 (last : Nat) ∧ iv = .int .i64 i ∧ i + g = cs'.length ∧ Blk wr nb (cs'.length + 1) f ∧ l.length = i ∧ HoldsS f l ∧ l ++ cutsFrom s (cs'.drop i) last = cutsFrom s cs' 0 ∧ Asc s.size (cs'.drop i) last ∧ Fr (fun c => c = nb) w4 wr)
      case atStart => exact ⟨0, 0, _, [], rfl, rfl, by omega, b4, rfl, fun k hk => by simp at hk, by simp, by simpa using HAs.out, Fr.refl _ _⟩
      case round =>
        obtain ⟨i, last, f, l, rfl, rfl, hg, hcb, hli, hf, heq, hasc, hfr⟩ := hrel
        have hg' : i + gk = cs'.length := hg
        have Hf : Hid _ := hf
        have Heq : Hid _ := heq
        have Hli : Hid _ := hli
        clear hg hf b4 heq hli
        have fdr := fd4.step (X' := fun c => X c ∨ c = nb) hfr (fun c hc => .inl (.inr hc)) (fun c hc => .inl hc)
        have ib : (i : Int) ≤ 257 := by omega
        have g0 := fdr.pm.fd.cell (o := 0) (by omega)
        have g1 := fdr.pm.fd.cell (o := 1) (by omega)
        have g2 := fdr.pm.fd.cell (o := 2) (by omega)
        simp only [fdCell] at g0 g1 g2
        have lF := fdr.pm.fd.lt
        by_cases hlt : i < cs'.length
        · have hI : decide ((i : Int) < (cs'.length : Nat)) = true := decide_eq_true (by omega)
          have s0 := fdr.sm.cells hlt (j := 0) (by omega)
          have s1 := fdr.sm.cells hlt (j := 1) (by omega)
          simp only [Nat.add_zero] at s0
          have a0 := hcb.cell (o := i) (by omega)
          have z := hcb.frozen
          have lcb := hcb.lt
          have hd : cs'.drop i = cs'[i] :: cs'.drop (i + 1) := List.drop_eq_getElem_cons hlt
          rw [hd] at hasc
          obtain ⟨y1, y2, y3, _, y5⟩ := hasc
          have heq2 := Heq.out
          rw [hd] at heq2
          simp only [cutsFrom] at heq2
          have hl1 : ((cs'[i] 1).toNat : Int) = cs'[i] 1 := by omega
          have y0 : 0 ≤ cs'[i] 0 := by omega
          have y4 : cs'[i] 0 ≤ (s.size : Nat) := by omega
          have hkey := hcb.set i (.string (s.extract last (cs'[i] 0).toNat))
          have FK := hfr.setC nb i (.string (s.extract last (cs'[i] 0).toNat)) (fun _ => rfl)
          have hnew : HoldsS (upd f i (.string (s.extract last (cs'[i] 0).toNat))) (l ++ [s.extract last (cs'[i] 0).toNat]) := fun k hk => by
            by_cases he : k < l.length
            · rw [List.getElem_append_left he]
              simp only [upd]
              rw [if_neg (by have := Hli.out; omega)]
              exact Hf.out k he
            · have hki : k = l.length := by simp at hk; omega
              subst hki
              rw [List.getElem_append_right (Nat.le_refl _)]
              simp [upd, Hli.out]
          have Hk : Hid _ := hkey
          have HFK : Hid _ := FK
          have Hnew : Hid _ := hnew
          have Heq2 : Hid _ := heq2
          have Y5 : Hid _ := y5
          have Hl1 : Hid _ := hl1
          clear hkey FK hnew heq2 y5 hl1 hd
          go_wp2_with fail
          go_roundg (gk - 1)
          case measure => omega
          case rel => exact ⟨i + 1, (cs'[i] 1).toNat, _, l ++ [s.extract last (cs'[i] 0).toNat], by rw [Hl1.out], by simp, by omega, Hk.out, by rw [List.length_append, Hli.out]; rfl, Hnew.out, by rw [← Heq2.out, List.append_assoc, List.singleton_append], Y5.out, HFK.out⟩
        · have hI : decide ((i : Int) < (cs'.length : Nat)) = false := decide_eq_false (by omega)
          have hii : i = cs'.length := by omega
          subst hii
          rw [List.drop_length] at hasc
          have hls : last ≤ s.size := hasc
          have heq2 := Heq.out
          rw [List.drop_length] at heq2
          simp only [cutsFrom] at heq2
          have a0 := hcb.cell (o := cs'.length) (by omega)
          have z := hcb.frozen
          have lcb := hcb.lt
          have lsb : (last : Int) ≤ (s.size : Nat) := by omega
          have hkey := hcb.set cs'.length (.string (s.extract last s.size))
          have FK := hfr.setC nb cs'.length (.string (s.extract last s.size)) (fun _ => rfl)
          have hnew : HoldsS (upd f cs'.length (.string (s.extract last s.size))) (cutsFrom s cs' 0) := by
            rw [← heq2]
            intro k hk
            by_cases he : k < l.length
            · rw [List.getElem_append_left he]
              simp only [upd]
              rw [if_neg (by have := Hli.out; omega)]
              exact Hf.out k he
            · have hki : k = l.length := by simp at hk; omega
              subst hki
              rw [List.getElem_append_right (Nat.le_refl _)]
              simp [upd, Hli.out]
          have Hk : Hid _ := hkey
          have HFK : Hid _ := FK
          have Hnew : Hid _ := hnew
          have Heq2 : Hid _ := heq2
          have fdn := fd4.step (X' := fun c => X c ∨ c = nb) FK (fun c hc => .inl (.inr hc)) (fun c hc => .inl hc)
          have Hfdn : Hid _ := fdn
          clear hkey FK hnew heq2 hasc fdn
          go_wp2_with fail
          refine wp_region_text (by kernel_rfl) (by kernel_rfl) ?_
          go_wp2_with fail
          refine ⟨by kernel_rfl, ?_⟩
          go_wp2_with fail
          refine bodyPost_ret (v := .tuple #[.slice (some ⟨nb, 0, none⟩) (cs'.length + 1) (cs'.length + 1), .int .i64 0, .int .i64 0]) (by simp [results, Tryz.results51, go_sem]) rfl ?_
          have hcl := cuts_len s cs' 0
          exact ⟨0, 0, _, cutsFrom s cs' 0, rfl, ⟨cs', .inr ⟨rfl, rfl, HAll.out⟩, .inr ⟨rfl, rfl⟩⟩, .inr ⟨nb, _, by rw [hcl], by rw [hcl]; exact Blk.drew Hk.out, Hnew.out, by omega⟩, by omega, fun b hb => by rw [isB_one hb]; exact hnw, ⟨cs', ((Hfdn.out.same (Fr.refl (fun _ => False) _).drew).step (X' := fun c => X c ∨ isBk (.slice (some ⟨nb, 0, none⟩) (cs'.length + 1) (cs'.length + 1)) c) (Fr.refl (fun _ => False) _) (fun _ h => h.elim) (fun c hc => .inl (hc.imp id (fun hb => isB_one hb)))).le (by omega)⟩, (F4.trans HFK.out (fun c hl e => by omega)).drew⟩
    · have t0 : (er != 0) = true := by simpa using he
      have HE : Hid _ := he
      clear he
      go_wp2_with fail
      refine bodyPost_ret (v := .tuple #[.slice none 0 0, .int .i64 er, .int .i64 q]) (by simp [results, Tryz.results51, go_sem]) rfl ?_
      have hc0 : cs' = [] := by
        rcases HFA.out with ⟨_, h2, _⟩ | ⟨h2, _⟩
        · exact h2
        · exact absurd h2 HE.out
      subst hc0
      exact ⟨er, q, .slice none 0 0, [], rfl, ⟨[], HFA.out, .inl ⟨HE.out, rfl⟩⟩, .inl ⟨rfl, rfl⟩, by simp, fun b hb => absurd hb (noB b), ⟨_, (fd3.step (Fr.refl (fun _ => False) w3) (fun _ h => h.elim) (fun c hc => .inl (hc.elim id (fun hb => absurd hb (noB c))))).le (by omega)⟩, F3⟩
end Go.Proofs.Qxb6500283aGreat
