/- The real checker: undo. -/
import Derived.Test.Qxb6500277aGreatCW7
namespace Go.Proofs.Qxb6500277aGreat
open Go Go.RowKit

section
variable {w w' : World} {A : Ca} {X : Cx} {cur : Nat} {s : Ck} {er po : Int}
/-- The state behind k variables undone. -/
theorem snoc_of {α : Type} (l : List α) (h : l ≠ []) : ∃ m v, l = m ++ [v] := ⟨l.dropLast, l.getLast h, (List.dropLast_concat_getLast h).symm⟩
theorem shut_eq {s0 s : Ck} (h1 : s.vs = s0.vs) (g : Good s) (g0 : Good s0) : shut s0 s = { s with lvl := s0.lvl } := by
  unfold shut
  rw [g0.ni, g0.nr, ← h1, ← g.ni, ← g.nr]
set_option maxRecDepth 100000 in
set_option maxHeartbeats 4000000 in
theorem undoC (H : CM w A X cur s 0 0) (m : Nat) : Calls Tryz.prog 91 #[.pointer (some ⟨A.c, 0, none⟩), .int .i64 m] w fun e w' => e = .returned (.tuple #[]) ∧ (∃ s', CM w' A X cur s' 0 0 ∧ s'.vs = s.vs.take m ∧ s'.lvl = s.lvl ∧ s'.lim = s.lim ∧ s'.ty = s.ty ∧ s'.rf = s.rf) ∧ Fr (CS A) w w' := by
  go_enter Tryz.func91, Tryz.ntmps91
  go_wp2_with fail
  go_loopg [] s.vs.length (fun g wr => ∃ s' : Ck, CM wr A X cur s' 0 0 ∧ s'.vs.length ≤ g ∧ (s'.vs.take m = s.vs.take m) ∧ s'.lvl = s.lvl ∧ s'.lim = s.lim ∧ s'.ty = s.ty ∧ s'.rf = s.rf ∧ Fr (CS A) w wr)
  case atStart => exact ⟨s, H, Nat.le_refl _, rfl, rfl, rfl, rfl, rfl, Fr.refl _ _⟩
  case round =>
    clear H
    obtain ⟨s1, C, hl, h1, h2, h3, h4, h5, F⟩ := hrel
    obtain ⟨r0, r161, r162, r163, r164, r325, r414, r416, r417, r418, r419, hz⟩ := C.regs
    have hlt := C.blt.1
    have hnn : Hid _ := C.good.len
    have hn12 := C.good.ni12
    have hr12 := C.good.nr12
    by_cases hm : m < s1.vs.length
    · have z1 : decide ((s1.vs.length : Int) > (m : Nat)) = true := decide_eq_true (by omega)
      have z2 : decide ((m : Int) < (s1.vs.length : Nat)) = true := decide_eq_true (by omega)
      have z3 : decide (m < s1.vs.length) = true := decide_eq_true (by omega)
      obtain ⟨l, v, e⟩ := snoc_of s1.vs (fun e => by rw [e] at hm; cases hm)
      obtain ⟨f, b1, b2, b3, b4, b5⟩ := C.blk
      have tv := b2.tv
      rw [e] at tv
      have P := popT b1 tv (by omega)
      obtain ⟨g1, g2⟩ := C.good.cnt e
      have hll : s1.vs.length = l.length + 1 := by rw [e]; simp
      have HX := And.intro C (And.intro b2 (And.intro b3 (And.intro b4 (And.intro b5 (And.intro hl (And.intro h1 (And.intro h2 (And.intro h3 (And.intro h4 (And.intro h5 (And.intro F (And.intro hm (And.intro e hll)))))))))))))
      have HX2 : Hid _ := HX
      clear HX C b2 b3 b4 b5 hl h1 h2 h3 h4 h5 F b1 tv hm hll e
      by_cases ht : 2 ≤ v.ty
      · have y1 : decide (v.ty ≥ 2) = true := decide_eq_true ht
        have hp : 1 ≤ s1.nr := g1 ht
        obtain ⟨q, hq⟩ : ∃ q, s1.nr = q + 1 := ⟨s1.nr - 1, by omega⟩
        have eq : ((q + 1 : Nat) : Int) - 1 = (q : Nat) := by omega
        have q12 : (q : Int) < 12 := by omega
        rw [hq] at r163
        have Ht : Hid (2 ≤ v.ty) := ht
        have Hq : Hid _ := hq
        clear ht g1 g2 hp hq hn12 hr12
        go_wp2_with fail
        refine P.mono ?_
        rintro e w1 ⟨rfl, ⟨f1, B1, T1, e1⟩, F1⟩
        obtain ⟨C, b2, b3, b4, b5, k0, k1, k2, k3, k4, k5, k6, k7, k8, k9⟩ := HX2.out
        have c1 := B1.cell (o := 163) (by omega)
        rw [e1 _ (by omega), b2.nr, Hq.out] at c1
        have y2 := B1.lt
        have y3 := B1.frozen
        have B2 := B1.set 163 (.int .i64 (q : Nat))
        have F2 : Fr (fun b => b = A.c) wr (w1.setCell ⟨A.c, 163, none⟩ (.int .i64 (q : Nat))) := F1.setC A.c 163 _ (fun _ => rfl)
        have far : ∀ k, 162 ≤ k → k ≠ 163 → upd f1 163 (.int .i64 (q : Nat)) k = f k := fun k h1 h2 => by rw [upd_other _ _ _ _ h2, e1 k (by omega)]
        have G : Good { s1 with vs := l, nr := q } := C.good.pop k8 rfl rfl (by rw [if_pos Ht.out]) (by rw [if_pos Ht.out]; have := Hq.out; simp only; omega)
        have R : CM (w1.setCell ⟨A.c, 163, none⟩ (.int .i64 (q : Nat))) A X cur { s1 with vs := l, nr := q } 0 0 := by
          refine CM.turn C F2 B2 (b2.turn C.xok.le (fun i hi => (C.xok.p4 i hi).1) ?_ (T1.congr fun k h1 h2 => by rw [upd_other _ _ _ _ (by omega)]) ?_ ?_ ?_ ?_ ?_ ?_ (fun i hi => ?_) (fun k h1 h2 h3 => far k (by omega) (by omega))) (fun hn => ?_) ?_ ?_ rfl rfl G (fun i hi => ?_) C.xok C.lim C.lvl C.lm
          · rw [upd_other _ _ _ _ (by omega), e1 0 (by omega)]
          · rw [far 162 (by omega) (by omega)]; exact b2.ni
          · rw [upd_same]
          · rw [far 164 (by omega) (by omega)]; exact b2.lv
          · rw [far 414 (by omega) (by omega)]; exact b2.cu
          · rw [far 418 (by omega) (by omega)]; exact b2.er
          · rw [far 419 (by omega) (by omega)]; exact b2.po
          · obtain ⟨_, _, _, _, c4, c5, _⟩ := b2.fn i hi
            exact ⟨by rw [far _ (by omega) (by omega)]; exact c4, by rw [far _ (by omega) (by omega)]; exact c5⟩
          · rw [far 415 (by omega) (by omega)]; exact b3 hn
          · rw [far 416 (by omega) (by omega)]; exact b4
          · rw [far 417 (by omega) (by omega)]; exact b5
          · have hi' : i < l.length := hi
            have := C.nms i (by omega)
            rw [k8, vAt_app hi'] at this
            exact this
        have HR : Hid (_ ∧ _ ∧ _) := ⟨R, k6.trans (F2.mono (S' := CS A) (fun _ _ h => .inl h)) (fun _ _ h => h), And.intro k0 (And.intro k1 (And.intro k2 (And.intro k3 (And.intro k4 (And.intro k5 (And.intro k7 (And.intro k8 k9)))))))⟩
        clear R G far F2 B2 C b2 b3 b4 b5 k0 k1 k2 k3 k4 k5 k6 k7 k8 k9 F1 T1 e1 B1 HX2 P
        go_wp2_with fail
        go_roundg l.length
        case measure => have := HR.out.2.2.1; have := HR.out.2.2.2.2.2.2.2.2.2; omega
        case rel =>
          obtain ⟨R, F, k0, k1, k2, k3, k4, k5, k7, k8, k9⟩ := HR.out
          refine ⟨_, R, Nat.le_refl _, ?_, k2, k3, k4, k5, F⟩
          show l.take m = _
          rw [← k1, k8, List.take_append_of_le_length (by omega)]
      · have y1 : decide (v.ty ≥ 2) = false := decide_eq_false ht
        have hp : 1 ≤ s1.ni := g2 ht
        obtain ⟨q, hq⟩ : ∃ q, s1.ni = q + 1 := ⟨s1.ni - 1, by omega⟩
        have eq : ((q + 1 : Nat) : Int) - 1 = (q : Nat) := by omega
        have q12 : (q : Int) < 12 := by omega
        rw [hq] at r162
        have Ht : Hid (¬ 2 ≤ v.ty) := ht
        have Hq : Hid _ := hq
        clear ht g1 g2 hp hq hn12 hr12
        go_wp2_with fail
        refine P.mono ?_
        rintro e w1 ⟨rfl, ⟨f1, B1, T1, e1⟩, F1⟩
        obtain ⟨C, b2, b3, b4, b5, k0, k1, k2, k3, k4, k5, k6, k7, k8, k9⟩ := HX2.out
        have c1 := B1.cell (o := 162) (by omega)
        rw [e1 _ (by omega), b2.ni, Hq.out] at c1
        have y2 := B1.lt
        have y3 := B1.frozen
        have B2 := B1.set 162 (.int .i64 (q : Nat))
        have F2 : Fr (fun b => b = A.c) wr (w1.setCell ⟨A.c, 162, none⟩ (.int .i64 (q : Nat))) := F1.setC A.c 162 _ (fun _ => rfl)
        have far : ∀ k, 162 ≤ k → k ≠ 162 → upd f1 162 (.int .i64 (q : Nat)) k = f k := fun k h1 h2 => by rw [upd_other _ _ _ _ h2, e1 k (by omega)]
        have G : Good { s1 with vs := l, ni := q } := C.good.pop k8 rfl rfl (by rw [if_neg (show ¬ 2 ≤ v.ty by have := Ht.out; omega)]; have := Hq.out; simp only; omega) (by rw [if_neg (show ¬ 2 ≤ v.ty by have := Ht.out; omega)])
        have R : CM (w1.setCell ⟨A.c, 162, none⟩ (.int .i64 (q : Nat))) A X cur { s1 with vs := l, ni := q } 0 0 := by
          refine CM.turn C F2 B2 (b2.turn C.xok.le (fun i hi => (C.xok.p4 i hi).1) ?_ (T1.congr fun k h1 h2 => by rw [upd_other _ _ _ _ (by omega)]) ?_ ?_ ?_ ?_ ?_ ?_ (fun i hi => ?_) (fun k h1 h2 h3 => far k (by omega) (by omega))) (fun hn => ?_) ?_ ?_ rfl rfl G (fun i hi => ?_) C.xok C.lim C.lvl C.lm
          · rw [upd_other _ _ _ _ (by omega), e1 0 (by omega)]
          · rw [upd_same]
          · rw [far 163 (by omega) (by omega)]; exact b2.nr
          · rw [far 164 (by omega) (by omega)]; exact b2.lv
          · rw [far 414 (by omega) (by omega)]; exact b2.cu
          · rw [far 418 (by omega) (by omega)]; exact b2.er
          · rw [far 419 (by omega) (by omega)]; exact b2.po
          · obtain ⟨_, _, _, _, c4, c5, _⟩ := b2.fn i hi
            exact ⟨by rw [far _ (by omega) (by omega)]; exact c4, by rw [far _ (by omega) (by omega)]; exact c5⟩
          · rw [far 415 (by omega) (by omega)]; exact b3 hn
          · rw [far 416 (by omega) (by omega)]; exact b4
          · rw [far 417 (by omega) (by omega)]; exact b5
          · have hi' : i < l.length := hi
            have := C.nms i (by omega)
            rw [k8, vAt_app hi'] at this
            exact this
        have HR : Hid (_ ∧ _ ∧ _) := ⟨R, k6.trans (F2.mono (S' := CS A) (fun _ _ h => .inl h)) (fun _ _ h => h), And.intro k0 (And.intro k1 (And.intro k2 (And.intro k3 (And.intro k4 (And.intro k5 (And.intro k7 (And.intro k8 k9)))))))⟩
        clear R G far F2 B2 C b2 b3 b4 b5 k0 k1 k2 k3 k4 k5 k6 k7 k8 k9 F1 T1 e1 B1 HX2 P
        go_wp2_with fail
        go_roundg l.length
        case measure => have := HR.out.2.2.1; have := HR.out.2.2.2.2.2.2.2.2.2; omega
        case rel =>
          obtain ⟨R, F, k0, k1, k2, k3, k4, k5, k7, k8, k9⟩ := HR.out
          refine ⟨_, R, Nat.le_refl _, ?_, k2, k3, k4, k5, F⟩
          show l.take m = _
          rw [← k1, k8, List.take_append_of_le_length (by omega)]
    · have z1 : decide ((s1.vs.length : Int) > (m : Nat)) = false := decide_eq_false (by omega)
      have z2 : decide ((m : Int) < (s1.vs.length : Nat)) = false := decide_eq_false (by omega)
      have z3 : decide (m < s1.vs.length) = false := decide_eq_false (by omega)
      have HR : Hid (∃ s', CM wr A X cur s' 0 0 ∧ s'.vs = s.vs.take m ∧ s'.lvl = s.lvl ∧ s'.lim = s.lim ∧ s'.ty = s.ty ∧ s'.rf = s.rf) := ⟨s1, C, by rw [← h1, List.take_of_length_le (by omega)], h2, h3, h4, h5⟩
      clear C hm
      go_wp2_with fail
      go_end0
      exact ⟨rfl, HR.out, F⟩
end
end Go.Proofs.Qxb6500277aGreat
