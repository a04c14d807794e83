/- The real checker's invariant, looked at: the functions; Sound; New. -/
import Derived.Test.Qxb6500276aGreatCSo
import Derived.Laws.Cover3
namespace Go.Proofs.Qxb6500276aGreat
open Go Go.RowKit

section
variable {w : World} {c p : Nat} {f : Nat → Value} {X : Cx} {cur : Nat} {s : Ck} {er po : Int}
def fBx (h : Fh) (l : Nat × Nat) (o : Nat) : Value := frC (h, l) o
theorem fBx_blk (w : World) (h : Fh) (l : Nat × Nat) : Blk (w.alloc (.cells #[.int .i64 h.node, .int .i64 h.ret, .int .i64 h.pi, .int .i64 h.pr, .int .i64 l.1, .int .i64 l.2, .string h.name] 63)) w.heap.size 7 (frC (h, l)) := Blk.new w _ _ _ fun o ho => by
  have ho : o < 7 := ho
  rcases lt7c ho with rfl | rfl | rfl | rfl | rfl | rfl | rfl <;> rfl
set_option maxRecDepth 100000 in
set_option maxHeartbeats 8000000 in
theorem soundFuncsC (B : Blk w c 420 f) (R : RF f p X cur s er po) {ns : List Nd} (K : XOk X ns) : Calls Tryz.prog 24 #[.pointer (some ⟨c, 0, none⟩)] w fun e w' => e = .returned (.bool true) ∧ Fr (fun _ => False) w w' := by
  have hle := K.le
  have hlt := B.lt
  have tn := R.tf.n
  rw [nmV_len] at tn
  have c325 := B.cell (o := 325) (by omega)
  rw [show f 325 = _ from tn] at c325
  have z8 : decide (((X.fs.length : Nat) : Int) > 8) = false := decide_eq_false (by omega)
  have z8' : decide (8 < X.fs.length) = false := decide_eq_false (by omega)
  go_enter Tryz.func24, Tryz.ntmps24
  go_wp2_with fail
  clear c325 hlt z8 z8'
  go_loopg [3] X.fs.length (fun g iv wr => ∃ i : Nat, iv = .int .i64 i ∧ i + g = X.fs.length ∧ Fr (fun _ => False) w wr)
  case atStart => exact ⟨0, rfl, by omega, Fr.refl _ _⟩
  case round =>
    obtain ⟨i, rfl, hg, F⟩ := hrel
    have Hg : Hid _ := hg
    have B1 := B.frame F (fun h => h)
    have hlt := B1.lt
    have c0 := B1.cell (o := 325) (by omega)
    rw [show f 325 = _ from tn] at c0
    by_cases hi : i < X.fs.length
    · have z0 : decide ((i : Int) < ((X.fs.length : Nat) : Int)) = true := decide_eq_true (by omega)
      obtain ⟨q0, q1, q2, q3, q4, q5, q6⟩ := R.fn i hi
      have n0 := B1.cell (o := 326 + i * 7) (by omega)
      rw [q0] at n0
      have n1 := B1.cell (o := 326 + i * 7 + 1) (by omega)
      rw [q1] at n1
      have n2 := B1.cell (o := 326 + i * 7 + 2) (by omega)
      rw [q2] at n2
      have n3 := B1.cell (o := 326 + i * 7 + 3) (by omega)
      rw [q3] at n3
      have n4 := B1.cell (o := 326 + i * 7 + 4) (by omega)
      rw [q4] at n4
      have n5 := B1.cell (o := 326 + i * 7 + 5) (by omega)
      rw [q5] at n5
      have n6 := B1.cell (o := 326 + i * 7 + 6) (by omega)
      rw [q6] at n6
      obtain ⟨k4, k5, k6⟩ := K.p4 i hi
      have hcn := cIR (pAt X.pt i)
      have hpp : (fAt X.fs i).pi + (fAt X.fs i).pr ≤ 4 := by omega
      have hi8 : i < 8 := by omega
      have tnm : f (181 + i * 6) = .string (fAt X.fs i).name := by
        have := R.tf.nm i (by rw [nmV_len]; exact hi)
        rw [nmV_at hi] at this
        exact this
      have Hun : Hid (∀ j, j < i → (fAt X.fs j).name ≠ (fAt X.fs i).name) := fun j hj e => by have := K.un j i (by omega) hi e; omega
      have BX := fBx_blk wr (fAt X.fs i) (lAt s.lim i)
      have FX := F.alloc (.cells #[.int .i64 (fAt X.fs i).node, .int .i64 (fAt X.fs i).ret, .int .i64 (fAt X.fs i).pi, .int .i64 (fAt X.fs i).pr, .int .i64 (lAt s.lim i).1, .int .i64 (lAt s.lim i).2, .string (fAt X.fs i).name] 63)
      have HX : Hid (_ ∧ _) := ⟨BX, FX⟩
      have Htn : Hid _ := tnm
      clear hg q0 q1 q2 q3 q4 q5 q6 k4 k5 k6 hcn BX FX tnm
      go_wp2_with fail
      generalize hw1 : wr.alloc _ = w1
      have BX1 : Blk w1 wr.heap.size 7 (frC (fAt X.fs i, lAt s.lim i)) := by rw [← hw1]; exact HX.out.1
      have F1 : Fr (fun _ => False) w w1 := by rw [← hw1]; exact HX.out.2
      obtain ⟨bx, hbx⟩ : ∃ bx, wr.heap.size = bx := ⟨_, rfl⟩
      rw [hbx] at BX1 ⊢
      have e2 := BX1.cell (o := 2) (by omega)
      have e3 := BX1.cell (o := 3) (by omega)
      have e6 := BX1.cell (o := 6) (by omega)
      simp only [frC] at e2 e3 e6
      have el := BX1.lt
      have Bc := B.frame F1 (fun h => h)
      have hlt1 := Bc.lt
      have pn := Bc.cell (o := 181 + i * 6) (by omega)
      rw [Htn.out] at pn
      have m1 : decide (((fAt X.fs i).pi : Int) < 0) = false := decide_eq_false (by omega)
      have m2 : decide (((fAt X.fs i).pr : Int) < 0) = false := decide_eq_false (by omega)
      have m3 : decide (((fAt X.fs i).pi : Int) + ((fAt X.fs i).pr : Int) > 4) = false := decide_eq_false (by omega)
      have m3' : decide (4 < ((fAt X.fs i).pi : Int) + ((fAt X.fs i).pr : Int)) = false := decide_eq_false (by omega)
      have hpi : (fAt X.fs i).pi ≤ 4 := by omega
      have hpr : (fAt X.fs i).pr ≤ 4 := by omega
      have HB1 : Hid (Blk w1 bx 7 _) := BX1
      have HF1 : Hid _ := F1
      clear hw1 HX n0 n1 n2 n3 n4 n5 n6 c0 hlt BX1 F1 Bc B1 hbx
      refine wp_region_text (by kernel_rfl) (by kernel_rfl) ?_
      go_wp2_with fail
      refine ⟨by kernel_rfl, ?_⟩
      go_wp2_with fail
      generalize hw2 : w1.drew = w2
      have FD : Fr (fun _ => False) w1 w2 := hw2 ▸ (Fr.refl _ _).drew
      have HFD : Hid _ := FD
      clear hw2 FD e2 e3 e6 el hlt1 pn
      go_loopg [5] i (fun g jv wq => ∃ j : Nat, jv = .int .i64 j ∧ j + g = i ∧ Fr (fun _ => False) w1 wq)
      case atStart => exact ⟨0, rfl, by omega, HFD.out⟩
      case round =>
        obtain ⟨j, rfl, hj, FJ⟩ := hrel
        have Hj : Hid _ := hj
        have BY := HB1.out.frame FJ (fun h => h)
        have e6 := BY.cell (o := 6) (by omega)
        simp only [frC] at e6
        have el := BY.lt
        have Bd := (B.frame HF1.out (fun h => h)).frame FJ (fun h => h)
        have hlt2 := Bd.lt
        have FJ2 : Hid _ := FJ
        by_cases hji : j < i
        · have z7 : decide ((j : Int) < (i : Int)) = true := decide_eq_true (by omega)
          have z8 : decide (j < i) = true := decide_eq_true hji
          have p6 := Bd.cell (o := 326 + j * 7 + 6) (by omega)
          rw [(R.fn j (by omega)).2.2.2.2.2.2] at p6
          have hj8 : j < 8 := by omega
          have y1 := strNe (Hun.out j hji)
          clear hj hji BY Bd FJ
          go_wp2_with fail
          go_quiet (fail)
          go_wp2_with fail
          go_roundg (gk - 1)
          case measure => have := Hj.out; have := of_decide_eq_true z8; omega
          case rel => exact ⟨j + 1, by simp, by have := Hj.out; have := of_decide_eq_true z8; omega, FJ2.out.drewN _⟩
        · have z7 : decide ((j : Int) < (i : Int)) = false := decide_eq_false (by omega)
          have z8 : decide (j < i) = false := decide_eq_false hji
          clear hj hji BY Bd FJ
          go_wp2_with fail
          go_roundg (X.fs.length - i - 1)
          case measure => have := Hg.out; omega
          case rel => exact ⟨i + 1, by simp, by have := Hg.out; omega, HF1.out.trans FJ2.out (fun _ _ h => h)⟩
    · have z0 : decide ((i : Int) < ((X.fs.length : Nat) : Int)) = false := decide_eq_false (by omega)
      have z1 : decide (i < X.fs.length) = false := decide_eq_false hi
      clear hg hi
      go_wp2_with fail
      go_ret
      exact ⟨rfl, F⟩
set_option maxRecDepth 100000 in
set_option maxHeartbeats 4000000 in
theorem soundC (C : CI w c p) : Calls Tryz.prog 10 #[.pointer (some ⟨c, 0, none⟩)] w fun e w' => e = .returned (.bool true) ∧ Fr (fun _ => False) w w' := by
  obtain ⟨f, X, cur, s, er, po, B, R, e1, e2, e3, G, ⟨ns, K⟩, h8⟩ := C
  have hlt := B.lt
  have c1 := B.cell (o := 415) (by omega)
  rw [e1] at c1
  have c2 := B.cell (o := 416) (by omega)
  rw [e2] at c2
  have c3 := B.cell (o := 417) (by omega)
  rw [e3] at c3
  have hr1 : ∀ (w : World), (binOp .neq 40 (.slice none 0 0) (.slice none 0 0)).run Tryz.prog w = .ok (.bool false) w := fun w => run_neq_slice_nil (P := Tryz.prog) w 40 82 none 0 0 Tryz.underlying40
  have hr2 : ∀ (w : World), (binOp .neq 44 (.slice none 0 0) (.slice none 0 0)).run Tryz.prog w = .ok (.bool false) w := fun w => run_neq_slice_nil (P := Tryz.prog) w 44 3 none 0 0 Tryz.underlying44
  have T1 := soundT B R.tv (by omega) h8
  have T2 := soundT B R.tf (by omega) (fun i hi => by rw [nmV_len] at hi; rw [nmV_at hi]; exact K.nm i hi)
  have S1 := soundVarsC B R G
  go_enter Tryz.func10, Tryz.ntmps10
  go_wp2_with fail
  refine T1.mono ?_
  rintro e w1 ⟨rfl, rfl⟩
  go_wp2_with fail
  refine T2.mono ?_
  rintro e w2 ⟨rfl, rfl⟩
  go_wp2_with fail
  refine S1.mono ?_
  rintro e w3 ⟨rfl, F3⟩
  have S2 := soundFuncsC (B.frame F3 (fun h => h)) R K
  have hlt3 := (B.frame F3 (fun h => h)).lt
  go_wp2_with fail
  refine S2.mono ?_
  rintro e w4 ⟨rfl, F4⟩
  go_wp2_with fail
  go_ret
  exact ⟨rfl, F3.trans F4 (fun _ _ h => h)⟩
end
end Go.Proofs.Qxb6500276aGreat
