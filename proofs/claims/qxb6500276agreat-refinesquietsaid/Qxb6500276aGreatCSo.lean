/- The real checker's invariant, looked at: Sound. -/
import Derived.Test.Qxb6500276aGreatCB6
namespace Go.Proofs.Qxb6500276aGreat
open Go Go.RowKit

section
variable {w : World} {c n o : Nat} {f : Nat → Value} {vs : List Vr}
set_option maxRecDepth 100000 in
set_option maxHeartbeats 4000000 in
theorem soundT (B : Blk w c n f) (T : Tab f o vs) (hn : o + 161 ≤ n) (h8 : ∀ i, i < vs.length → (vAt vs i).name.size ≤ 8) : Calls Tryz.prog 22 #[.pointer (some ⟨c, o, none⟩)] w fun e w' => e = .returned (.bool true) ∧ w' = w := by
  have hlt := B.lt
  have hle := T.le
  have c0 := B.cell (o := o + 160) (by omega)
  rw [T.n] at c0
  have z0 : decide (((vs.length : Nat) : Int) < 0) = false := decide_eq_false (by omega)
  have z1 : decide (((vs.length : Nat) : Int) > 24) = false := decide_eq_false (by omega)
  go_enter Tryz.func22, Tryz.ntmps22
  go_wp2_with fail
  go_loopg [3] 16 (fun g bv wr => ∃ b : Nat, bv = .int .i64 b ∧ b + g = 16 ∧ wr = w)
  case atStart => exact ⟨0, rfl, rfl, rfl⟩
  case round =>
    obtain ⟨b, rfl, hg, rfl⟩ := hrel
    have Hg : Hid _ := hg
    by_cases hb : b < 16
    · have z2 : decide ((b : Int) < 16) = true := decide_eq_true (by omega)
      have c1 := B.cell (o := o + b) (by omega)
      rw [T.hd b hb] at c1
      obtain ⟨hv, hhv⟩ : ∃ hv, oi (lb vs b vs.length) = hv := ⟨_, rfl⟩
      rw [hhv] at c1
      have Hhv : Hid _ := hhv
      clear hg hhv
      go_wp2_with fail
      go_loopg [5, 4] vs.length (fun g2 iv lv wq => ∃ i : Nat, iv = .int .i64 i ∧ lv = .int .i64 (oi (lb vs b i)) ∧ i + g2 = vs.length ∧ wq = wr)
      case atStart => exact ⟨0, rfl, rfl, by omega, rfl⟩
      case round =>
        obtain ⟨i, rfl, rfl, hi2, rfl⟩ := hrel
        have Hi2 : Hid _ := hi2
        obtain ⟨lv, hlv⟩ : ∃ lv, oi (lb vs b i) = lv := ⟨_, rfl⟩
        rw [hlv]
        have Hlv : Hid _ := hlv
        clear hlv
        by_cases hi : i < vs.length
        · have z3 : decide ((i : Int) < ((vs.length : Nat) : Int)) = true := decide_eq_true (by omega)
          have n0 := B.cell (o := o + 16 + i * 6) (by omega)
          rw [T.nm i hi] at n0
          have n4 := B.cell (o := o + 16 + i * 6 + 4) (by omega)
          rw [T.bu i hi] at n4
          have n5 := B.cell (o := o + 16 + i * 6 + 5) (by omega)
          rw [T.nx i hi] at n5
          have hB := bucketF (vAt vs i).name (by have := h8 i hi; omega) wr
          have hi24 : i < 24 := by omega
          by_cases e : bk (vAt vs i).name = b
          · rw [e] at n4 n5 hB
            rw [Hlv.out] at n5
            have Hs : Hid (oi (lb vs b (i + 1)) = (i : Nat)) := by show _ = _; unfold lb; rw [lst, if_pos (by simpa using e)]; rfl
            clear hi2 e
            go_wp2_with fail
            refine hB.mono ?_
            rintro v w2 ⟨rfl, rfl⟩
            go_wp2_with fail
            go_roundg (gk - 1)
            case measure => have := Hi2.out; omega
            case rel => exact ⟨i + 1, by simp, by rw [Hs.out], by have := Hi2.out; omega, rfl⟩
          · have y1 : (((bk (vAt vs i).name : Nat) : Int) == (b : Int)) = false := by simpa using (fun h : ((bk (vAt vs i).name : Nat) : Int) = (b : Int) => e (by omega))
            have y2 : (bk (vAt vs i).name == b) = false := by simpa using e
            have Hs : Hid (oi (lb vs b (i + 1)) = lv) := by show _ = _; rw [← Hlv.out]; unfold lb; rw [lst, if_neg (by simpa using e)]
            clear hi2 e
            go_wp2_with fail
            refine hB.mono ?_
            rintro v w2 ⟨rfl, rfl⟩
            go_wp2_with fail
            go_roundg (gk - 1)
            case measure => have := Hi2.out; omega
            case rel => exact ⟨i + 1, by simp, by rw [Hs.out], by have := Hi2.out; omega, rfl⟩
        · have z3 : decide ((i : Int) < ((vs.length : Nat) : Int)) = false := decide_eq_false (by omega)
          have z4 : decide (i < vs.length) = false := decide_eq_false hi
          obtain rfl : i = vs.length := by omega
          have ee : hv = lv := by rw [← Hhv.out, ← Hlv.out]
          subst ee
          clear hi2 hi
          go_wp2_with fail
          go_roundg (15 - b)
          case measure => have := Hg.out; omega
          case rel => exact ⟨b + 1, by simp, by omega, rfl⟩
    · have z2 : decide ((b : Int) < 16) = false := decide_eq_false (by omega)
      clear hg hb
      go_wp2_with fail
      go_ret
      exact ⟨rfl, rfl⟩
end
section
variable {w : World} {c p : Nat} {f : Nat → Value} {X : Cx} {cur : Nat} {s : Ck} {er po : Int}
def eBox (v : Vr) (b x : Int) (o : Nat) : Value := match o with | 0 => .string v.name | 1 => .int .i64 v.ty | 2 => .int .i64 v.slot | 3 => .int .i64 v.level | 4 => .int .i64 b | _ => .int .i64 x
theorem eBox_blk (w : World) (v : Vr) (b x : Int) : Blk (w.alloc (.cells #[.string v.name, .int .i64 v.ty, .int .i64 v.slot, .int .i64 v.level, .int .i64 b, .int .i64 x] 58)) w.heap.size 6 (eBox v b x) := Blk.new w _ _ _ fun o ho => by
  obtain rfl | rfl | rfl | rfl | rfl | rfl : o = 0 ∨ o = 1 ∨ o = 2 ∨ o = 3 ∨ o = 4 ∨ o = 5 := by have : o < 6 := ho; omega
  all_goals rfl
theorem take_succ_vs (vs : List Vr) (i : Nat) (h : i < vs.length) : vs.take (i + 1) = vs.take i ++ [vAt vs i] := by
  rw [List.take_succ_eq_append_getElem h]
  congr 2
  unfold vAt
  simp [List.getD_eq_getElem?_getD, h]
set_option maxRecDepth 100000 in
set_option maxHeartbeats 8000000 in
theorem soundVarsC (B : Blk w c 420 f) (R : RF f p X cur s er po) (G : Good s) : Calls Tryz.prog 23 #[.pointer (some ⟨c, 0, none⟩)] w fun e w' => e = .returned (.bool true) ∧ Fr (fun _ => False) w w' := by
  have hle := R.tv.le
  go_enter Tryz.func23, Tryz.ntmps23
  go_wp2_with fail
  go_loopg [5, 3, 4] s.vs.length (fun g iv av bv wr => ∃ i : Nat, iv = .int .i64 i ∧ av = .int .i64 (cIv (s.vs.take i) : Nat) ∧ bv = .int .i64 (cRv (s.vs.take i) : Nat) ∧ i + g = s.vs.length ∧ Fr (fun _ => False) w wr)
  case atStart => exact ⟨0, rfl, by simp [cIv, cI], by simp [cRv, cR], by omega, Fr.refl _ _⟩
  case round =>
    obtain ⟨i, rfl, rfl, rfl, hg, F⟩ := hrel
    have Hg : Hid _ := hg
    have B1 := B.frame F (fun h => h)
    have hlt := B1.lt
    have c0 := B1.cell (o := 161) (by omega)
    rw [show f 161 = .int .i64 (s.vs.length : Nat) from R.tv.n] at c0
    have c1 := B1.cell (o := 162) (by omega)
    rw [R.ni] at c1
    have c2 := B1.cell (o := 163) (by omega)
    rw [R.nr] at c2
    have c3 := B1.cell (o := 164) (by omega)
    rw [R.lv] at c3
    have hcnt := cIRv (s.vs.take i)
    have hcl : (s.vs.take i).length ≤ 24 := by simp; omega
    by_cases hi : i < s.vs.length
    · have z0 : decide ((i : Int) < ((s.vs.length : Nat) : Int)) = true := decide_eq_true (by omega)
      have n0 := B1.cell (o := 17 + i * 6) (by omega)
      rw [show f (17 + i * 6) = _ from R.tv.nm i hi] at n0
      have n1 := B1.cell (o := 17 + i * 6 + 1) (by omega)
      rw [show f (17 + i * 6 + 1) = _ from R.tv.ty i hi] at n1
      have n2 := B1.cell (o := 17 + i * 6 + 2) (by omega)
      rw [show f (17 + i * 6 + 2) = _ from R.tv.sl i hi] at n2
      have n3 := B1.cell (o := 17 + i * 6 + 3) (by omega)
      rw [show f (17 + i * 6 + 3) = _ from R.tv.lv i hi] at n3
      have n4 := B1.cell (o := 17 + i * 6 + 4) (by omega)
      rw [show f (17 + i * 6 + 4) = _ from R.tv.bu i hi] at n4
      have n5 := B1.cell (o := 17 + i * 6 + 5) (by omega)
      rw [show f (17 + i * 6 + 5) = _ from R.tv.nx i hi] at n5
      obtain ⟨nx, hnx⟩ : ∃ nx, oi (lb s.vs (bk (vAt s.vs i).name) i) = nx := ⟨_, rfl⟩
      rw [hnx] at n5
      have hsl := G.slot i hi
      have ht := G.ty i hi
      have hlv := G.lv i hi
      have hi24 : i < 24 := by omega
      have t1 : Hid (cIv (s.vs.take (i + 1)) = cIv (s.vs.take i) + (if 2 ≤ (vAt s.vs i).ty then 0 else 1) ∧ cRv (s.vs.take (i + 1)) = cRv (s.vs.take i) + (if 2 ≤ (vAt s.vs i).ty then 1 else 0)) := by
        show _ ∧ _
        rw [take_succ_vs _ _ hi, cIv_app, cRv_app, cIv_one, cRv_one]
        exact ⟨rfl, rfl⟩
      have Hdup : Hid (∀ j, j < i → (vAt s.vs j).level = (vAt s.vs i).level → (vAt s.vs j).name ≠ (vAt s.vs i).name) := fun j hj => G.dup j i hj hi
      have BX := eBox_blk wr (vAt s.vs i) (bk (vAt s.vs i).name) nx
      have FX := F.alloc (.cells #[.string (vAt s.vs i).name, .int .i64 (vAt s.vs i).ty, .int .i64 (vAt s.vs i).slot, .int .i64 (vAt s.vs i).level, .int .i64 (bk (vAt s.vs i).name), .int .i64 nx] 58)
      have HX : Hid (_ ∧ _) := ⟨BX, FX⟩
      have m1 : decide (((vAt s.vs i).level : Int) < 0) = false := decide_eq_false (by omega)
      have m2 : decide (((vAt s.vs i).level : Int) > (s.lvl : Int)) = false := decide_eq_false (by omega)
      have m3 : decide ((vAt s.vs i).ty < 0) = false := decide_eq_false (by omega)
      have hasc := G.asc
      have Hsl : Hid _ := hsl
      clear hnx hg hsl
      have m2' : decide (s.lvl < (vAt s.vs i).level) = false := decide_eq_false (by omega)
      by_cases hpos : i = 0
      · skip
        have m7 : decide ((i : Int) > 0) = false := decide_eq_false (by omega)
        have m7' : decide (0 < i) = false := decide_eq_false (by omega)
        clear hpos
        go_wp2_with fail
        generalize hw1 : wr.alloc _ = w1
        have BX1 : Blk w1 wr.heap.size 6 (eBox (vAt s.vs i) (bk (vAt s.vs i).name) nx) := hw1 ▸ HX.out.1
        have F1 : Fr (fun _ => False) w w1 := hw1 ▸ HX.out.2
        obtain ⟨bx, hbx⟩ : ∃ bx, wr.heap.size = bx := ⟨_, rfl⟩
        rw [hbx] at BX1 ⊢
        have e0 := BX1.cell (o := 0) (by omega)
        have e1 := BX1.cell (o := 1) (by omega)
        have e2 := BX1.cell (o := 2) (by omega)
        have e3 := BX1.cell (o := 3) (by omega)
        simp only [eBox] at e0 e1 e2 e3
        have el := BX1.lt
        have Bc := B.frame F1 (fun h => h)
        have hlt1 := Bc.lt
        have d164 := Bc.cell (o := 164) (by omega)
        rw [R.lv] at d164
        have HB1 : Hid (Blk w1 bx 6 _) := BX1
        have HF1 : Hid _ := F1
        clear hw1 HX n0 n1 n2 n3 n4 n5 c0 c1 c2 c3 hlt BX1 F1 Bc B1 hbx
        refine wp_region_text (by kernel_rfl) (by kernel_rfl) ?_
        go_wp2_with fail
        refine ⟨by kernel_rfl, ?_⟩
        by_cases hty : 2 ≤ (vAt s.vs (i)).ty
        · have m5 : decide ((vAt s.vs (i)).ty ≥ 2) = true := decide_eq_true hty
          have Ht : Hid (2 ≤ (vAt s.vs (i)).ty) := hty
          have hs2 := Hsl.out
          rw [if_pos hty] at hs2
          have y5 : (((vAt s.vs (i)).slot : Int) == (cRv (s.vs.take (i)) : Int)) = true := by rw [hs2]; simp
          have y6 : (((vAt s.vs (i)).slot : Int) != (cRv (s.vs.take (i)) : Int)) = false := by rw [hs2]; simp
          have y7 : ((vAt s.vs (i)).slot == cRv (s.vs.take (i))) = true := by rw [hs2]; simp
          clear hty hs2
          go_wp2_with fail
          generalize hw2 : w1.drew = w2
          have FD : Fr (fun _ => False) w1 w2 := hw2 ▸ (Fr.refl _ _).drew
          have HFD : Hid _ := FD
          clear hw2 FD e0 e1 e2 e3 el hlt1 d164
          go_loopg [7] (i) (fun g jv wq => ∃ j : Nat, jv = .int .i64 j ∧ j + g = i ∧ Fr (fun _ => False) w1 wq)
          case atStart => exact ⟨0, rfl, by omega, HFD.out⟩
          case round =>
            obtain ⟨j, rfl, hj, FJ⟩ := hrel
            have Hj : Hid _ := hj
            have BY := HB1.out.frame FJ (fun h => h)
            have e0 := BY.cell (o := 0) (by omega)
            have e3 := BY.cell (o := 3) (by omega)
            simp only [eBox] at e0 e3
            have el := BY.lt
            have Bd := (B.frame HF1.out (fun h => h)).frame FJ (fun h => h)
            have hlt2 := Bd.lt
            have FJ2 : Hid _ := FJ
            by_cases hji : j < i
            · have z7 : decide ((j : Int) < ((i : Nat) : Int)) = true := decide_eq_true (by omega)
              have z8 : decide (j < i) = true := decide_eq_true hji
              have p0 := Bd.cell (o := 17 + j * 6) (by omega)
              rw [show f (17 + j * 6) = _ from R.tv.nm j (by omega)] at p0
              have p3 := Bd.cell (o := 17 + j * 6 + 3) (by omega)
              rw [show f (17 + j * 6 + 3) = _ from R.tv.lv j (by omega)] at p3
              have hj24 : j < 24 := by omega
              by_cases hll : (vAt s.vs j).level = (vAt s.vs (i)).level
              · have hnm := Hdup.out j hji hll
                have y1 := strNe hnm
                rw [hll] at p3
                clear hj hji hll hnm BY Bd FJ
                go_wp2_with fail
                go_quiet (fail)
                go_wp2_with fail
                go_roundg (gk - 1)
                case measure => have := Hj.out; have := of_decide_eq_true z8; omega
                case rel => exact ⟨j + 1, by simp, by have := Hj.out; have := of_decide_eq_true z8; omega, FJ2.out.drewN _⟩
              · have y1 : (((vAt s.vs j).level : Int) == ((vAt s.vs (i)).level : Int)) = false := by simpa using (fun h : ((vAt s.vs j).level : Int) = ((vAt s.vs (i)).level : Int) => hll (by omega))
                have y2 : ((vAt s.vs j).level == (vAt s.vs (i)).level) = false := by simpa using hll
                clear hj hji hll BY Bd FJ
                go_wp2_with fail
                go_quiet (fail)
                go_wp2_with fail
                go_roundg (gk - 1)
                case measure => have := Hj.out; have := of_decide_eq_true z8; omega
                case rel => exact ⟨j + 1, by simp, by have := Hj.out; have := of_decide_eq_true z8; omega, FJ2.out.drewN _⟩
            · have z7 : decide ((j : Int) < ((i : Nat) : Int)) = false := decide_eq_false (by omega)
              have z8 : decide (j < i) = false := decide_eq_false hji
              clear hj hji BY Bd FJ
              go_wp2_with fail
              go_roundg (s.vs.length - (i) - 1)
              case measure => have := Hg.out; omega
              case rel => exact ⟨i + 1, by simp, by rw [t1.out.1, if_pos Ht.out]; simp, by rw [t1.out.2, if_pos Ht.out]; simp, by have := Hg.out; omega, HF1.out.trans FJ2.out (fun _ _ h => h)⟩
        · have m5 : decide ((vAt s.vs (i)).ty ≥ 2) = false := decide_eq_false hty
          have Ht : Hid (¬ 2 ≤ (vAt s.vs (i)).ty) := hty
          have hs2 := Hsl.out
          rw [if_neg hty] at hs2
          have y5 : (((vAt s.vs (i)).slot : Int) == (cIv (s.vs.take (i)) : Int)) = true := by rw [hs2]; simp
          have y6 : (((vAt s.vs (i)).slot : Int) != (cIv (s.vs.take (i)) : Int)) = false := by rw [hs2]; simp
          have y7 : ((vAt s.vs (i)).slot == cIv (s.vs.take (i))) = true := by rw [hs2]; simp
          clear hty hs2
          go_wp2_with fail
          generalize hw2 : w1.drew = w2
          have FD : Fr (fun _ => False) w1 w2 := hw2 ▸ (Fr.refl _ _).drew
          have HFD : Hid _ := FD
          clear hw2 FD e0 e1 e2 e3 el hlt1 d164
          go_loopg [7] (i) (fun g jv wq => ∃ j : Nat, jv = .int .i64 j ∧ j + g = i ∧ Fr (fun _ => False) w1 wq)
          case atStart => exact ⟨0, rfl, by omega, HFD.out⟩
          case round =>
            obtain ⟨j, rfl, hj, FJ⟩ := hrel
            have Hj : Hid _ := hj
            have BY := HB1.out.frame FJ (fun h => h)
            have e0 := BY.cell (o := 0) (by omega)
            have e3 := BY.cell (o := 3) (by omega)
            simp only [eBox] at e0 e3
            have el := BY.lt
            have Bd := (B.frame HF1.out (fun h => h)).frame FJ (fun h => h)
            have hlt2 := Bd.lt
            have FJ2 : Hid _ := FJ
            by_cases hji : j < i
            · have z7 : decide ((j : Int) < ((i : Nat) : Int)) = true := decide_eq_true (by omega)
              have z8 : decide (j < i) = true := decide_eq_true hji
              have p0 := Bd.cell (o := 17 + j * 6) (by omega)
              rw [show f (17 + j * 6) = _ from R.tv.nm j (by omega)] at p0
              have p3 := Bd.cell (o := 17 + j * 6 + 3) (by omega)
              rw [show f (17 + j * 6 + 3) = _ from R.tv.lv j (by omega)] at p3
              have hj24 : j < 24 := by omega
              by_cases hll : (vAt s.vs j).level = (vAt s.vs (i)).level
              · have hnm := Hdup.out j hji hll
                have y1 := strNe hnm
                rw [hll] at p3
                clear hj hji hll hnm BY Bd FJ
                go_wp2_with fail
                go_quiet (fail)
                go_wp2_with fail
                go_roundg (gk - 1)
                case measure => have := Hj.out; have := of_decide_eq_true z8; omega
                case rel => exact ⟨j + 1, by simp, by have := Hj.out; have := of_decide_eq_true z8; omega, FJ2.out.drewN _⟩
              · have y1 : (((vAt s.vs j).level : Int) == ((vAt s.vs (i)).level : Int)) = false := by simpa using (fun h : ((vAt s.vs j).level : Int) = ((vAt s.vs (i)).level : Int) => hll (by omega))
                have y2 : ((vAt s.vs j).level == (vAt s.vs (i)).level) = false := by simpa using hll
                clear hj hji hll BY Bd FJ
                go_wp2_with fail
                go_quiet (fail)
                go_wp2_with fail
                go_roundg (gk - 1)
                case measure => have := Hj.out; have := of_decide_eq_true z8; omega
                case rel => exact ⟨j + 1, by simp, by have := Hj.out; have := of_decide_eq_true z8; omega, FJ2.out.drewN _⟩
            · have z7 : decide ((j : Int) < ((i : Nat) : Int)) = false := decide_eq_false (by omega)
              have z8 : decide (j < i) = false := decide_eq_false hji
              clear hj hji BY Bd FJ
              go_wp2_with fail
              go_roundg (s.vs.length - (i) - 1)
              case measure => have := Hg.out; omega
              case rel => exact ⟨i + 1, by simp, by rw [t1.out.1, if_neg (show ¬ 2 ≤ (vAt s.vs (i)).ty by have := Ht.out; omega)]; simp, by rw [t1.out.2, if_neg (show ¬ 2 ≤ (vAt s.vs (i)).ty by have := Ht.out; omega)]; simp, by have := Hg.out; omega, HF1.out.trans FJ2.out (fun _ _ h => h)⟩
      · obtain ⟨k, hik⟩ : ∃ k, i = k + 1 := ⟨i - 1, by omega⟩
        have hk1 := hasc k i (by omega) hi
        clear hasc
        have m7 : decide ((i : Int) > 0) = true := decide_eq_true (by omega)
        have m7' : decide (0 < i) = true := decide_eq_true (by omega)
        have m8 : ((i : Int) - 1) = (k : Nat) := by omega
        have hk24 : k < 24 := by omega
        have hks : k < s.vs.length := by omega
        clear hik hpos
        go_wp2_with fail
        generalize hw1 : wr.alloc _ = w1
        have BX1 : Blk w1 wr.heap.size 6 (eBox (vAt s.vs i) (bk (vAt s.vs i).name) nx) := hw1 ▸ HX.out.1
        have F1 : Fr (fun _ => False) w w1 := hw1 ▸ HX.out.2
        obtain ⟨bx, hbx⟩ : ∃ bx, wr.heap.size = bx := ⟨_, rfl⟩
        rw [hbx] at BX1 ⊢
        have e0 := BX1.cell (o := 0) (by omega)
        have e1 := BX1.cell (o := 1) (by omega)
        have e2 := BX1.cell (o := 2) (by omega)
        have e3 := BX1.cell (o := 3) (by omega)
        simp only [eBox] at e0 e1 e2 e3
        have el := BX1.lt
        have Bc := B.frame F1 (fun h => h)
        have hlt1 := Bc.lt
        have d164 := Bc.cell (o := 164) (by omega)
        rw [R.lv] at d164
        have pl := Bc.cell (o := 17 + k * 6 + 3) (by omega)
        rw [show f (17 + k * 6 + 3) = _ from R.tv.lv k hks] at pl
        have m9 : decide (((vAt s.vs k).level : Int) > ((vAt s.vs i).level : Int)) = false := decide_eq_false (by omega)
        have m9' : decide ((vAt s.vs i).level < (vAt s.vs k).level) = false := decide_eq_false (by omega)
        have HB1 : Hid (Blk w1 bx 6 _) := BX1
        have HF1 : Hid _ := F1
        clear hw1 HX n0 n1 n2 n3 n4 n5 c0 c1 c2 c3 hlt BX1 F1 Bc B1 hbx
        refine wp_region_text (by kernel_rfl) (by kernel_rfl) ?_
        go_wp2_with fail
        refine ⟨by kernel_rfl, ?_⟩
        by_cases hty : 2 ≤ (vAt s.vs (i)).ty
        · have m5 : decide ((vAt s.vs (i)).ty ≥ 2) = true := decide_eq_true hty
          have Ht : Hid (2 ≤ (vAt s.vs (i)).ty) := hty
          have hs2 := Hsl.out
          rw [if_pos hty] at hs2
          have y5 : (((vAt s.vs (i)).slot : Int) == (cRv (s.vs.take (i)) : Int)) = true := by rw [hs2]; simp
          have y6 : (((vAt s.vs (i)).slot : Int) != (cRv (s.vs.take (i)) : Int)) = false := by rw [hs2]; simp
          have y7 : ((vAt s.vs (i)).slot == cRv (s.vs.take (i))) = true := by rw [hs2]; simp
          clear hty hs2
          go_wp2_with fail
          generalize hw2 : w1.drew = w2
          have FD : Fr (fun _ => False) w1 w2 := hw2 ▸ (Fr.refl _ _).drew
          have HFD : Hid _ := FD
          clear hw2 FD e0 e1 e2 e3 el hlt1 d164
          go_loopg [7] (i) (fun g jv wq => ∃ j : Nat, jv = .int .i64 j ∧ j + g = i ∧ Fr (fun _ => False) w1 wq)
          case atStart => exact ⟨0, rfl, by omega, HFD.out⟩
          case round =>
            obtain ⟨j, rfl, hj, FJ⟩ := hrel
            have Hj : Hid _ := hj
            have BY := HB1.out.frame FJ (fun h => h)
            have e0 := BY.cell (o := 0) (by omega)
            have e3 := BY.cell (o := 3) (by omega)
            simp only [eBox] at e0 e3
            have el := BY.lt
            have Bd := (B.frame HF1.out (fun h => h)).frame FJ (fun h => h)
            have hlt2 := Bd.lt
            have FJ2 : Hid _ := FJ
            by_cases hji : j < i
            · have z7 : decide ((j : Int) < ((i : Nat) : Int)) = true := decide_eq_true (by omega)
              have z8 : decide (j < i) = true := decide_eq_true hji
              have p0 := Bd.cell (o := 17 + j * 6) (by omega)
              rw [show f (17 + j * 6) = _ from R.tv.nm j (by omega)] at p0
              have p3 := Bd.cell (o := 17 + j * 6 + 3) (by omega)
              rw [show f (17 + j * 6 + 3) = _ from R.tv.lv j (by omega)] at p3
              have hj24 : j < 24 := by omega
              by_cases hll : (vAt s.vs j).level = (vAt s.vs (i)).level
              · have hnm := Hdup.out j hji hll
                have y1 := strNe hnm
                rw [hll] at p3
                clear hj hji hll hnm BY Bd FJ
                go_wp2_with fail
                go_quiet (fail)
                go_wp2_with fail
                go_roundg (gk - 1)
                case measure => have := Hj.out; have := of_decide_eq_true z8; omega
                case rel => exact ⟨j + 1, by simp, by have := Hj.out; have := of_decide_eq_true z8; omega, FJ2.out.drewN _⟩
              · have y1 : (((vAt s.vs j).level : Int) == ((vAt s.vs (i)).level : Int)) = false := by simpa using (fun h : ((vAt s.vs j).level : Int) = ((vAt s.vs (i)).level : Int) => hll (by omega))
                have y2 : ((vAt s.vs j).level == (vAt s.vs (i)).level) = false := by simpa using hll
                clear hj hji hll BY Bd FJ
                go_wp2_with fail
                go_quiet (fail)
                go_wp2_with fail
                go_roundg (gk - 1)
                case measure => have := Hj.out; have := of_decide_eq_true z8; omega
                case rel => exact ⟨j + 1, by simp, by have := Hj.out; have := of_decide_eq_true z8; omega, FJ2.out.drewN _⟩
            · have z7 : decide ((j : Int) < ((i : Nat) : Int)) = false := decide_eq_false (by omega)
              have z8 : decide (j < i) = false := decide_eq_false hji
              clear hj hji BY Bd FJ
              go_wp2_with fail
              go_roundg (s.vs.length - (i) - 1)
              case measure => have := Hg.out; omega
              case rel => exact ⟨i + 1, by simp, by rw [t1.out.1, if_pos Ht.out]; simp, by rw [t1.out.2, if_pos Ht.out]; simp, by have := Hg.out; omega, HF1.out.trans FJ2.out (fun _ _ h => h)⟩
        · have m5 : decide ((vAt s.vs (i)).ty ≥ 2) = false := decide_eq_false hty
          have Ht : Hid (¬ 2 ≤ (vAt s.vs (i)).ty) := hty
          have hs2 := Hsl.out
          rw [if_neg hty] at hs2
          have y5 : (((vAt s.vs (i)).slot : Int) == (cIv (s.vs.take (i)) : Int)) = true := by rw [hs2]; simp
          have y6 : (((vAt s.vs (i)).slot : Int) != (cIv (s.vs.take (i)) : Int)) = false := by rw [hs2]; simp
          have y7 : ((vAt s.vs (i)).slot == cIv (s.vs.take (i))) = true := by rw [hs2]; simp
          clear hty hs2
          go_wp2_with fail
          generalize hw2 : w1.drew = w2
          have FD : Fr (fun _ => False) w1 w2 := hw2 ▸ (Fr.refl _ _).drew
          have HFD : Hid _ := FD
          clear hw2 FD e0 e1 e2 e3 el hlt1 d164
          go_loopg [7] (i) (fun g jv wq => ∃ j : Nat, jv = .int .i64 j ∧ j + g = i ∧ Fr (fun _ => False) w1 wq)
          case atStart => exact ⟨0, rfl, by omega, HFD.out⟩
          case round =>
            obtain ⟨j, rfl, hj, FJ⟩ := hrel
            have Hj : Hid _ := hj
            have BY := HB1.out.frame FJ (fun h => h)
            have e0 := BY.cell (o := 0) (by omega)
            have e3 := BY.cell (o := 3) (by omega)
            simp only [eBox] at e0 e3
            have el := BY.lt
            have Bd := (B.frame HF1.out (fun h => h)).frame FJ (fun h => h)
            have hlt2 := Bd.lt
            have FJ2 : Hid _ := FJ
            by_cases hji : j < i
            · have z7 : decide ((j : Int) < ((i : Nat) : Int)) = true := decide_eq_true (by omega)
              have z8 : decide (j < i) = true := decide_eq_true hji
              have p0 := Bd.cell (o := 17 + j * 6) (by omega)
              rw [show f (17 + j * 6) = _ from R.tv.nm j (by omega)] at p0
              have p3 := Bd.cell (o := 17 + j * 6 + 3) (by omega)
              rw [show f (17 + j * 6 + 3) = _ from R.tv.lv j (by omega)] at p3
              have hj24 : j < 24 := by omega
              by_cases hll : (vAt s.vs j).level = (vAt s.vs (i)).level
              · have hnm := Hdup.out j hji hll
                have y1 := strNe hnm
                rw [hll] at p3
                clear hj hji hll hnm BY Bd FJ
                go_wp2_with fail
                go_quiet (fail)
                go_wp2_with fail
                go_roundg (gk - 1)
                case measure => have := Hj.out; have := of_decide_eq_true z8; omega
                case rel => exact ⟨j + 1, by simp, by have := Hj.out; have := of_decide_eq_true z8; omega, FJ2.out.drewN _⟩
              · have y1 : (((vAt s.vs j).level : Int) == ((vAt s.vs (i)).level : Int)) = false := by simpa using (fun h : ((vAt s.vs j).level : Int) = ((vAt s.vs (i)).level : Int) => hll (by omega))
                have y2 : ((vAt s.vs j).level == (vAt s.vs (i)).level) = false := by simpa using hll
                clear hj hji hll BY Bd FJ
                go_wp2_with fail
                go_quiet (fail)
                go_wp2_with fail
                go_roundg (gk - 1)
                case measure => have := Hj.out; have := of_decide_eq_true z8; omega
                case rel => exact ⟨j + 1, by simp, by have := Hj.out; have := of_decide_eq_true z8; omega, FJ2.out.drewN _⟩
            · have z7 : decide ((j : Int) < ((i : Nat) : Int)) = false := decide_eq_false (by omega)
              have z8 : decide (j < i) = false := decide_eq_false hji
              clear hj hji BY Bd FJ
              go_wp2_with fail
              go_roundg (s.vs.length - (i) - 1)
              case measure => have := Hg.out; omega
              case rel => exact ⟨i + 1, by simp, by rw [t1.out.1, if_neg (show ¬ 2 ≤ (vAt s.vs (i)).ty by have := Ht.out; omega)]; simp, by rw [t1.out.2, if_neg (show ¬ 2 ≤ (vAt s.vs (i)).ty by have := Ht.out; omega)]; simp, by have := Hg.out; omega, HF1.out.trans FJ2.out (fun _ _ h => h)⟩
    · have z0 : decide ((i : Int) < ((s.vs.length : Nat) : Int)) = false := decide_eq_false (by omega)
      have z1 : decide (i < s.vs.length) = false := decide_eq_false hi
      obtain rfl : i = s.vs.length := by omega
      rw [List.take_length] at hcnt hcl ⊢
      have g1 := G.ni
      have g2 := G.nr
      have g3 := G.ni12
      have g4 := G.nr12
      rw [g1] at c1 g3
      rw [g2] at c2 g4
      have g5 : decide (((cIv s.vs : Nat) : Int) ≤ 12) = true := decide_eq_true (by omega)
      have g6 : decide (((cRv s.vs : Nat) : Int) ≤ 12) = true := decide_eq_true (by omega)
      clear hg hi g1 g2
      go_wp2_with fail
      go_ret
      exact ⟨by simp, F⟩
end
end Go.Proofs.Qxb6500276aGreat
