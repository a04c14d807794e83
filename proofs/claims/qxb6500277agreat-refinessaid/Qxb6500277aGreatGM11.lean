/- The definitional interpreter: binary. -/
import Derived.Test.Qxb6500277aGreatGM4
import Derived.Test.Qxb6500277aGreatVR6
namespace Go.Proofs.Qxb6500277aGreat
open Go Go.RowKit

set_option maxRecDepth 100000 in
set_option maxHeartbeats 4000000 in
theorem bin_op {G : Gmx} {fm : Int} {n : Nat} (I : EvC G fm n) (o p : Int) (x1 x2 : Exp) (he1 : szE x1 ≤ n) (he2 : szE x2 ≤ n) {w : World} {Q : Nat → Prop} {s : Ss} {b : Nat} {nx : Int} {li lr : Nat} {lv : Value} (E : Ev0 G w Q s lv li lr) (hf : s.fuel ≤ fm) (L1 : Lie G.ns b (flE b (-1) x1)) (L2 : Lie G.ns (b + szE x1) (flE (b + szE x1) (-1) x2)) (W : WtE G.P0 li lr b (.bin o p x1 x2)) {nd : Nd} (hnd : nd = ⟨18, rtE b x1, rtE (b + szE x1) x2, -1, nx, o, p, ⟨#[]⟩⟩) (ho : ¬ (o = 37 ∨ o = 38)) :
    Calls Tryz.prog 135 #[.pointer (some ⟨G.r, 0, none⟩), .agg #[.int .i64 nd.kind, .int .i64 nd.a, .int .i64 nd.b, .int .i64 nd.c, .int .i64 nd.nx, .int .i64 nd.val, .int .i64 nd.pos, .string nd.name], lv, .int .i64 (s.rb : Nat)] w fun e w' => ∃ v, e = .returned (.int .i64 v) ∧ Fat G w Q w' s 1 0 (bodyI G.P0 (.ev b (.bin o p x1 x2)) s) v := by
  simp only [WtE] at W
  obtain ⟨W1, W2, W3, W4, W5⟩ := W
  have N := Nb.mk' E nd
  have HK : Hid (True ∧ _) := ⟨trivial, And.intro N (And.intro hnd E)⟩
  clear hnd N E
  go_enter Tryz.func135, Tryz.ntmps135
  go_upto_region 1 with fail
  obtain ⟨_, N, hnd, E⟩ := HK.out
  obtain ⟨w2, hw2⟩ : ∃ w2, w2 = w.alloc (.cells #[.int .i64 nd.kind, .int .i64 nd.a, .int .i64 nd.b, .int .i64 nd.c, .int .i64 nd.nx, .int .i64 nd.val, .int .i64 nd.pos, .string nd.name] 145) := ⟨_, rfl⟩
  obtain ⟨nb, hnb⟩ : ∃ nb, nb = w.heap.size := ⟨_, rfl⟩
  rw [← hw2, ← hnb] at N
  rw [← hw2, ← hnb]
  clear hw2 hnb HK
  have Bn := N.bk
  have m1 : w2.cell? ⟨nb, 1, none⟩ = some (.int .i64 nd.a) := Bn.cell (o := 1) (by omega)
  have nbl := Bn.lt
  have q := I.use he1 N.e2 N.mm N.e2.sb (Rl.refl s) rfl hf L1 (x := nd.a) (by rw [hnd]) W1
  obtain ⟨x1', x2'⟩ := duT_i W3
  rw [x1', x2'] at q
  obtain ⟨x3', x4'⟩ := duT_i W4
  have y37 : (nd.val == 37) = false := by rw [hnd]; simpa using fun h => ho (.inl h)
  have y38 : (nd.val == 38) = false := by rw [hnd]; simpa using fun h => ho (.inr h)
  have nbr : nb ≠ G.r := fun e => N.np (e ▸ N.rQ)
  have HF : Hid (True ∧ _) := ⟨trivial, And.intro N (And.intro hnd (And.intro L2 (And.intro W2 (And.intro x3' (And.intro x4' (And.intro I (And.intro he2 hf)))))))⟩
  clear N hnd W1 W2 W3 W4 W5 x1' x2' x3' x4' I L1 L2 he1 he2 hf Bn E
  go_wp2_with fail
  refine q.mono ?_
  rintro z w3 ⟨v1, rfl, h⟩
  clear q m1
  obtain ⟨_, N, hnd, L2, W2, x3, x4, I, he2, hf⟩ := HF.out
  have Bn := N.b h.fr
  have m2 : w3.cell? ⟨nb, 2, none⟩ = some (.int .i64 nd.b) := Bn.cell (o := 2) (by omega)
  have m5 : w3.cell? ⟨nb, 5, none⟩ = some (.int .i64 nd.val) := Bn.cell (o := 5) (by omega)
  have nbl := Bn.lt
  clear Bn
  rcases h with h | h
  · obtain ⟨t1, g1, M1, S1, R1, l1⟩ := h
    obtain ⟨ov, O, Hv⟩ := M1.1
    have c15 := Hv.c15
    have c17 := Hv.c17
    have rlt := Hv.rlt
    have hz := Hv.blk.frozen
    clear Hv
    have q2 := I.use he2 N.e2 M1 S1 R1 l1 hf L2 (x := nd.b) (by rw [hnd]) W2
    rw [x3, x4] at q2
    have HM : Hid (True ∧ _) := ⟨trivial, And.intro g1 (And.intro R1 (And.intro l1 M1))⟩
    have Ho : Hid (True ∧ _) := ⟨trivial, ho⟩
    clear g1 M1 S1 R1 l1 N hnd L2 W2 x3 x4 I he2 hf ho
    go_wp2_with fail
    refine q2.mono ?_
    rintro z w4 ⟨v2, rfl, h⟩
    clear q2 c15 c17 rlt hz m2 m5 nbl
    obtain ⟨_, N, hnd, L2, W2, x3, x4, I, he2, hf⟩ := HF.out
    have Bn := N.b h.fr
    have m5 : w4.cell? ⟨nb, 5, none⟩ = some (.int .i64 nd.val) := Bn.cell (o := 5) (by omega)
    have nbl := Bn.lt
    have s0 := N.e2.sb.u0
    clear Bn N L2 W2 x3 x4 I he2 hf
    have ev : nd.val = o := by rw [hnd]
    rw [ev] at m5
    clear hnd ev y37 y38
    rcases h with h | h
    · obtain ⟨t2, g2, M2, S2, R2, l2⟩ := h
      obtain ⟨_, g1, R1, l1, M1⟩ := HM.out
      have RR := R1.trans R2
      have hu := RR.us
      have u0 := S2.u0
      have u48 := S2.u48
      obtain ⟨ov, O, Hv⟩ := M2.1
      have c15 := Hv.c15
      have c17 := Hv.c17
      have rlt := Hv.rlt
      have hz := Hv.blk.frozen
      have e1 : wrap64 (t2.us - 1) = t2.us - 1 := by simp only [wrap64]; omega
      have M3 := M2.setU (t2.us - 1)
      have S3 : SB G { t2 with us := t2.us - 1 } := ⟨by show 0 ≤ t2.us - 1; omega, by show t2.us - 1 ≤ 48; omega, S2.r24, S2.mi, S2.ou, S2.f1, S2.f0, S2.ip, S2.il⟩
      have R3 : Rl 1 0 s { t2 with us := t2.us - 1 } := ⟨RR.rb, RR.ll, by show t2.us - 1 = s.us + (1 : Nat); omega, RR.rt, RR.fu⟩
      have HM2 : Hid (True ∧ _) := ⟨trivial, And.intro g2 (And.intro M3 (And.intro S3 (And.intro R3 (And.intro (l2.trans l1) (And.intro S2 M2)))))⟩
      clear g1 R1 l1 M1 RR hu M2 S2 R2 l2 g2 Hv M3 S3 R3
      by_cases hk32 : o = 32
      · subst hk32
        go_wp2_with fail
        go_ret
        obtain ⟨_, N, hnd, L2, W2, x3, x4, I, he2, hf⟩ := HF.out
        obtain ⟨_, g1, R1, l1, M1⟩ := HM.out
        obtain ⟨_, g2, M3, S3, R3, l3, S2, M2⟩ := HM2.out
        refine ⟨_, rfl, N.fat ?_⟩
        simp only [bodyI]
        refine Fat.call g1 ?_
        rw [if_neg Ho.out.2]
        refine Fat.call g2 ?_
        rw [if_neg (by omega)]
        exact Fat.go M3 S3 R3 l3
      by_cases hk33 : o = 33
      · subst hk33
        go_wp2_with fail
        go_ret
        obtain ⟨_, N, hnd, L2, W2, x3, x4, I, he2, hf⟩ := HF.out
        obtain ⟨_, g1, R1, l1, M1⟩ := HM.out
        obtain ⟨_, g2, M3, S3, R3, l3, S2, M2⟩ := HM2.out
        refine ⟨_, rfl, N.fat ?_⟩
        simp only [bodyI]
        refine Fat.call g1 ?_
        rw [if_neg Ho.out.2]
        refine Fat.call g2 ?_
        rw [if_neg (by omega)]
        exact Fat.go M3 S3 R3 l3
      by_cases hk34 : o = 34
      · subst hk34
        go_wp2_with fail
        go_ret
        obtain ⟨_, N, hnd, L2, W2, x3, x4, I, he2, hf⟩ := HF.out
        obtain ⟨_, g1, R1, l1, M1⟩ := HM.out
        obtain ⟨_, g2, M3, S3, R3, l3, S2, M2⟩ := HM2.out
        refine ⟨_, rfl, N.fat ?_⟩
        simp only [bodyI]
        refine Fat.call g1 ?_
        rw [if_neg Ho.out.2]
        refine Fat.call g2 ?_
        rw [if_neg (by omega)]
        exact Fat.go M3 S3 R3 l3
      by_cases hk35 : o = 35
      · subst hk35
        by_cases hz2 : v2 = 0
        · subst hz2
          go_wp2_with fail
          go_ret
          obtain ⟨_, N, hnd, L2, W2, x3, x4, I, he2, hf⟩ := HF.out
          obtain ⟨_, g1, R1, l1, M1⟩ := HM.out
          obtain ⟨_, g2, M3, S3, R3, l3, S2, M2⟩ := HM2.out
          refine ⟨_, rfl, N.fat ?_⟩
          simp only [bodyI]
          refine Fat.call g1 ?_
          rw [if_neg Ho.out.2]
          refine Fat.call g2 ?_
          rw [if_pos (by simp)]
          exact Fat.die (by decide) (M3.setE 25) rfl rfl S2.r24 S2.ou
        · have yz : (v2 == 0) = false := by simpa using hz2
          have q5 := fun w => quoF v1 v2 hz2 w
          have Hz2 : Hid (True ∧ _) := ⟨trivial, hz2⟩
          clear hz2
          go_wp2_with fail
          refine (q5 _).mono ?_
          rintro z w5 ⟨rfl, hw5⟩
          subst w5
          clear q5
          go_wp2_with fail
          go_ret
          obtain ⟨_, N, hnd, L2, W2, x3, x4, I, he2, hf⟩ := HF.out
          obtain ⟨_, g1, R1, l1, M1⟩ := HM.out
          obtain ⟨_, g2, M3, S3, R3, l3, S2, M2⟩ := HM2.out
          refine ⟨_, rfl, N.fat ?_⟩
          simp only [bodyI]
          refine Fat.call g1 ?_
          rw [if_neg Ho.out.2]
          refine Fat.call g2 ?_
          rw [if_neg (fun h => Hz2.out.2 h.2)]
          exact Fat.go M3 S3 R3 l3
      by_cases hk36 : o = 36
      · subst hk36
        by_cases hz2 : v2 = 0
        · subst hz2
          go_wp2_with fail
          go_ret
          obtain ⟨_, N, hnd, L2, W2, x3, x4, I, he2, hf⟩ := HF.out
          obtain ⟨_, g1, R1, l1, M1⟩ := HM.out
          obtain ⟨_, g2, M3, S3, R3, l3, S2, M2⟩ := HM2.out
          refine ⟨_, rfl, N.fat ?_⟩
          simp only [bodyI]
          refine Fat.call g1 ?_
          rw [if_neg Ho.out.2]
          refine Fat.call g2 ?_
          rw [if_pos (by simp)]
          exact Fat.die (by decide) (M3.setE 25) rfl rfl S2.r24 S2.ou
        · have yz : (v2 == 0) = false := by simpa using hz2
          have q5 := fun w => remF v1 v2 hz2 w
          have Hz2 : Hid (True ∧ _) := ⟨trivial, hz2⟩
          clear hz2
          go_wp2_with fail
          refine (q5 _).mono ?_
          rintro z w5 ⟨rfl, hw5⟩
          subst w5
          clear q5
          go_wp2_with fail
          go_ret
          obtain ⟨_, N, hnd, L2, W2, x3, x4, I, he2, hf⟩ := HF.out
          obtain ⟨_, g1, R1, l1, M1⟩ := HM.out
          obtain ⟨_, g2, M3, S3, R3, l3, S2, M2⟩ := HM2.out
          refine ⟨_, rfl, N.fat ?_⟩
          simp only [bodyI]
          refine Fat.call g1 ?_
          rw [if_neg Ho.out.2]
          refine Fat.call g2 ?_
          rw [if_neg (fun h => Hz2.out.2 h.2)]
          exact Fat.go M3 S3 R3 l3
      by_cases hk26 : o = 26
      · subst hk26
        have q5 := fun w => b2iK (w := w) (v1 == v2)
        go_wp2_with fail
        refine (q5 _).mono ?_
        rintro z w5 ⟨rfl, hw5⟩
        subst w5
        clear q5
        go_wp2_with fail
        go_ret
        obtain ⟨_, N, hnd, L2, W2, x3, x4, I, he2, hf⟩ := HF.out
        obtain ⟨_, g1, R1, l1, M1⟩ := HM.out
        obtain ⟨_, g2, M3, S3, R3, l3, S2, M2⟩ := HM2.out
        refine ⟨_, rfl, N.fat ?_⟩
        simp only [bodyI]
        refine Fat.call g1 ?_
        rw [if_neg Ho.out.2]
        refine Fat.call g2 ?_
        rw [if_neg (by omega)]
        refine Fat.val ?_ (Fat.go M3 S3 R3 l3)
        first | (simp [binI, opB, compI]; done) | (simp [binI, opB, compI]; rfl)
      by_cases hk27 : o = 27
      · subst hk27
        have q5 := fun w => b2iK (w := w) (v1 != v2)
        go_wp2_with fail
        refine (q5 _).mono ?_
        rintro z w5 ⟨rfl, hw5⟩
        subst w5
        clear q5
        go_wp2_with fail
        go_ret
        obtain ⟨_, N, hnd, L2, W2, x3, x4, I, he2, hf⟩ := HF.out
        obtain ⟨_, g1, R1, l1, M1⟩ := HM.out
        obtain ⟨_, g2, M3, S3, R3, l3, S2, M2⟩ := HM2.out
        refine ⟨_, rfl, N.fat ?_⟩
        simp only [bodyI]
        refine Fat.call g1 ?_
        rw [if_neg Ho.out.2]
        refine Fat.call g2 ?_
        rw [if_neg (by omega)]
        refine Fat.val ?_ (Fat.go M3 S3 R3 l3)
        first | (simp [binI, opB, compI]; done) | (simp [binI, opB, compI]; rfl)
      by_cases hk28 : o = 28
      · subst hk28
        have q5 := fun w => b2iK (w := w) (decide (v1 < v2))
        go_wp2_with fail
        refine (q5 _).mono ?_
        rintro z w5 ⟨rfl, hw5⟩
        subst w5
        clear q5
        go_wp2_with fail
        go_ret
        obtain ⟨_, N, hnd, L2, W2, x3, x4, I, he2, hf⟩ := HF.out
        obtain ⟨_, g1, R1, l1, M1⟩ := HM.out
        obtain ⟨_, g2, M3, S3, R3, l3, S2, M2⟩ := HM2.out
        refine ⟨_, rfl, N.fat ?_⟩
        simp only [bodyI]
        refine Fat.call g1 ?_
        rw [if_neg Ho.out.2]
        refine Fat.call g2 ?_
        rw [if_neg (by omega)]
        refine Fat.val ?_ (Fat.go M3 S3 R3 l3)
        first | (simp [binI, opB, compI]; done) | (simp [binI, opB, compI]; rfl)
      by_cases hk29 : o = 29
      · subst hk29
        have q5 := fun w => b2iK (w := w) (decide (v1 ≤ v2))
        go_wp2_with fail
        refine (q5 _).mono ?_
        rintro z w5 ⟨rfl, hw5⟩
        subst w5
        clear q5
        go_wp2_with fail
        go_ret
        obtain ⟨_, N, hnd, L2, W2, x3, x4, I, he2, hf⟩ := HF.out
        obtain ⟨_, g1, R1, l1, M1⟩ := HM.out
        obtain ⟨_, g2, M3, S3, R3, l3, S2, M2⟩ := HM2.out
        refine ⟨_, rfl, N.fat ?_⟩
        simp only [bodyI]
        refine Fat.call g1 ?_
        rw [if_neg Ho.out.2]
        refine Fat.call g2 ?_
        rw [if_neg (by omega)]
        refine Fat.val ?_ (Fat.go M3 S3 R3 l3)
        first | (simp [binI, opB, compI]; done) | (simp [binI, opB, compI]; rfl)
      by_cases hk30 : o = 30
      · subst hk30
        have q5 := fun w => b2iK (w := w) (decide (v1 > v2))
        go_wp2_with fail
        refine (q5 _).mono ?_
        rintro z w5 ⟨rfl, hw5⟩
        subst w5
        clear q5
        go_wp2_with fail
        go_ret
        obtain ⟨_, N, hnd, L2, W2, x3, x4, I, he2, hf⟩ := HF.out
        obtain ⟨_, g1, R1, l1, M1⟩ := HM.out
        obtain ⟨_, g2, M3, S3, R3, l3, S2, M2⟩ := HM2.out
        refine ⟨_, rfl, N.fat ?_⟩
        simp only [bodyI]
        refine Fat.call g1 ?_
        rw [if_neg Ho.out.2]
        refine Fat.call g2 ?_
        rw [if_neg (by omega)]
        refine Fat.val ?_ (Fat.go M3 S3 R3 l3)
        first | (simp [binI, opB, compI]; done) | (simp [binI, opB, compI]; rfl)
      have y32 : (o == 32) = false := by simpa using hk32
      have y33 : (o == 33) = false := by simpa using hk33
      have y34 : (o == 34) = false := by simpa using hk34
      have y35 : (o == 35) = false := by simpa using hk35
      have y36 : (o == 36) = false := by simpa using hk36
      have y26 : (o == 26) = false := by simpa using hk26
      have y27 : (o == 27) = false := by simpa using hk27
      have y28 : (o == 28) = false := by simpa using hk28
      have y29 : (o == 29) = false := by simpa using hk29
      have y30 : (o == 30) = false := by simpa using hk30
      have hop : opB o = 20 := by unfold opB; rw [if_neg hk32, if_neg hk33, if_neg hk34, if_neg hk35, if_neg hk36, if_neg hk26, if_neg hk27, if_neg hk28, if_neg hk29, if_neg hk30]
      have HO : Hid (True ∧ _) := ⟨trivial, And.intro hop (And.intro hk35 hk36)⟩
      clear hk32 hk33 hk34 hk35 hk36 hk26 hk27 hk28 hk29 hk30 hop
      have q5 := fun w => b2iK (w := w) (decide (v1 ≥ v2))
      go_wp2_with fail
      refine (q5 _).mono ?_
      rintro z w5 ⟨rfl, hw5⟩
      subst w5
      clear q5
      go_wp2_with fail
      go_ret
      obtain ⟨_, N, hnd, L2, W2, x3, x4, I, he2, hf⟩ := HF.out
      obtain ⟨_, g1, R1, l1, M1⟩ := HM.out
      obtain ⟨_, g2, M3, S3, R3, l3, S2, M2⟩ := HM2.out
      refine ⟨_, rfl, N.fat ?_⟩
      simp only [bodyI]
      refine Fat.call g1 ?_
      rw [if_neg Ho.out.2]
      refine Fat.call g2 ?_
      rw [if_neg (fun h => h.1.elim HO.out.2.2.1 HO.out.2.2.2)]
      refine Fat.val ?_ (Fat.go M3 S3 R3 l3)
      unfold binI
      rw [HO.out.2.1]
      simp [compI]
    · obtain ⟨en, he, c17, rlt⟩ := h.c17
      have yy : (en != 0) = true := by simpa using he
      have HD : Hid (True ∧ _) := ⟨trivial, h⟩
      clear h he
      go_wp2_with fail
      go_ret
      obtain ⟨_, N, hnd, L2, W2, x3, x4, I, he2, hf⟩ := HF.out
      obtain ⟨_, g1, R1, l1, M1⟩ := HM.out
      refine ⟨0, rfl, N.fat ?_⟩
      simp only [bodyI]
      refine Fat.call g1 ?_
      rw [if_neg Ho.out.2]
      exact Fat.dead HD.out.2
  · obtain ⟨en, he, c17, rlt⟩ := h.c17
    have yy : (en != 0) = true := by simpa using he
    have HD : Hid (True ∧ _) := ⟨trivial, h⟩
    clear h he N hnd L2 W2 x3 x4 I he2 hf
    go_wp2_with fail
    go_ret
    obtain ⟨_, N, hnd, L2, W2, x3, x4, I, he2, hf⟩ := HF.out
    refine ⟨0, rfl, N.fat ?_⟩
    simp only [bodyI]
    exact Fat.dead HD.out.2
end Go.Proofs.Qxb6500277aGreat
