/- The definitional interpreter: binary: short. -/
import Derived.Test.Qxb6500277aGreatGM4
namespace Go.Proofs.Qxb6500277aGreat
open Go Go.RowKit

set_option maxRecDepth 100000 in
set_option maxHeartbeats 4000000 in
theorem bin37_set {G : Gmx} {fm : Int} {n : Nat} (I : EvC G fm n) (o p : Int) (x1 x2 : Exp) (he1 : szE x1 ≤ n) (he2 : szE x2 ≤ n) {w : World} {Q : Nat → Prop} {s : Ss} {b : Nat} {nx : Int} {li lr : Nat} {lv : Value} (E : Ev0 G w Q s lv li lr) (hf : s.fuel ≤ fm) (L1 : Lie G.ns b (flE b (-1) x1)) (L2 : Lie G.ns (b + szE x1) (flE (b + szE x1) (-1) x2)) (W : WtE G.P0 li lr b (.bin o p x1 x2)) {nd : Nd} (hnd : nd = ⟨18, rtE b x1, rtE (b + szE x1) x2, -1, nx, o, p, ⟨#[]⟩⟩) (ho : o = 37) :
    Calls Tryz.prog 135 #[.pointer (some ⟨G.r, 0, none⟩), .agg #[.int .i64 nd.kind, .int .i64 nd.a, .int .i64 nd.b, .int .i64 nd.c, .int .i64 nd.nx, .int .i64 nd.val, .int .i64 nd.pos, .string nd.name], lv, .int .i64 (s.rb : Nat)] w fun e w' => ∃ v, e = .returned (.int .i64 v) ∧ Fat G w Q w' s 1 0 (bodyI G.P0 (.ev b (.bin o p x1 x2)) s) v := by
  simp only [WtE] at W
  obtain ⟨W1, W2, W3, W4, W5⟩ := W
  have N := Nb.mk' E nd
  have HK : Hid (True ∧ _) := ⟨trivial, And.intro N (And.intro hnd E)⟩
  clear hnd N E
  go_enter Tryz.func135, Tryz.ntmps135
  go_upto_region 1 with fail
  obtain ⟨_, N, hnd, E⟩ := HK.out
  obtain ⟨w2, hw2⟩ : ∃ w2, w2 = w.alloc (.cells #[.int .i64 nd.kind, .int .i64 nd.a, .int .i64 nd.b, .int .i64 nd.c, .int .i64 nd.nx, .int .i64 nd.val, .int .i64 nd.pos, .string nd.name] 145) := ⟨_, rfl⟩
  obtain ⟨nb, hnb⟩ : ∃ nb, nb = w.heap.size := ⟨_, rfl⟩
  rw [← hw2, ← hnb] at N
  rw [← hw2, ← hnb]
  clear hw2 hnb HK
  have Bn := N.bk
  have m1 : w2.cell? ⟨nb, 1, none⟩ = some (.int .i64 nd.a) := Bn.cell (o := 1) (by omega)
  have nbl := Bn.lt
  have q := I.use he1 N.e2 N.mm N.e2.sb (Rl.refl s) rfl hf L1 (x := nd.a) (by rw [hnd]) W1
  obtain ⟨x1', x2'⟩ := duT_i W3
  rw [x1', x2'] at q
  obtain ⟨x3', x4'⟩ := duT_i W4
  have y37 : (nd.val == 37) = true := by rw [hnd, ho]; rfl
  have y38 : (nd.val == 38) = false := by rw [hnd, ho]; rfl
  have nbr : nb ≠ G.r := fun e => N.np (e ▸ N.rQ)
  have HF : Hid (True ∧ _) := ⟨trivial, And.intro N (And.intro hnd (And.intro L2 (And.intro W2 (And.intro x3' (And.intro x4' (And.intro I (And.intro he2 hf)))))))⟩
  clear N hnd W1 W2 W3 W4 W5 x1' x2' x3' x4' I L1 L2 he1 he2 hf Bn E
  go_wp2_with fail
  refine q.mono ?_
  rintro z w3 ⟨v1, rfl, h⟩
  clear q m1
  obtain ⟨_, N, hnd, L2, W2, x3, x4, I, he2, hf⟩ := HF.out
  have Bn := N.b h.fr
  have m2 : w3.cell? ⟨nb, 2, none⟩ = some (.int .i64 nd.b) := Bn.cell (o := 2) (by omega)
  have m5 : w3.cell? ⟨nb, 5, none⟩ = some (.int .i64 nd.val) := Bn.cell (o := 5) (by omega)
  have nbl := Bn.lt
  clear Bn
  rcases h with h | h
  · obtain ⟨t1, g1, M1, S1, R1, l1⟩ := h
    obtain ⟨ov, O, Hv⟩ := M1.1
    have c15 := Hv.c15
    have c17 := Hv.c17
    have rlt := Hv.rlt
    have hz := Hv.blk.frozen
    clear Hv
    by_cases hv : v1 = 0
    · have yv : (v1 != 0) = false := by simpa using hv
      have q2 := b2iK (w := w3) false
      have HM : Hid (True ∧ _) := ⟨trivial, And.intro g1 (And.intro M1 (And.intro S1 (And.intro R1 (And.intro l1 hv))))⟩
      clear g1 M1 S1 R1 l1 hv N hnd L2 W2 x3 x4 I he2 hf
      go_wp2_with fail
      refine q2.mono ?_
      rintro z w4 ⟨rfl, hw4⟩
      subst w4
      clear q2
      go_wp2_with fail
      go_ret
      obtain ⟨_, N, hnd, L2, W2, x3, x4, I, he2, hf⟩ := HF.out
      obtain ⟨_, g1, M1, S1, R1, l1, hv⟩ := HM.out
      refine ⟨flagI false, rfl, N.fat ?_⟩
      simp only [bodyI]
      refine Fat.call g1 ?_
      have e1 : (if decide (v1 ≠ 0) = decide (o = 38) then goOn (flagI (decide (o = 38))) t1 else .call (.ev (b + szE x1) x2) { t1 with us := t1.us - 1 } goOn) = goOn (flagI false) t1 := by
        subst ho
        rw [if_pos (by simp [hv])]
        rfl
      rw [if_pos (by omega), e1]
      exact Fat.go M1 S1 R1 l1
    · have yv : (v1 != 0) = true := by simpa using hv
      have u0 := S1.u0
      have u48 := S1.u48
      have s0 := N.e2.sb.u0
      have hu := R1.us
      have e1 : wrap64 (t1.us - 1) = t1.us - 1 := by simp only [wrap64]; omega
      have M3 := M1.setU (t1.us - 1)
      have S3 : SB G { t1 with us := t1.us - 1 } := ⟨by show 0 ≤ t1.us - 1; omega, by show t1.us - 1 ≤ 48; omega, S1.r24, S1.mi, S1.ou, S1.f1, S1.f0, S1.ip, S1.il⟩
      have R3 : Rl 0 0 s { t1 with us := t1.us - 1 } := ⟨R1.rb, R1.ll, by show t1.us - 1 = s.us + (0 : Nat); omega, R1.rt, R1.fu⟩
      have q2 := I.use he2 N.e2 M3 S3 R3 l1 hf L2 (x := nd.b) (by rw [hnd]) W2
      rw [x3, x4] at q2
      have HM : Hid (True ∧ _) := ⟨trivial, And.intro g1 (And.intro R3 (And.intro l1 hv))⟩
      clear g1 M1 S1 R1 l1 hv N hnd L2 W2 x3 x4 I he2 hf M3 S3 R3 hu
      go_wp2_with fail
      refine q2.mono ?_
      rintro z w4 ⟨v2, rfl, h⟩
      have HM2 : Hid (True ∧ _) := ⟨trivial, h⟩
      clear q2 h
      go_wp2_with fail
      go_ret
      obtain ⟨_, N, hnd, L2, W2, x3, x4, I, he2, hf⟩ := HF.out
      obtain ⟨_, g1, R3, l1, hv⟩ := HM.out
      refine ⟨v2, rfl, N.fat ?_⟩
      simp only [bodyI]
      refine Fat.call g1 ?_
      have e1 : (if decide (v1 ≠ 0) = decide (o = 38) then goOn (flagI (decide (o = 38))) t1 else .call (.ev (b + szE x1) x2) { t1 with us := t1.us - 1 } goOn) = .call (.ev (b + szE x1) x2) { t1 with us := t1.us - 1 } goOn := by
        subst ho
        rw [if_neg (by simp [hv])]
      rw [if_pos (by omega), e1]
      rcases HM2.out.2 with ⟨t2, g2, M2, S2, R2, l2⟩ | h
      · exact Fat.call g2 (Fat.go M2 S2 (R3.trans R2) (l2.trans l1))
      · exact Fat.dead h
  · obtain ⟨en, he, c17, rlt⟩ := h.c17
    have yy : (en != 0) = true := by simpa using he
    have HD : Hid (True ∧ _) := ⟨trivial, h⟩
    clear h he N hnd L2 W2 x3 x4 I he2 hf
    go_wp2_with fail
    go_ret
    obtain ⟨_, N, hnd, L2, W2, x3, x4, I, he2, hf⟩ := HF.out
    refine ⟨0, rfl, N.fat ?_⟩
    simp only [bodyI]
    exact Fat.dead HD.out.2
set_option maxRecDepth 100000 in
set_option maxHeartbeats 4000000 in
theorem bin38_set {G : Gmx} {fm : Int} {n : Nat} (I : EvC G fm n) (o p : Int) (x1 x2 : Exp) (he1 : szE x1 ≤ n) (he2 : szE x2 ≤ n) {w : World} {Q : Nat → Prop} {s : Ss} {b : Nat} {nx : Int} {li lr : Nat} {lv : Value} (E : Ev0 G w Q s lv li lr) (hf : s.fuel ≤ fm) (L1 : Lie G.ns b (flE b (-1) x1)) (L2 : Lie G.ns (b + szE x1) (flE (b + szE x1) (-1) x2)) (W : WtE G.P0 li lr b (.bin o p x1 x2)) {nd : Nd} (hnd : nd = ⟨18, rtE b x1, rtE (b + szE x1) x2, -1, nx, o, p, ⟨#[]⟩⟩) (ho : o = 38) :
    Calls Tryz.prog 135 #[.pointer (some ⟨G.r, 0, none⟩), .agg #[.int .i64 nd.kind, .int .i64 nd.a, .int .i64 nd.b, .int .i64 nd.c, .int .i64 nd.nx, .int .i64 nd.val, .int .i64 nd.pos, .string nd.name], lv, .int .i64 (s.rb : Nat)] w fun e w' => ∃ v, e = .returned (.int .i64 v) ∧ Fat G w Q w' s 1 0 (bodyI G.P0 (.ev b (.bin o p x1 x2)) s) v := by
  simp only [WtE] at W
  obtain ⟨W1, W2, W3, W4, W5⟩ := W
  have N := Nb.mk' E nd
  have HK : Hid (True ∧ _) := ⟨trivial, And.intro N (And.intro hnd E)⟩
  clear hnd N E
  go_enter Tryz.func135, Tryz.ntmps135
  go_upto_region 1 with fail
  obtain ⟨_, N, hnd, E⟩ := HK.out
  obtain ⟨w2, hw2⟩ : ∃ w2, w2 = w.alloc (.cells #[.int .i64 nd.kind, .int .i64 nd.a, .int .i64 nd.b, .int .i64 nd.c, .int .i64 nd.nx, .int .i64 nd.val, .int .i64 nd.pos, .string nd.name] 145) := ⟨_, rfl⟩
  obtain ⟨nb, hnb⟩ : ∃ nb, nb = w.heap.size := ⟨_, rfl⟩
  rw [← hw2, ← hnb] at N
  rw [← hw2, ← hnb]
  clear hw2 hnb HK
  have Bn := N.bk
  have m1 : w2.cell? ⟨nb, 1, none⟩ = some (.int .i64 nd.a) := Bn.cell (o := 1) (by omega)
  have nbl := Bn.lt
  have q := I.use he1 N.e2 N.mm N.e2.sb (Rl.refl s) rfl hf L1 (x := nd.a) (by rw [hnd]) W1
  obtain ⟨x1', x2'⟩ := duT_i W3
  rw [x1', x2'] at q
  obtain ⟨x3', x4'⟩ := duT_i W4
  have y37 : (nd.val == 37) = false := by rw [hnd, ho]; rfl
  have y38 : (nd.val == 38) = true := by rw [hnd, ho]; rfl
  have nbr : nb ≠ G.r := fun e => N.np (e ▸ N.rQ)
  have HF : Hid (True ∧ _) := ⟨trivial, And.intro N (And.intro hnd (And.intro L2 (And.intro W2 (And.intro x3' (And.intro x4' (And.intro I (And.intro he2 hf)))))))⟩
  clear N hnd W1 W2 W3 W4 W5 x1' x2' x3' x4' I L1 L2 he1 he2 hf Bn E
  go_wp2_with fail
  refine q.mono ?_
  rintro z w3 ⟨v1, rfl, h⟩
  clear q m1
  obtain ⟨_, N, hnd, L2, W2, x3, x4, I, he2, hf⟩ := HF.out
  have Bn := N.b h.fr
  have m2 : w3.cell? ⟨nb, 2, none⟩ = some (.int .i64 nd.b) := Bn.cell (o := 2) (by omega)
  have m5 : w3.cell? ⟨nb, 5, none⟩ = some (.int .i64 nd.val) := Bn.cell (o := 5) (by omega)
  have nbl := Bn.lt
  clear Bn
  rcases h with h | h
  · obtain ⟨t1, g1, M1, S1, R1, l1⟩ := h
    obtain ⟨ov, O, Hv⟩ := M1.1
    have c15 := Hv.c15
    have c17 := Hv.c17
    have rlt := Hv.rlt
    have hz := Hv.blk.frozen
    clear Hv
    by_cases hv : v1 ≠ 0
    · have yv : (v1 != 0) = true := by simpa using hv
      have q2 := b2iK (w := w3) true
      have HM : Hid (True ∧ _) := ⟨trivial, And.intro g1 (And.intro M1 (And.intro S1 (And.intro R1 (And.intro l1 hv))))⟩
      clear g1 M1 S1 R1 l1 hv N hnd L2 W2 x3 x4 I he2 hf
      go_wp2_with fail
      refine q2.mono ?_
      rintro z w4 ⟨rfl, hw4⟩
      subst w4
      clear q2
      go_wp2_with fail
      go_ret
      obtain ⟨_, N, hnd, L2, W2, x3, x4, I, he2, hf⟩ := HF.out
      obtain ⟨_, g1, M1, S1, R1, l1, hv⟩ := HM.out
      refine ⟨flagI true, rfl, N.fat ?_⟩
      simp only [bodyI]
      refine Fat.call g1 ?_
      have e1 : (if decide (v1 ≠ 0) = decide (o = 38) then goOn (flagI (decide (o = 38))) t1 else .call (.ev (b + szE x1) x2) { t1 with us := t1.us - 1 } goOn) = goOn (flagI true) t1 := by
        subst ho
        rw [if_pos (by simp [hv])]
        rfl
      rw [if_pos (by omega), e1]
      exact Fat.go M1 S1 R1 l1
    · have yv : (v1 != 0) = false := by simpa using hv
      have u0 := S1.u0
      have u48 := S1.u48
      have s0 := N.e2.sb.u0
      have hu := R1.us
      have e1 : wrap64 (t1.us - 1) = t1.us - 1 := by simp only [wrap64]; omega
      have M3 := M1.setU (t1.us - 1)
      have S3 : SB G { t1 with us := t1.us - 1 } := ⟨by show 0 ≤ t1.us - 1; omega, by show t1.us - 1 ≤ 48; omega, S1.r24, S1.mi, S1.ou, S1.f1, S1.f0, S1.ip, S1.il⟩
      have R3 : Rl 0 0 s { t1 with us := t1.us - 1 } := ⟨R1.rb, R1.ll, by show t1.us - 1 = s.us + (0 : Nat); omega, R1.rt, R1.fu⟩
      have q2 := I.use he2 N.e2 M3 S3 R3 l1 hf L2 (x := nd.b) (by rw [hnd]) W2
      rw [x3, x4] at q2
      have HM : Hid (True ∧ _) := ⟨trivial, And.intro g1 (And.intro R3 (And.intro l1 hv))⟩
      clear g1 M1 S1 R1 l1 hv N hnd L2 W2 x3 x4 I he2 hf M3 S3 R3 hu
      go_wp2_with fail
      refine q2.mono ?_
      rintro z w4 ⟨v2, rfl, h⟩
      have HM2 : Hid (True ∧ _) := ⟨trivial, h⟩
      clear q2 h
      go_wp2_with fail
      go_ret
      obtain ⟨_, N, hnd, L2, W2, x3, x4, I, he2, hf⟩ := HF.out
      obtain ⟨_, g1, R3, l1, hv⟩ := HM.out
      refine ⟨v2, rfl, N.fat ?_⟩
      simp only [bodyI]
      refine Fat.call g1 ?_
      have e1 : (if decide (v1 ≠ 0) = decide (o = 38) then goOn (flagI (decide (o = 38))) t1 else .call (.ev (b + szE x1) x2) { t1 with us := t1.us - 1 } goOn) = .call (.ev (b + szE x1) x2) { t1 with us := t1.us - 1 } goOn := by
        subst ho
        rw [if_neg (by simp [hv])]
      rw [if_pos (by omega), e1]
      rcases HM2.out.2 with ⟨t2, g2, M2, S2, R2, l2⟩ | h
      · exact Fat.call g2 (Fat.go M2 S2 (R3.trans R2) (l2.trans l1))
      · exact Fat.dead h
  · obtain ⟨en, he, c17, rlt⟩ := h.c17
    have yy : (en != 0) = true := by simpa using he
    have HD : Hid (True ∧ _) := ⟨trivial, h⟩
    clear h he N hnd L2 W2 x3 x4 I he2 hf
    go_wp2_with fail
    go_ret
    obtain ⟨_, N, hnd, L2, W2, x3, x4, I, he2, hf⟩ := HF.out
    refine ⟨0, rfl, N.fat ?_⟩
    simp only [bodyI]
    exact Fat.dead HD.out.2
end Go.Proofs.Qxb6500277aGreat
