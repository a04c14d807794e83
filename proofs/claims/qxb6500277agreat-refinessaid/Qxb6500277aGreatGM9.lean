/- The definitional interpreter: eval: births, lengths. -/
import Derived.Test.Qxb6500277aGreatGM4
namespace Go.Proofs.Qxb6500277aGreat
open Go Go.RowKit

set_option maxRecDepth 100000 in
set_option maxHeartbeats 2000000 in
theorem ev_new_r {G : Gmx} {fm : Int} {n : Nat} (I : EvC G fm n) (o p : Int) (e1 : Exp) (he : szE e1 ≤ n) {w : World} {Q : Nat → Prop} {s : Ss} {b : Nat} {nx x : Int} {li lr : Nat} {lv : Value} (E : Ev0 G w Q s lv li lr) (hf : s.fuel ≤ fm) (ho : 4 ≤ o) (L : Lie G.ns b (flE b nx (.new o p e1))) (hx : x = rtE b (.new o p e1)) (W : WtE G.P0 li lr b (.new o p e1)) : Calls Tryz.prog 79 #[.pointer (some ⟨G.r, 0, none⟩), .int .i64 x, lv, .int .i64 (s.rb : Nat)] w (EvR G w Q s (tyA G.P0 (rtN b (.new o p e1))) (bodyI G.P0 (.ev b (.new o p e1)) s)) := by
  rw [rtE_nat] at hx
  subst hx
  simp only [flE] at L
  obtain ⟨L1, hN⟩ := L.un
  clear L
  have ek : b + szE (.new o p e1) - 1 = b + szE e1 := by simp only [szE]; omega
  have hty : tyA G.P0 (rtN b (.new o p e1)) = tyA G.P0 (b + szE e1) := by unfold rtN; rw [ek]
  rw [hty, ek]
  obtain ⟨k, hk⟩ : ∃ k, k = b + szE e1 := ⟨_, rfl⟩
  obtain ⟨nd, hnd⟩ : ∃ nd : Nd, nd = ⟨15, rtE b e1, -1, -1, nx, o, p, ⟨#[]⟩⟩ := ⟨_, rfl⟩
  rw [← hk, ← hnd] at hN
  rw [← hk]
  simp only [WtE] at W
  obtain ⟨W1, W2, W3⟩ := W
  rw [← hk] at W3
  obtain ⟨y1, y2⟩ := duT_r W3
  obtain ⟨ov, O, Hv⟩ := E.H
  have c10 := Hv.c10
  have c17 := Hv.c17
  have rlt := Hv.rlt
  have hnl := Hv.an.nl
  obtain ⟨vb, evb, vlt, hkl, n0, n1, n2, n3, n4, n5, n6, n7⟩ := Hv.an.hv.at hN
  rw [evb] at c10
  have N0 := Nb.mk' E nd
  have HK : Hid (True ∧ _) := ⟨trivial, And.intro hk (And.intro hnd (And.intro hN N0))⟩
  clear hk hnd evb hN N0 Hv E ek hty
  go_enter Tryz.func79, Tryz.ntmps79
  go_upto_region 4 with fail
  obtain ⟨_, hk, hnd, hN, N⟩ := HK.out
  obtain ⟨w2, hw2⟩ : ∃ w2, w2 = w.alloc (.cells #[.int .i64 nd.kind, .int .i64 nd.a, .int .i64 nd.b, .int .i64 nd.c, .int .i64 nd.nx, .int .i64 nd.val, .int .i64 nd.pos, .string nd.name] 145) := ⟨_, rfl⟩
  obtain ⟨nb, hnb⟩ : ∃ nb, nb = w.heap.size := ⟨_, rfl⟩
  rw [← hw2, ← hnb] at N
  rw [← hw2, ← hnb]
  clear hw2 hnb c10 c17 rlt n0 n1 n2 n3 n4 n5 n6 n7 HK ov O vlt
  have d0 : nd.kind = 15 := by rw [hnd]
  have Bn := N.bk
  have m0 : w2.cell? ⟨nb, 0, none⟩ = some (.int .i64 nd.kind) := Bn.cell (o := 0) (by omega)
  have m1 : w2.cell? ⟨nb, 1, none⟩ = some (.int .i64 nd.a) := Bn.cell (o := 1) (by omega)
  have m2 : w2.cell? ⟨nb, 2, none⟩ = some (.int .i64 nd.b) := Bn.cell (o := 2) (by omega)
  have m3 : w2.cell? ⟨nb, 3, none⟩ = some (.int .i64 nd.c) := Bn.cell (o := 3) (by omega)
  have m4 : w2.cell? ⟨nb, 4, none⟩ = some (.int .i64 nd.nx) := Bn.cell (o := 4) (by omega)
  have m5 : w2.cell? ⟨nb, 5, none⟩ = some (.int .i64 nd.val) := Bn.cell (o := 5) (by omega)
  have m6 : w2.cell? ⟨nb, 6, none⟩ = some (.int .i64 nd.pos) := Bn.cell (o := 6) (by omega)
  rw [d0] at m0
  have nbl := Bn.lt
  clear d0 Bn
  have q := I.use he N.e2 N.mm N.e2.sb (Rl.refl s) rfl hf L1 (x := nd.a) (by rw [hnd]) W1
  obtain ⟨x1, x2⟩ := duT_i W2
  rw [x1, x2] at q
  have z1 : decide (nd.val ≥ 4) = true := by rw [hnd]; simpa using ho
  have z2 : decide ((4 : Int) ≤ nd.val) = true := by rw [hnd]; simpa using ho
  have HF : Hid (True ∧ _) := ⟨trivial, And.intro N (And.intro y1 (And.intro y2 (And.intro hnd (And.intro hk ho))))⟩
  clear N hnd y1 y2 W1 W2 W3 hN hk x1 x2 ho I L1 he hf
  go_wp2_with fail
  refine q.mono ?_
  rintro z w3 ⟨v1, rfl, h⟩
  clear q
  obtain ⟨_, N, y1, y2, hnd, hk, ho⟩ := HF.out
  have Bn := N.b h.fr
  have m5 : w3.cell? ⟨nb, 5, none⟩ = some (.int .i64 nd.val) := Bn.cell (o := 5) (by omega)
  have nbl := Bn.lt
  have nbr : nb ≠ G.r := fun e => N.np (e ▸ N.rQ)
  clear m0 m1 m2 m3 m4 m6 Bn N y1 y2 hnd hk ho
  rcases h with ⟨t1, g1, M1, S1, R1, l1⟩ | h
  · have u0 := S1.u0
    have u48 := S1.u48
    obtain ⟨ov, O, Hv⟩ := M1.1
    have c15 := Hv.c15
    have c16 := Hv.c16
    have c17 := Hv.c17
    have rlt := Hv.rlt
    have hz := Hv.blk.frozen
    have e1 : wrap64 (t1.us - 1) = t1.us - 1 := by simp only [wrap64]; omega
    have M3 := M1.setU (t1.us - 1)
    have q4 := M3.allocH S1.mi S1.r24 v1 0
    have HM : Hid (True ∧ _) := ⟨trivial, And.intro g1 (And.intro S1 (And.intro R1 l1))⟩
    clear g1 M1 S1 R1 l1 Hv M3
    go_wp2_with fail
    refine q4.mono ?_
    rintro z w6 ⟨rfl, M6⟩
    clear q4 c15 c16 c17 rlt hz m5 nbl
    have q5 := M6.heapEnd (allocM t1.M v1 0).1
    have HM6 : Hid (True ∧ _) := ⟨trivial, M6⟩
    clear M6
    go_wp2_with fail
    refine q5.mono ?_
    rintro z w7 ⟨rfl, h7⟩
    have HM7 : Hid (True ∧ _) := ⟨trivial, h7⟩
    clear h7 q5
    go_wp2_with fail
    go_ret
    obtain ⟨_, N, y1, y2, hnd, hk, ho⟩ := HF.out
    obtain ⟨_, g1, S1, R1, l1⟩ := HM.out
    refine ⟨0, rfl, N.fat ?_⟩
    rw [y1, y2]
    simp only [bodyI]
    refine Fat.call g1 ?_
    rw [if_pos (by omega)]
    have hA := alloc_rt t1.M v1 0
    have s0 := N.e2.sb.u0
    have hu := R1.us
    refine Fat.heap (t := t1) (u := t1.us - 1) HM6.out.2 HM7.out.2 ?_ S1.ou fun h0 => ⟨⟨?_, ?_, ?_, S1.mi.alloc _ _, S1.ou, S1.f1, S1.f0, S1.ip, S1.il⟩, ⟨R1.rb, R1.ll, ?_, ?_, R1.fu⟩, l1⟩
    · have := S1.r24
      rcases hA with ⟨_, a, b⟩ | ⟨_, a⟩
      · omega
      · rw [a]; exact this
    · show 0 ≤ t1.us - 1
      omega
    · show t1.us - 1 ≤ 48
      omega
    · show (allocM t1.M v1 0).2.rt.length ≤ 24
      rcases hA with ⟨_, a, b⟩ | ⟨a, _⟩
      · omega
      · exact absurd h0 a
    · show t1.us - 1 = s.us + (0 : Nat)
      omega
    · show (allocM t1.M v1 0).2.rt.length = s.M.rt.length + 1
      rcases hA with ⟨_, a, b⟩ | ⟨a, _⟩
      · rw [a, R1.rt]
      · exact absurd h0 a
  · obtain ⟨en, he, c17, rlt⟩ := h.c17
    have yy : (en != 0) = true := by simpa using he
    have HD : Hid (True ∧ _) := ⟨trivial, h⟩
    clear h he
    go_wp2_with fail
    go_ret
    obtain ⟨_, N, y1, y2, hnd, hk, X⟩ := HF.out
    refine ⟨0, rfl, N.fat ?_⟩
    simp only [bodyI]
    exact Fat.dead HD.out.2
set_option maxRecDepth 100000 in
set_option maxHeartbeats 2000000 in
theorem ev_new_i {G : Gmx} {fm : Int} {n : Nat} (I : EvC G fm n) (o p : Int) (e1 : Exp) (he : szE e1 ≤ n) {w : World} {Q : Nat → Prop} {s : Ss} {b : Nat} {nx x : Int} {li lr : Nat} {lv : Value} (E : Ev0 G w Q s lv li lr) (hf : s.fuel ≤ fm) (ho : ¬ 4 ≤ o) (L : Lie G.ns b (flE b nx (.new o p e1))) (hx : x = rtE b (.new o p e1)) (W : WtE G.P0 li lr b (.new o p e1)) : Calls Tryz.prog 79 #[.pointer (some ⟨G.r, 0, none⟩), .int .i64 x, lv, .int .i64 (s.rb : Nat)] w (EvR G w Q s (tyA G.P0 (rtN b (.new o p e1))) (bodyI G.P0 (.ev b (.new o p e1)) s)) := by
  rw [rtE_nat] at hx
  subst hx
  simp only [flE] at L
  obtain ⟨L1, hN⟩ := L.un
  clear L
  have ek : b + szE (.new o p e1) - 1 = b + szE e1 := by simp only [szE]; omega
  have hty : tyA G.P0 (rtN b (.new o p e1)) = tyA G.P0 (b + szE e1) := by unfold rtN; rw [ek]
  rw [hty, ek]
  obtain ⟨k, hk⟩ : ∃ k, k = b + szE e1 := ⟨_, rfl⟩
  obtain ⟨nd, hnd⟩ : ∃ nd : Nd, nd = ⟨15, rtE b e1, -1, -1, nx, o, p, ⟨#[]⟩⟩ := ⟨_, rfl⟩
  rw [← hk, ← hnd] at hN
  rw [← hk]
  simp only [WtE] at W
  obtain ⟨W1, W2, W3⟩ := W
  rw [← hk] at W3
  obtain ⟨y1, y2⟩ := duT_r W3
  obtain ⟨ov, O, Hv⟩ := E.H
  have c10 := Hv.c10
  have c17 := Hv.c17
  have rlt := Hv.rlt
  have hnl := Hv.an.nl
  obtain ⟨vb, evb, vlt, hkl, n0, n1, n2, n3, n4, n5, n6, n7⟩ := Hv.an.hv.at hN
  rw [evb] at c10
  have N0 := Nb.mk' E nd
  have HK : Hid (True ∧ _) := ⟨trivial, And.intro hk (And.intro hnd (And.intro hN N0))⟩
  clear hk hnd evb hN N0 Hv E ek hty
  go_enter Tryz.func79, Tryz.ntmps79
  go_upto_region 4 with fail
  obtain ⟨_, hk, hnd, hN, N⟩ := HK.out
  obtain ⟨w2, hw2⟩ : ∃ w2, w2 = w.alloc (.cells #[.int .i64 nd.kind, .int .i64 nd.a, .int .i64 nd.b, .int .i64 nd.c, .int .i64 nd.nx, .int .i64 nd.val, .int .i64 nd.pos, .string nd.name] 145) := ⟨_, rfl⟩
  obtain ⟨nb, hnb⟩ : ∃ nb, nb = w.heap.size := ⟨_, rfl⟩
  rw [← hw2, ← hnb] at N
  rw [← hw2, ← hnb]
  clear hw2 hnb c10 c17 rlt n0 n1 n2 n3 n4 n5 n6 n7 HK ov O vlt
  have d0 : nd.kind = 15 := by rw [hnd]
  have Bn := N.bk
  have m0 : w2.cell? ⟨nb, 0, none⟩ = some (.int .i64 nd.kind) := Bn.cell (o := 0) (by omega)
  have m1 : w2.cell? ⟨nb, 1, none⟩ = some (.int .i64 nd.a) := Bn.cell (o := 1) (by omega)
  have m2 : w2.cell? ⟨nb, 2, none⟩ = some (.int .i64 nd.b) := Bn.cell (o := 2) (by omega)
  have m3 : w2.cell? ⟨nb, 3, none⟩ = some (.int .i64 nd.c) := Bn.cell (o := 3) (by omega)
  have m4 : w2.cell? ⟨nb, 4, none⟩ = some (.int .i64 nd.nx) := Bn.cell (o := 4) (by omega)
  have m5 : w2.cell? ⟨nb, 5, none⟩ = some (.int .i64 nd.val) := Bn.cell (o := 5) (by omega)
  have m6 : w2.cell? ⟨nb, 6, none⟩ = some (.int .i64 nd.pos) := Bn.cell (o := 6) (by omega)
  rw [d0] at m0
  have nbl := Bn.lt
  clear d0 Bn
  have q := I.use he N.e2 N.mm N.e2.sb (Rl.refl s) rfl hf L1 (x := nd.a) (by rw [hnd]) W1
  obtain ⟨x1, x2⟩ := duT_i W2
  rw [x1, x2] at q
  have z1 : decide (nd.val ≥ 4) = false := by rw [hnd]; simpa using ho
  have z2 : decide ((4 : Int) ≤ nd.val) = false := by rw [hnd]; simpa using ho
  have HF : Hid (True ∧ _) := ⟨trivial, And.intro N (And.intro y1 (And.intro y2 (And.intro hnd (And.intro hk ho))))⟩
  clear N hnd y1 y2 W1 W2 W3 hN hk x1 x2 ho I L1 he hf
  go_wp2_with fail
  refine q.mono ?_
  rintro z w3 ⟨v1, rfl, h⟩
  clear q
  obtain ⟨_, N, y1, y2, hnd, hk, ho⟩ := HF.out
  have Bn := N.b h.fr
  have m5 : w3.cell? ⟨nb, 5, none⟩ = some (.int .i64 nd.val) := Bn.cell (o := 5) (by omega)
  have nbl := Bn.lt
  have nbr : nb ≠ G.r := fun e => N.np (e ▸ N.rQ)
  clear m0 m1 m2 m3 m4 m6 Bn N y1 y2 hnd hk ho
  rcases h with ⟨t1, g1, M1, S1, R1, l1⟩ | h
  · have u0 := S1.u0
    have u48 := S1.u48
    obtain ⟨ov, O, Hv⟩ := M1.1
    have c15 := Hv.c15
    have c16 := Hv.c16
    have c17 := Hv.c17
    have rlt := Hv.rlt
    have hz := Hv.blk.frozen
    have e1 : wrap64 (t1.us - 1) = t1.us - 1 := by simp only [wrap64]; omega
    have M3 := M1.setU (t1.us - 1)
    have q4 := M3.allocH S1.mi S1.r24 0 v1
    have HM : Hid (True ∧ _) := ⟨trivial, And.intro g1 (And.intro S1 (And.intro R1 l1))⟩
    clear g1 M1 S1 R1 l1 Hv M3
    go_wp2_with fail
    refine q4.mono ?_
    rintro z w6 ⟨rfl, M6⟩
    clear q4 c15 c16 c17 rlt hz m5 nbl
    have q5 := M6.heapEnd (allocM t1.M 0 v1).1
    have HM6 : Hid (True ∧ _) := ⟨trivial, M6⟩
    clear M6
    go_wp2_with fail
    refine q5.mono ?_
    rintro z w7 ⟨rfl, h7⟩
    have HM7 : Hid (True ∧ _) := ⟨trivial, h7⟩
    clear h7 q5
    go_wp2_with fail
    go_ret
    obtain ⟨_, N, y1, y2, hnd, hk, ho⟩ := HF.out
    obtain ⟨_, g1, S1, R1, l1⟩ := HM.out
    refine ⟨0, rfl, N.fat ?_⟩
    rw [y1, y2]
    simp only [bodyI]
    refine Fat.call g1 ?_
    rw [if_neg (by omega)]
    have hA := alloc_rt t1.M 0 v1
    have s0 := N.e2.sb.u0
    have hu := R1.us
    refine Fat.heap (t := t1) (u := t1.us - 1) HM6.out.2 HM7.out.2 ?_ S1.ou fun h0 => ⟨⟨?_, ?_, ?_, S1.mi.alloc _ _, S1.ou, S1.f1, S1.f0, S1.ip, S1.il⟩, ⟨R1.rb, R1.ll, ?_, ?_, R1.fu⟩, l1⟩
    · have := S1.r24
      rcases hA with ⟨_, a, b⟩ | ⟨_, a⟩
      · omega
      · rw [a]; exact this
    · show 0 ≤ t1.us - 1
      omega
    · show t1.us - 1 ≤ 48
      omega
    · show (allocM t1.M 0 v1).2.rt.length ≤ 24
      rcases hA with ⟨_, a, b⟩ | ⟨a, _⟩
      · omega
      · exact absurd h0 a
    · show t1.us - 1 = s.us + (0 : Nat)
      omega
    · show (allocM t1.M 0 v1).2.rt.length = s.M.rt.length + 1
      rcases hA with ⟨_, a, b⟩ | ⟨a, _⟩
      · rw [a, R1.rt]
      · exact absurd h0 a
  · obtain ⟨en, he, c17, rlt⟩ := h.c17
    have yy : (en != 0) = true := by simpa using he
    have HD : Hid (True ∧ _) := ⟨trivial, h⟩
    clear h he
    go_wp2_with fail
    go_ret
    obtain ⟨_, N, y1, y2, hnd, hk, X⟩ := HF.out
    refine ⟨0, rfl, N.fat ?_⟩
    simp only [bodyI]
    exact Fat.dead HD.out.2
set_option maxRecDepth 100000 in
set_option maxHeartbeats 2000000 in
theorem ev_len {G : Gmx} {fm : Int} {n : Nat} (I : EvC G fm n) (p : Int) (e1 : Exp) (he : szE e1 ≤ n) {w : World} {Q : Nat → Prop} {s : Ss} {b : Nat} {nx x : Int} {li lr : Nat} {lv : Value} (E : Ev0 G w Q s lv li lr) (hf : s.fuel ≤ fm) (L : Lie G.ns b (flE b nx (.len p e1))) (hx : x = rtE b (.len p e1)) (W : WtE G.P0 li lr b (.len p e1)) : Calls Tryz.prog 79 #[.pointer (some ⟨G.r, 0, none⟩), .int .i64 x, lv, .int .i64 (s.rb : Nat)] w (EvR G w Q s (tyA G.P0 (rtN b (.len p e1))) (bodyI G.P0 (.ev b (.len p e1)) s)) := by
  rw [rtE_nat] at hx
  subst hx
  simp only [flE] at L
  obtain ⟨L1, hN⟩ := L.un
  clear L
  have ek : b + szE (.len p e1) - 1 = b + szE e1 := by simp only [szE]; omega
  have hty : tyA G.P0 (rtN b (.len p e1)) = tyA G.P0 (b + szE e1) := by unfold rtN; rw [ek]
  rw [hty, ek]
  obtain ⟨k, hk⟩ : ∃ k, k = b + szE e1 := ⟨_, rfl⟩
  obtain ⟨nd, hnd⟩ : ∃ nd : Nd, nd = ⟨16, rtE b e1, -1, -1, nx, 0, p, ⟨#[]⟩⟩ := ⟨_, rfl⟩
  rw [← hk, ← hnd] at hN
  rw [← hk]
  simp only [WtE] at W
  obtain ⟨W1, W2, W3⟩ := W
  rw [← hk] at W3
  obtain ⟨y1, y2⟩ := duT_i W3
  obtain ⟨ov, O, Hv⟩ := E.H
  have c10 := Hv.c10
  have c17 := Hv.c17
  have rlt := Hv.rlt
  have hnl := Hv.an.nl
  obtain ⟨vb, evb, vlt, hkl, n0, n1, n2, n3, n4, n5, n6, n7⟩ := Hv.an.hv.at hN
  rw [evb] at c10
  have N0 := Nb.mk' E nd
  have HK : Hid (True ∧ _) := ⟨trivial, And.intro hk (And.intro hnd (And.intro hN N0))⟩
  clear hk hnd evb hN N0 Hv E ek hty
  go_enter Tryz.func79, Tryz.ntmps79
  go_upto_region 4 with fail
  obtain ⟨_, hk, hnd, hN, N⟩ := HK.out
  obtain ⟨w2, hw2⟩ : ∃ w2, w2 = w.alloc (.cells #[.int .i64 nd.kind, .int .i64 nd.a, .int .i64 nd.b, .int .i64 nd.c, .int .i64 nd.nx, .int .i64 nd.val, .int .i64 nd.pos, .string nd.name] 145) := ⟨_, rfl⟩
  obtain ⟨nb, hnb⟩ : ∃ nb, nb = w.heap.size := ⟨_, rfl⟩
  rw [← hw2, ← hnb] at N
  rw [← hw2, ← hnb]
  clear hw2 hnb c10 c17 rlt n0 n1 n2 n3 n4 n5 n6 n7 HK ov O vlt
  have d0 : nd.kind = 16 := by rw [hnd]
  have Bn := N.bk
  have m0 : w2.cell? ⟨nb, 0, none⟩ = some (.int .i64 nd.kind) := Bn.cell (o := 0) (by omega)
  have m1 : w2.cell? ⟨nb, 1, none⟩ = some (.int .i64 nd.a) := Bn.cell (o := 1) (by omega)
  have m2 : w2.cell? ⟨nb, 2, none⟩ = some (.int .i64 nd.b) := Bn.cell (o := 2) (by omega)
  have m3 : w2.cell? ⟨nb, 3, none⟩ = some (.int .i64 nd.c) := Bn.cell (o := 3) (by omega)
  have m4 : w2.cell? ⟨nb, 4, none⟩ = some (.int .i64 nd.nx) := Bn.cell (o := 4) (by omega)
  have m5 : w2.cell? ⟨nb, 5, none⟩ = some (.int .i64 nd.val) := Bn.cell (o := 5) (by omega)
  have m6 : w2.cell? ⟨nb, 6, none⟩ = some (.int .i64 nd.pos) := Bn.cell (o := 6) (by omega)
  rw [d0] at m0
  have nbl := Bn.lt
  clear d0 Bn
  have q := I.use he N.e2 N.mm N.e2.sb (Rl.refl s) rfl hf L1 (x := nd.a) (by rw [hnd]) W1
  obtain ⟨x1, x2⟩ := duT_r W2
  rw [x1, x2] at q
  have HF : Hid (True ∧ _) := ⟨trivial, And.intro N (And.intro y1 (And.intro y2 (And.intro hnd (And.intro hk trivial))))⟩
  clear N hnd y1 y2 W1 W2 W3 hN hk x1 x2 I L1 he hf
  go_wp2_with fail
  refine q.mono ?_
  rintro z w3 ⟨v1, rfl, h⟩
  clear q m0 m1 m2 m3 m4 m5 m6 nbl
  rcases h with ⟨t1, g1, M1, S1, R1, l1⟩ | h
  · have r24 := S1.r24
    obtain ⟨ov, O, Hv⟩ := M1.1
    have c16 := Hv.c16
    have c17 := Hv.c17
    have rlt := Hv.rlt
    have e2 : wrap64 (((t1.M.rt.length : Nat) : Int) - 1) = ((t1.M.rt.length : Nat) : Int) - 1 := by simp only [wrap64]; omega
    have q3 := M1.depthH
    have q4 := M1.lenH S1.mi S1.r24 (((t1.M.rt.length : Nat) : Int) - 1)
    have hl4 := len_le S1.mi (((t1.M.rt.length : Nat) : Int) - 1)
    have HM : Hid (True ∧ _) := ⟨trivial, And.intro g1 (And.intro S1 (And.intro R1 l1))⟩
    clear g1 M1 S1 R1 l1 Hv
    go_wp2_with fail
    refine q3.mono ?_
    rintro z w5 ⟨rfl, hw5⟩
    subst w5
    clear q3
    go_wp2_with fail
    refine q4.mono ?_
    rintro z w6 ⟨rfl, M6⟩
    clear q4 c16 c17 rlt
    have q5 := M6.heapEnd (lenM t1.M (((t1.M.rt.length : Nat) : Int) - 1)).2.2
    have HM6 : Hid (True ∧ _) := ⟨trivial, M6⟩
    clear M6
    go_wp2_with fail
    refine q5.mono ?_
    rintro z w7 ⟨rfl, ⟨h0, hw7⟩ | ⟨h0, M7⟩⟩
    · subst w7
      obtain ⟨_, M6⟩ := HM6.out
      obtain ⟨_, g1, S1, R1, l1⟩ := HM.out
      have q6 := M6.popH S1.r24 1
      have yy : ((lenM t1.M (((t1.M.rt.length : Nat) : Int) - 1)).2.2 != 0) = false := by simpa using h0
      obtain ⟨ov6, O6, Hv6⟩ := M6.1
      have c16 := Hv6.c16
      have rlt := Hv6.rlt
      have H0 : Hid (True ∧ _) := ⟨trivial, h0⟩
      have e3 : wrap64 ((lenM t1.M (((t1.M.rt.length : Nat) : Int) - 1)).1 + (lenM t1.M (((t1.M.rt.length : Nat) : Int) - 1)).2.1) = (lenM t1.M (((t1.M.rt.length : Nat) : Int) - 1)).1 + (lenM t1.M (((t1.M.rt.length : Nat) : Int) - 1)).2.1 := by simp only [wrap64]; omega
      clear q5 h0 g1 S1 R1 l1 M6 Hv6
      go_wp2_with fail
      refine q6.mono ?_
      rintro z w8 ⟨rfl, M8⟩
      clear q6 c16 rlt
      obtain ⟨_, g1, S1, R1, l1⟩ := HM.out
      have q7 := M8.push S1.u0 S1.u48
      clear g1 S1 R1 l1 M8
      go_wp2_with fail
      refine q7.mono ?_
      rintro z w9 ⟨rfl, h9⟩
      have HM9 : Hid (True ∧ _) := ⟨trivial, h9⟩
      clear h9 q7
      go_wp2_with fail
      go_ret
      obtain ⟨_, N, y1, y2, hnd, hk, _⟩ := HF.out
      obtain ⟨_, g1, S1, R1, l1⟩ := HM.out
      refine ⟨(lenM t1.M (((t1.M.rt.length : Nat) : Int) - 1)).1 + (lenM t1.M (((t1.M.rt.length : Nat) : Int) - 1)).2.1, rfl, N.fat ?_⟩
      rw [y1, y2]
      simp only [bodyI]
      refine Fat.call g1 ?_
      have ed : dtop t1.M 1 = ((t1.M.rt.length : Nat) : Int) - 1 := rfl
      rw [ed]
      unfold hpI
      rw [if_pos H0.out.2]
      have hrt : 1 ≤ t1.M.rt.length := by rw [R1.rt]; omega
      have hp := (pop_ok (M := t1.M) (n := 1) (by omega) (by omega)).2
      refine Fat.push (t := { t1 with M := (popM t1.M 1).2 }) (du' := 0) (dr := 0) HM9.out.2 ⟨S1.u0, S1.u48, ?_, S1.mi.pop _, S1.ou, S1.f1, S1.f0, S1.ip, S1.il⟩ ⟨R1.rb, R1.ll, R1.us, ?_, R1.fu⟩ l1 rfl
      · show (popM t1.M 1).2.rt.length ≤ 24
        omega
      · show (popM t1.M 1).2.rt.length = s.M.rt.length + 0
        have := R1.rt
        rw [hp]
        omega
    · have yy : ((lenM t1.M (((t1.M.rt.length : Nat) : Int) - 1)).2.2 != 0) = true := by simpa using h0
      have H0 : Hid (True ∧ _) := ⟨trivial, And.intro h0 M7⟩
      clear q5 h0 M7
      go_wp2_with fail
      go_ret
      obtain ⟨_, N, y1, y2, hnd, hk, _⟩ := HF.out
      obtain ⟨_, g1, S1, R1, l1⟩ := HM.out
      refine ⟨0, rfl, N.fat ?_⟩
      simp only [bodyI]
      refine Fat.call g1 ?_
      have ed : dtop t1.M 1 = ((t1.M.rt.length : Nat) : Int) - 1 := rfl
      rw [ed]
      unfold hpI
      rw [if_neg H0.out.2.1]
      exact Fat.die (endOf_no _) H0.out.2.2 rfl rfl S1.r24 S1.ou
  · obtain ⟨en, he, c17, rlt⟩ := h.c17
    have yy : (en != 0) = true := by simpa using he
    have HD : Hid (True ∧ _) := ⟨trivial, h⟩
    clear h he
    go_wp2_with fail
    go_ret
    obtain ⟨_, N, y1, y2, hnd, hk, X⟩ := HF.out
    refine ⟨0, rfl, N.fat ?_⟩
    simp only [bodyI]
    exact Fat.dead HD.out.2
end Go.Proofs.Qxb6500277aGreat
