/- The definitional interpreter: eval: an element. -/
import Derived.Test.Qxb6500277aGreatGM4
namespace Go.Proofs.Qxb6500277aGreat
open Go Go.RowKit

set_option maxRecDepth 100000 in
set_option maxHeartbeats 2000000 in
theorem ev_idx_r {G : Gmx} (K : G.Ok) {fm : Int} {n : Nat} (I : EvC G fm n) (p : Int) (x1 x2 : Exp) (he1 : szE x1 ≤ n) (he2 : szE x2 ≤ n) {w : World} {Q : Nat → Prop} {s : Ss} {b : Nat} {nx x : Int} {li lr : Nat} {lv : Value} (E : Ev0 G w Q s lv li lr) (hf : s.fuel ≤ fm) (ht : 2 ≤ tyA G.P0 (b + szE x1 + szE x2)) (L : Lie G.ns b (flE b nx (.idx p x1 x2))) (hx : x = rtE b (.idx p x1 x2)) (W : WtE G.P0 li lr b (.idx p x1 x2)) : Calls Tryz.prog 79 #[.pointer (some ⟨G.r, 0, none⟩), .int .i64 x, lv, .int .i64 (s.rb : Nat)] w (EvR G w Q s (tyA G.P0 (rtN b (.idx p x1 x2))) (bodyI G.P0 (.ev b (.idx p x1 x2)) s)) := by
  rw [rtE_nat] at hx
  subst hx
  simp only [flE] at L
  obtain ⟨L1, L2, hN⟩ := L.two
  clear L
  have ek : b + szE (.idx p x1 x2) - 1 = b + szE x1 + szE x2 := by simp only [szE]; omega
  have hty : tyA G.P0 (rtN b (.idx p x1 x2)) = tyA G.P0 (b + szE x1 + szE x2) := by unfold rtN; rw [ek]
  rw [hty, ek]
  obtain ⟨k, hk⟩ : ∃ k, k = b + szE x1 + szE x2 := ⟨_, rfl⟩
  obtain ⟨nd, hnd⟩ : ∃ nd : Nd, nd = ⟨14, rtE b x1, rtE (b + szE x1) x2, -1, nx, 0, p, ⟨#[]⟩⟩ := ⟨_, rfl⟩
  rw [← hk, ← hnd] at hN
  rw [← hk]
  simp only [WtE] at W
  obtain ⟨W1, W2, W3, W4⟩ := W
  rw [← hk] at ht
  obtain ⟨y1, y2⟩ := duT_r ht
  obtain ⟨ov, O, Hv⟩ := E.H
  have c10 := Hv.c10
  have c17 := Hv.c17
  have rlt := Hv.rlt
  have hnl := Hv.an.nl
  obtain ⟨vb, evb, vlt, hkl, n0, n1, n2, n3, n4, n5, n6, n7⟩ := Hv.an.hv.at hN
  rw [evb] at c10
  have N0 := Nb.mk' E nd
  have HK : Hid (True ∧ _) := ⟨trivial, And.intro hk (And.intro hnd (And.intro hN N0))⟩
  clear hk hnd evb hN N0 Hv E ek hty
  go_enter Tryz.func79, Tryz.ntmps79
  go_upto_region 4 with fail
  obtain ⟨_, hk, hnd, hN, N⟩ := HK.out
  obtain ⟨w2, hw2⟩ : ∃ w2, w2 = w.alloc (.cells #[.int .i64 nd.kind, .int .i64 nd.a, .int .i64 nd.b, .int .i64 nd.c, .int .i64 nd.nx, .int .i64 nd.val, .int .i64 nd.pos, .string nd.name] 145) := ⟨_, rfl⟩
  obtain ⟨nb, hnb⟩ : ∃ nb, nb = w.heap.size := ⟨_, rfl⟩
  rw [← hw2, ← hnb] at N
  rw [← hw2, ← hnb]
  clear hw2 hnb c10 c17 rlt n0 n1 n2 n3 n4 n5 n6 n7 HK ov O vlt
  have d0 : nd.kind = 14 := by rw [hnd]
  have Bn := N.bk
  have m0 : w2.cell? ⟨nb, 0, none⟩ = some (.int .i64 nd.kind) := Bn.cell (o := 0) (by omega)
  have m1 : w2.cell? ⟨nb, 1, none⟩ = some (.int .i64 nd.a) := Bn.cell (o := 1) (by omega)
  have m2 : w2.cell? ⟨nb, 2, none⟩ = some (.int .i64 nd.b) := Bn.cell (o := 2) (by omega)
  have m3 : w2.cell? ⟨nb, 3, none⟩ = some (.int .i64 nd.c) := Bn.cell (o := 3) (by omega)
  have m4 : w2.cell? ⟨nb, 4, none⟩ = some (.int .i64 nd.nx) := Bn.cell (o := 4) (by omega)
  have m5 : w2.cell? ⟨nb, 5, none⟩ = some (.int .i64 nd.val) := Bn.cell (o := 5) (by omega)
  have m6 : w2.cell? ⟨nb, 6, none⟩ = some (.int .i64 nd.pos) := Bn.cell (o := 6) (by omega)
  rw [d0] at m0
  have nbl := Bn.lt
  clear d0 Bn
  have q := I.use he1 N.e2 N.mm N.e2.sb (Rl.refl s) rfl hf L1 (x := nd.a) (by rw [hnd]) W1
  obtain ⟨x1', x2'⟩ := duT_r W3
  rw [x1', x2'] at q
  obtain ⟨x3', x4'⟩ := duT_i W4
  have HF : Hid (True ∧ _) := ⟨trivial, And.intro N (And.intro y1 (And.intro y2 (And.intro hnd (And.intro L2 (And.intro W2 (And.intro x3' (And.intro x4' (And.intro I (And.intro he2 (And.intro hf (And.intro hk K)))))))))))⟩
  clear N hnd y1 y2 W1 W2 W3 W4 hN x1' x2' x3' x4' I L1 L2 he1 he2 hf hk K
  go_wp2_with fail
  refine q.mono ?_
  rintro z w3 ⟨v1, rfl, h⟩
  clear q
  obtain ⟨_, N, y1, y2, hnd, L2, W2, x3, x4, I, he2, hf, hk, K⟩ := HF.out
  have Bn := N.b h.fr
  have m2 : w3.cell? ⟨nb, 2, none⟩ = some (.int .i64 nd.b) := Bn.cell (o := 2) (by omega)
  have nbl := Bn.lt
  clear m0 m1 m3 m4 m5 m6 Bn
  rcases h with ⟨t1, g1, M1, S1, R1, l1⟩ | h
  · have q := I.use he2 N.e2 M1 S1 R1 l1 hf L2 (x := nd.b) (by rw [hnd]) W2
    rw [x3, x4] at q
    have HM : Hid (True ∧ _) := ⟨trivial, And.intro g1 (And.intro M1 (And.intro S1 (And.intro R1 l1)))⟩
    clear N y1 y2 hnd L2 W2 x3 x4 I he2 hf hk K g1 M1 S1 R1 l1
    go_wp2_with fail
    refine q.mono ?_
    rintro z w4 ⟨v2, rfl, h⟩
    clear q m2 nbl
    rcases h with ⟨t2, g2, M2, S2, R2, l2⟩ | h
    · obtain ⟨_, N, y1, y2, hnd, L2, W2, x3, x4, I, he2, hf, hk, K⟩ := HF.out
      have hip1 := S2.u0
      have hip2 := S2.u48
      have hr24 := S2.r24
      obtain ⟨ov, O, Hv⟩ := M2.1
      have c15 := Hv.c15
      have c16 := Hv.c16
      have c17 := Hv.c17
      have rlt := Hv.rlt
      have hz := Hv.blk.frozen
      obtain ⟨tb, etb, tlt, tc⟩ := Hv.an.ht.at (i := k) (by rw [K.tl]; exact hkl)
      have c4 := Hv.c4
      rw [etb, K.tl] at c4
      have ety : G.P0.ty.getD k (-1) = tyA G.P0 k := rfl
      rw [ety] at tc
      have htbr : tb ≠ G.r := fun e => (Hv.sb tb (.inl (.inr (.inl ⟨_, _, etb⟩)))).1 (e ▸ Hv.qr)
      have e1 : wrap64 (t2.us - 1) = t2.us - 1 := by simp only [wrap64]; omega
      have M3 := M2.setU (t2.us - 1)
      have e2 : wrap64 (((t2.M.rt.length : Nat) : Int) - 1) = ((t2.M.rt.length : Nat) : Int) - 1 := by simp only [wrap64]; omega
      have q3 := M3.depthH
      have q4 := M3.ldRefH S2.mi S2.r24 (((t2.M.rt.length : Nat) : Int) - 1) v2 (((t2.M.rt.length : Nat) : Int) - 1)
      have z1 : decide (tyA G.P0 k ≥ 2) = true := decide_eq_true (by omega)
      have z2 : decide ((2 : Int) ≤ tyA G.P0 k) = true := decide_eq_true (by omega)
      have HM2 : Hid (True ∧ _) := ⟨trivial, And.intro g2 (And.intro M3 (And.intro S2 (And.intro R2 l2)))⟩
      clear N y1 y2 hnd L2 W2 x3 x4 I he2 hf hk K g2 M2 S2 R2 l2 Hv etb ety M3
      go_wp2_with fail
      refine q3.mono ?_
      rintro z w5 ⟨rfl, hw5⟩
      subst w5
      clear q3
      go_wp2_with fail
      refine q4.mono ?_
      rintro z w6 ⟨rfl, M6⟩
      clear q4 c15 c16 c17 rlt hz c4 tc htbr e1
      have q5 := M6.heapEnd (ldRefM t2.M (((t2.M.rt.length : Nat) : Int) - 1) v2 (((t2.M.rt.length : Nat) : Int) - 1)).1
      have HM6 : Hid (True ∧ _) := ⟨trivial, M6⟩
      clear M6
      go_wp2_with fail
      refine q5.mono ?_
      rintro z w7 ⟨rfl, h7⟩
      have HM7 : Hid (True ∧ _) := ⟨trivial, h7⟩
      clear h7 q5 e2
      go_wp2_with fail
      go_ret
      obtain ⟨_, N, y1, y2, hnd, L2, W2, x3, x4, I, he2, hf, hk, K⟩ := HF.out
      obtain ⟨_, g1, M1, S1, R1, l1⟩ := HM.out
      obtain ⟨_, g2, M3, S2, R2, l2⟩ := HM2.out
      refine ⟨0, rfl, N.fat ?_⟩
      rw [y1, y2]
      simp only [bodyI]
      refine Fat.call g1 (Fat.call g2 ?_)
      rw [← hk, if_pos (by omega)]
      have ed : dtop t2.M 1 = ((t2.M.rt.length : Nat) : Int) - 1 := rfl
      rw [ed]
      have RR := R1.trans R2
      exact Fat.hp0 (t := t2) (u := t2.us - 1) HM6.out.2 HM7.out.2 (ldRef_rt _ _ _ _) S2 (S2.mi.ldRef _ _ _) RR (l2.trans l1) rfl rfl N.e2.sb.u0
    · obtain ⟨en, he, c17, rlt⟩ := h.c17
      have yy : (en != 0) = true := by simpa using he
      have HD : Hid (True ∧ _) := ⟨trivial, h⟩
      clear h he
      go_wp2_with fail
      go_ret
      obtain ⟨_, N, y1, y2, hnd, L2, W2, x3, x4, I, he2, hf, hk, K⟩ := HF.out
      obtain ⟨_, g1, M1, S1, R1, l1⟩ := HM.out
      refine ⟨0, rfl, N.fat ?_⟩
      simp only [bodyI]
      exact Fat.call g1 (Fat.dead HD.out.2)
  · obtain ⟨en, he, c17, rlt⟩ := h.c17
    have q2 := eval_dead (G := G) (x := .int .i64 nd.b) (lv := lv) (rb := .int .i64 (s.rb : Nat)) he c17
    have yy : (en != 0) = true := by simpa using he
    have HD : Hid (True ∧ _) := ⟨trivial, h⟩
    clear h he N y1 y2 hnd L2 W2 x3 x4 I he2 hf hk K
    go_wp2_with fail
    refine q2.mono ?_
    rintro z w4 ⟨rfl, hw4⟩
    subst w4
    clear q2
    go_wp2_with fail
    go_ret
    obtain ⟨_, N, y1, y2, hnd, L2, W2, x3, x4, I, he2, hf, hk, K⟩ := HF.out
    refine ⟨0, rfl, N.fat ?_⟩
    simp only [bodyI]
    exact Fat.dead HD.out.2
set_option maxRecDepth 100000 in
set_option maxHeartbeats 2000000 in
theorem ev_idx_i {G : Gmx} (K : G.Ok) {fm : Int} {n : Nat} (I : EvC G fm n) (p : Int) (x1 x2 : Exp) (he1 : szE x1 ≤ n) (he2 : szE x2 ≤ n) {w : World} {Q : Nat → Prop} {s : Ss} {b : Nat} {nx x : Int} {li lr : Nat} {lv : Value} (E : Ev0 G w Q s lv li lr) (hf : s.fuel ≤ fm) (ht : tyA G.P0 (b + szE x1 + szE x2) < 2) (L : Lie G.ns b (flE b nx (.idx p x1 x2))) (hx : x = rtE b (.idx p x1 x2)) (W : WtE G.P0 li lr b (.idx p x1 x2)) : Calls Tryz.prog 79 #[.pointer (some ⟨G.r, 0, none⟩), .int .i64 x, lv, .int .i64 (s.rb : Nat)] w (EvR G w Q s (tyA G.P0 (rtN b (.idx p x1 x2))) (bodyI G.P0 (.ev b (.idx p x1 x2)) s)) := by
  rw [rtE_nat] at hx
  subst hx
  simp only [flE] at L
  obtain ⟨L1, L2, hN⟩ := L.two
  clear L
  have ek : b + szE (.idx p x1 x2) - 1 = b + szE x1 + szE x2 := by simp only [szE]; omega
  have hty : tyA G.P0 (rtN b (.idx p x1 x2)) = tyA G.P0 (b + szE x1 + szE x2) := by unfold rtN; rw [ek]
  rw [hty, ek]
  obtain ⟨k, hk⟩ : ∃ k, k = b + szE x1 + szE x2 := ⟨_, rfl⟩
  obtain ⟨nd, hnd⟩ : ∃ nd : Nd, nd = ⟨14, rtE b x1, rtE (b + szE x1) x2, -1, nx, 0, p, ⟨#[]⟩⟩ := ⟨_, rfl⟩
  rw [← hk, ← hnd] at hN
  rw [← hk]
  simp only [WtE] at W
  obtain ⟨W1, W2, W3, W4⟩ := W
  rw [← hk] at ht
  obtain ⟨y1, y2⟩ := duT_i ht
  obtain ⟨ov, O, Hv⟩ := E.H
  have c10 := Hv.c10
  have c17 := Hv.c17
  have rlt := Hv.rlt
  have hnl := Hv.an.nl
  obtain ⟨vb, evb, vlt, hkl, n0, n1, n2, n3, n4, n5, n6, n7⟩ := Hv.an.hv.at hN
  rw [evb] at c10
  have N0 := Nb.mk' E nd
  have HK : Hid (True ∧ _) := ⟨trivial, And.intro hk (And.intro hnd (And.intro hN N0))⟩
  clear hk hnd evb hN N0 Hv E ek hty
  go_enter Tryz.func79, Tryz.ntmps79
  go_upto_region 4 with fail
  obtain ⟨_, hk, hnd, hN, N⟩ := HK.out
  obtain ⟨w2, hw2⟩ : ∃ w2, w2 = w.alloc (.cells #[.int .i64 nd.kind, .int .i64 nd.a, .int .i64 nd.b, .int .i64 nd.c, .int .i64 nd.nx, .int .i64 nd.val, .int .i64 nd.pos, .string nd.name] 145) := ⟨_, rfl⟩
  obtain ⟨nb, hnb⟩ : ∃ nb, nb = w.heap.size := ⟨_, rfl⟩
  rw [← hw2, ← hnb] at N
  rw [← hw2, ← hnb]
  clear hw2 hnb c10 c17 rlt n0 n1 n2 n3 n4 n5 n6 n7 HK ov O vlt
  have d0 : nd.kind = 14 := by rw [hnd]
  have Bn := N.bk
  have m0 : w2.cell? ⟨nb, 0, none⟩ = some (.int .i64 nd.kind) := Bn.cell (o := 0) (by omega)
  have m1 : w2.cell? ⟨nb, 1, none⟩ = some (.int .i64 nd.a) := Bn.cell (o := 1) (by omega)
  have m2 : w2.cell? ⟨nb, 2, none⟩ = some (.int .i64 nd.b) := Bn.cell (o := 2) (by omega)
  have m3 : w2.cell? ⟨nb, 3, none⟩ = some (.int .i64 nd.c) := Bn.cell (o := 3) (by omega)
  have m4 : w2.cell? ⟨nb, 4, none⟩ = some (.int .i64 nd.nx) := Bn.cell (o := 4) (by omega)
  have m5 : w2.cell? ⟨nb, 5, none⟩ = some (.int .i64 nd.val) := Bn.cell (o := 5) (by omega)
  have m6 : w2.cell? ⟨nb, 6, none⟩ = some (.int .i64 nd.pos) := Bn.cell (o := 6) (by omega)
  rw [d0] at m0
  have nbl := Bn.lt
  clear d0 Bn
  have q := I.use he1 N.e2 N.mm N.e2.sb (Rl.refl s) rfl hf L1 (x := nd.a) (by rw [hnd]) W1
  obtain ⟨x1', x2'⟩ := duT_r W3
  rw [x1', x2'] at q
  obtain ⟨x3', x4'⟩ := duT_i W4
  have HF : Hid (True ∧ _) := ⟨trivial, And.intro N (And.intro y1 (And.intro y2 (And.intro hnd (And.intro L2 (And.intro W2 (And.intro x3' (And.intro x4' (And.intro I (And.intro he2 (And.intro hf (And.intro hk K)))))))))))⟩
  clear N hnd y1 y2 W1 W2 W3 W4 hN x1' x2' x3' x4' I L1 L2 he1 he2 hf hk K
  go_wp2_with fail
  refine q.mono ?_
  rintro z w3 ⟨v1, rfl, h⟩
  clear q
  obtain ⟨_, N, y1, y2, hnd, L2, W2, x3, x4, I, he2, hf, hk, K⟩ := HF.out
  have Bn := N.b h.fr
  have m2 : w3.cell? ⟨nb, 2, none⟩ = some (.int .i64 nd.b) := Bn.cell (o := 2) (by omega)
  have nbl := Bn.lt
  clear m0 m1 m3 m4 m5 m6 Bn
  rcases h with ⟨t1, g1, M1, S1, R1, l1⟩ | h
  · have q := I.use he2 N.e2 M1 S1 R1 l1 hf L2 (x := nd.b) (by rw [hnd]) W2
    rw [x3, x4] at q
    have HM : Hid (True ∧ _) := ⟨trivial, And.intro g1 (And.intro M1 (And.intro S1 (And.intro R1 l1)))⟩
    clear N y1 y2 hnd L2 W2 x3 x4 I he2 hf hk K g1 M1 S1 R1 l1
    go_wp2_with fail
    refine q.mono ?_
    rintro z w4 ⟨v2, rfl, h⟩
    clear q m2 nbl
    rcases h with ⟨t2, g2, M2, S2, R2, l2⟩ | h
    · obtain ⟨_, N, y1, y2, hnd, L2, W2, x3, x4, I, he2, hf, hk, K⟩ := HF.out
      have hip1 := S2.u0
      have hip2 := S2.u48
      have hr24 := S2.r24
      obtain ⟨ov, O, Hv⟩ := M2.1
      have c15 := Hv.c15
      have c16 := Hv.c16
      have c17 := Hv.c17
      have rlt := Hv.rlt
      have hz := Hv.blk.frozen
      obtain ⟨tb, etb, tlt, tc⟩ := Hv.an.ht.at (i := k) (by rw [K.tl]; exact hkl)
      have c4 := Hv.c4
      rw [etb, K.tl] at c4
      have ety : G.P0.ty.getD k (-1) = tyA G.P0 k := rfl
      rw [ety] at tc
      have htbr : tb ≠ G.r := fun e => (Hv.sb tb (.inl (.inr (.inl ⟨_, _, etb⟩)))).1 (e ▸ Hv.qr)
      have e1 : wrap64 (t2.us - 1) = t2.us - 1 := by simp only [wrap64]; omega
      have M3 := M2.setU (t2.us - 1)
      have e2 : wrap64 (((t2.M.rt.length : Nat) : Int) - 1) = ((t2.M.rt.length : Nat) : Int) - 1 := by simp only [wrap64]; omega
      have q3 := M3.depthH
      have q4 := M3.ldIntH S2.mi S2.r24 (((t2.M.rt.length : Nat) : Int) - 1) v2
      have z1 : decide (tyA G.P0 k ≥ 2) = false := decide_eq_false (by omega)
      have z2 : decide ((2 : Int) ≤ tyA G.P0 k) = false := decide_eq_false (by omega)
      have q5 := M3.heapEnd (ldIntM t2.M (((t2.M.rt.length : Nat) : Int) - 1) v2).2
      have HM2 : Hid (True ∧ _) := ⟨trivial, And.intro g2 (And.intro M3 (And.intro S2 (And.intro R2 l2)))⟩
      clear N y1 y2 hnd L2 W2 x3 x4 I he2 hf hk K g2 M2 S2 R2 l2 Hv etb ety M3
      go_wp2_with fail
      refine q3.mono ?_
      rintro z w5 ⟨rfl, hw5⟩
      subst w5
      clear q3
      go_wp2_with fail
      refine q4.mono ?_
      rintro z w6 ⟨rfl, hw6⟩
      subst w6
      clear q4
      go_wp2_with fail
      refine q5.mono ?_
      rintro z w7 ⟨rfl, ⟨h0, hw7⟩ | ⟨h0, M7⟩⟩
      · subst w7
        obtain ⟨_, g2, M3, S2, R2, l2⟩ := HM2.out
        have q6 := M3.popH S2.r24 1
        have H0 : Hid (True ∧ _) := ⟨trivial, h0⟩
        have yy : ((ldIntM t2.M (((t2.M.rt.length : Nat) : Int) - 1) v2).2 != 0) = false := by simpa using h0
        clear q5 h0 M3 S2 R2 l2 g2
        go_wp2_with fail
        refine q6.mono ?_
        rintro z w8 ⟨rfl, M8⟩
        clear q6 c15 c16 c17 c4 tc htbr hz rlt e1
        obtain ⟨ov8, O8, Hv8⟩ := M8.1
        have c15 := Hv8.c15
        have rlt := Hv8.rlt
        have hz := Hv8.blk.frozen
        have e3 : wrap64 (t2.us - 1 + 1) = t2.us := by simp only [wrap64]; omega
        have M9 := M8.setU t2.us
        have HM9 : Hid (True ∧ _) := ⟨trivial, M9⟩
        clear M8 Hv8 M9
        go_wp2_with fail
        go_ret
        obtain ⟨_, N, y1, y2, hnd, L2, W2, x3, x4, I, he2, hf, hk, K⟩ := HF.out
        obtain ⟨_, g1, M1, S1, R1, l1⟩ := HM.out
        obtain ⟨_, g2, M3, S2, R2, l2⟩ := HM2.out
        refine ⟨(ldIntM t2.M (((t2.M.rt.length : Nat) : Int) - 1) v2).1, rfl, N.fat ?_⟩
        rw [y1, y2]
        simp only [bodyI]
        refine Fat.call g1 (Fat.call g2 ?_)
        have ed : dtop t2.M 1 = ((t2.M.rt.length : Nat) : Int) - 1 := rfl
        rw [← hk, if_neg (by omega), ed]
        unfold hpI
        rw [if_pos H0.out.2]
        have RR := R1.trans R2
        have hrt : 1 ≤ t2.M.rt.length := by rw [RR.rt]; omega
        have hp := (pop_ok (M := t2.M) (n := 1) (by omega) (by omega)).2
        refine Fat.go (HM9.out.2.re rfl rfl rfl rfl rfl) ⟨S2.u0, S2.u48, ?_, S2.mi.pop _, S2.ou, S2.f1, S2.f0, S2.ip, S2.il⟩ ⟨RR.rb, RR.ll, RR.us, ?_, RR.fu⟩ (l2.trans l1)
        · show (popM t2.M 1).2.rt.length ≤ 24
          have := S2.r24
          omega
        · show (popM t2.M 1).2.rt.length = s.M.rt.length + 0
          have := RR.rt
          rw [hp]
          omega
      · have yy : ((ldIntM t2.M (((t2.M.rt.length : Nat) : Int) - 1) v2).2 != 0) = true := by simpa using h0
        have H0 : Hid (True ∧ _) := ⟨trivial, And.intro h0 M7⟩
        clear q5 h0 M7 c15 c16 c17 c4 tc htbr hz rlt e1
        go_wp2_with fail
        go_ret
        obtain ⟨_, N, y1, y2, hnd, L2, W2, x3, x4, I, he2, hf, hk, K⟩ := HF.out
        obtain ⟨_, g1, M1, S1, R1, l1⟩ := HM.out
        obtain ⟨_, g2, M3, S2, R2, l2⟩ := HM2.out
        refine ⟨0, rfl, N.fat ?_⟩
        simp only [bodyI]
        refine Fat.call g1 (Fat.call g2 ?_)
        have ed : dtop t2.M 1 = ((t2.M.rt.length : Nat) : Int) - 1 := rfl
        rw [← hk, if_neg (by omega), ed]
        unfold hpI
        rw [if_neg H0.out.2.1]
        exact Fat.die (endOf_no _) H0.out.2.2 rfl rfl S2.r24 S2.ou
    · obtain ⟨en, he, c17, rlt⟩ := h.c17
      have yy : (en != 0) = true := by simpa using he
      have HD : Hid (True ∧ _) := ⟨trivial, h⟩
      clear h he
      go_wp2_with fail
      go_ret
      obtain ⟨_, N, y1, y2, hnd, L2, W2, x3, x4, I, he2, hf, hk, K⟩ := HF.out
      obtain ⟨_, g1, M1, S1, R1, l1⟩ := HM.out
      refine ⟨0, rfl, N.fat ?_⟩
      simp only [bodyI]
      exact Fat.call g1 (Fat.dead HD.out.2)
  · obtain ⟨en, he, c17, rlt⟩ := h.c17
    have q2 := eval_dead (G := G) (x := .int .i64 nd.b) (lv := lv) (rb := .int .i64 (s.rb : Nat)) he c17
    have yy : (en != 0) = true := by simpa using he
    have HD : Hid (True ∧ _) := ⟨trivial, h⟩
    clear h he N y1 y2 hnd L2 W2 x3 x4 I he2 hf hk K
    go_wp2_with fail
    refine q2.mono ?_
    rintro z w4 ⟨rfl, hw4⟩
    subst w4
    clear q2
    go_wp2_with fail
    go_ret
    obtain ⟨_, N, y1, y2, hnd, L2, W2, x3, x4, I, he2, hf, hk, K⟩ := HF.out
    refine ⟨0, rfl, N.fat ?_⟩
    simp only [bodyI]
    exact Fat.dead HD.out.2
end Go.Proofs.Qxb6500277aGreat
