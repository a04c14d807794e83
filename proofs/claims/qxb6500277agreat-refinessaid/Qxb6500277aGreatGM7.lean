/- The definitional interpreter: eval: signs. -/
import Derived.Test.Qxb6500277aGreatGM4
namespace Go.Proofs.Qxb6500277aGreat
open Go Go.RowKit

set_option maxRecDepth 100000 in
set_option maxHeartbeats 2000000 in
theorem ev_not {G : Gmx} {fm : Int} {n : Nat} (I : EvC G fm n) (o p : Int) (e1 : Exp) (he : szE e1 ≤ n) {w : World} {Q : Nat → Prop} {s : Ss} {b : Nat} {nx x : Int} {li lr : Nat} {lv : Value} (E : Ev0 G w Q s lv li lr) (hf : s.fuel ≤ fm) (ho : o = 39) (L : Lie G.ns b (flE b nx (.un o p e1))) (hx : x = rtE b (.un o p e1)) (W : WtE G.P0 li lr b (.un o p e1)) : Calls Tryz.prog 79 #[.pointer (some ⟨G.r, 0, none⟩), .int .i64 x, lv, .int .i64 (s.rb : Nat)] w (EvR G w Q s (tyA G.P0 (rtN b (.un o p e1))) (bodyI G.P0 (.ev b (.un o p e1)) s)) := by
  rw [rtE_nat] at hx
  subst hx
  simp only [flE] at L
  obtain ⟨L1, hN⟩ := L.un
  clear L
  have ek : b + szE (.un o p e1) - 1 = b + szE e1 := by simp only [szE]; omega
  have hty : tyA G.P0 (rtN b (.un o p e1)) = tyA G.P0 (b + szE e1) := by unfold rtN; rw [ek]
  rw [hty, ek]
  obtain ⟨k, hk⟩ : ∃ k, k = b + szE e1 := ⟨_, rfl⟩
  obtain ⟨nd, hnd⟩ : ∃ nd : Nd, nd = ⟨19, rtE b e1, -1, -1, nx, o, p, ⟨#[]⟩⟩ := ⟨_, rfl⟩
  rw [← hk, ← hnd] at hN
  rw [← hk]
  simp only [WtE] at W
  obtain ⟨W1, W2, W3⟩ := W
  rw [← hk] at W3
  obtain ⟨y1, y2⟩ := duT_i W3
  obtain ⟨ov, O, Hv⟩ := E.H
  have c10 := Hv.c10
  have c17 := Hv.c17
  have rlt := Hv.rlt
  have hnl := Hv.an.nl
  obtain ⟨vb, evb, vlt, hkl, n0, n1, n2, n3, n4, n5, n6, n7⟩ := Hv.an.hv.at hN
  rw [evb] at c10
  have N0 := Nb.mk' E nd
  have HK : Hid (True ∧ _) := ⟨trivial, And.intro hk (And.intro hnd (And.intro hN N0))⟩
  clear hk hnd evb hN N0 Hv E ek hty
  go_enter Tryz.func79, Tryz.ntmps79
  go_upto_region 4 with fail
  obtain ⟨_, hk, hnd, hN, N⟩ := HK.out
  obtain ⟨w2, hw2⟩ : ∃ w2, w2 = w.alloc (.cells #[.int .i64 nd.kind, .int .i64 nd.a, .int .i64 nd.b, .int .i64 nd.c, .int .i64 nd.nx, .int .i64 nd.val, .int .i64 nd.pos, .string nd.name] 145) := ⟨_, rfl⟩
  obtain ⟨nb, hnb⟩ : ∃ nb, nb = w.heap.size := ⟨_, rfl⟩
  rw [← hw2, ← hnb] at N
  rw [← hw2, ← hnb]
  clear hw2 hnb c10 c17 rlt n0 n1 n2 n3 n4 n5 n6 n7 HK ov O vlt
  have d0 : nd.kind = 19 := by rw [hnd]
  have Bn := N.bk
  have m0 : w2.cell? ⟨nb, 0, none⟩ = some (.int .i64 nd.kind) := Bn.cell (o := 0) (by omega)
  have m1 : w2.cell? ⟨nb, 1, none⟩ = some (.int .i64 nd.a) := Bn.cell (o := 1) (by omega)
  have m2 : w2.cell? ⟨nb, 2, none⟩ = some (.int .i64 nd.b) := Bn.cell (o := 2) (by omega)
  have m3 : w2.cell? ⟨nb, 3, none⟩ = some (.int .i64 nd.c) := Bn.cell (o := 3) (by omega)
  have m4 : w2.cell? ⟨nb, 4, none⟩ = some (.int .i64 nd.nx) := Bn.cell (o := 4) (by omega)
  have m5 : w2.cell? ⟨nb, 5, none⟩ = some (.int .i64 nd.val) := Bn.cell (o := 5) (by omega)
  have m6 : w2.cell? ⟨nb, 6, none⟩ = some (.int .i64 nd.pos) := Bn.cell (o := 6) (by omega)
  rw [d0] at m0
  have nbl := Bn.lt
  clear d0 Bn
  have q := I.use he N.e2 N.mm N.e2.sb (Rl.refl s) rfl hf L1 (x := nd.a) (by rw [hnd]) W1
  obtain ⟨x1, x2⟩ := duT_i W2
  rw [x1, x2] at q
  have y3 : (nd.val == 39) = true := by rw [hnd]; simpa using ho
  have HF : Hid (True ∧ _) := ⟨trivial, And.intro N (And.intro y1 (And.intro y2 ho))⟩
  clear N hnd y1 y2 W1 W2 W3 hN hk x1 x2 ho I L1 he hf
  go_wp2_with fail
  refine q.mono ?_
  rintro z w3 ⟨v, rfl, h⟩
  obtain ⟨_, N, y1, y2, ho⟩ := HF.out
  have Bn := N.b h.fr
  have m5 : w3.cell? ⟨nb, 5, none⟩ = some (.int .i64 nd.val) := Bn.cell (o := 5) (by omega)
  have nbl := Bn.lt
  have HG : Hid (True ∧ _) := ⟨trivial, h⟩
  clear Bn N y1 y2 ho h q m0 m1 m2 m3 m4 m6
  have q2 := b2iK (w := w3) (v == 0)
  go_wp2_with fail
  refine q2.mono ?_
  rintro z w4 ⟨rfl, hw4⟩
  subst w4
  clear q2
  go_wp2_with fail
  go_ret
  obtain ⟨_, N, y1, y2, ho⟩ := HF.out
  refine ⟨flagI (v == 0), rfl, N.fat ?_⟩
  rw [y1, y2]
  simp only [bodyI]
  rcases HG.out.2 with ⟨t, h1, h2, h3, h4, h5⟩ | h
  · refine Fat.call h1 ?_
    rw [if_pos ho]
    exact Fat.go h2 h3 h4 h5
  · exact Fat.dead h
set_option maxRecDepth 100000 in
set_option maxHeartbeats 2000000 in
theorem ev_neg {G : Gmx} {fm : Int} {n : Nat} (I : EvC G fm n) (o p : Int) (e1 : Exp) (he : szE e1 ≤ n) {w : World} {Q : Nat → Prop} {s : Ss} {b : Nat} {nx x : Int} {li lr : Nat} {lv : Value} (E : Ev0 G w Q s lv li lr) (hf : s.fuel ≤ fm) (ho : o ≠ 39) (L : Lie G.ns b (flE b nx (.un o p e1))) (hx : x = rtE b (.un o p e1)) (W : WtE G.P0 li lr b (.un o p e1)) : Calls Tryz.prog 79 #[.pointer (some ⟨G.r, 0, none⟩), .int .i64 x, lv, .int .i64 (s.rb : Nat)] w (EvR G w Q s (tyA G.P0 (rtN b (.un o p e1))) (bodyI G.P0 (.ev b (.un o p e1)) s)) := by
  rw [rtE_nat] at hx
  subst hx
  simp only [flE] at L
  obtain ⟨L1, hN⟩ := L.un
  clear L
  have ek : b + szE (.un o p e1) - 1 = b + szE e1 := by simp only [szE]; omega
  have hty : tyA G.P0 (rtN b (.un o p e1)) = tyA G.P0 (b + szE e1) := by unfold rtN; rw [ek]
  rw [hty, ek]
  obtain ⟨k, hk⟩ : ∃ k, k = b + szE e1 := ⟨_, rfl⟩
  obtain ⟨nd, hnd⟩ : ∃ nd : Nd, nd = ⟨19, rtE b e1, -1, -1, nx, o, p, ⟨#[]⟩⟩ := ⟨_, rfl⟩
  rw [← hk, ← hnd] at hN
  rw [← hk]
  simp only [WtE] at W
  obtain ⟨W1, W2, W3⟩ := W
  rw [← hk] at W3
  obtain ⟨y1, y2⟩ := duT_i W3
  obtain ⟨ov, O, Hv⟩ := E.H
  have c10 := Hv.c10
  have c17 := Hv.c17
  have rlt := Hv.rlt
  have hnl := Hv.an.nl
  obtain ⟨vb, evb, vlt, hkl, n0, n1, n2, n3, n4, n5, n6, n7⟩ := Hv.an.hv.at hN
  rw [evb] at c10
  have N0 := Nb.mk' E nd
  have HK : Hid (True ∧ _) := ⟨trivial, And.intro hk (And.intro hnd (And.intro hN N0))⟩
  clear hk hnd evb hN N0 Hv E ek hty
  go_enter Tryz.func79, Tryz.ntmps79
  go_upto_region 4 with fail
  obtain ⟨_, hk, hnd, hN, N⟩ := HK.out
  obtain ⟨w2, hw2⟩ : ∃ w2, w2 = w.alloc (.cells #[.int .i64 nd.kind, .int .i64 nd.a, .int .i64 nd.b, .int .i64 nd.c, .int .i64 nd.nx, .int .i64 nd.val, .int .i64 nd.pos, .string nd.name] 145) := ⟨_, rfl⟩
  obtain ⟨nb, hnb⟩ : ∃ nb, nb = w.heap.size := ⟨_, rfl⟩
  rw [← hw2, ← hnb] at N
  rw [← hw2, ← hnb]
  clear hw2 hnb c10 c17 rlt n0 n1 n2 n3 n4 n5 n6 n7 HK ov O vlt
  have d0 : nd.kind = 19 := by rw [hnd]
  have Bn := N.bk
  have m0 : w2.cell? ⟨nb, 0, none⟩ = some (.int .i64 nd.kind) := Bn.cell (o := 0) (by omega)
  have m1 : w2.cell? ⟨nb, 1, none⟩ = some (.int .i64 nd.a) := Bn.cell (o := 1) (by omega)
  have m2 : w2.cell? ⟨nb, 2, none⟩ = some (.int .i64 nd.b) := Bn.cell (o := 2) (by omega)
  have m3 : w2.cell? ⟨nb, 3, none⟩ = some (.int .i64 nd.c) := Bn.cell (o := 3) (by omega)
  have m4 : w2.cell? ⟨nb, 4, none⟩ = some (.int .i64 nd.nx) := Bn.cell (o := 4) (by omega)
  have m5 : w2.cell? ⟨nb, 5, none⟩ = some (.int .i64 nd.val) := Bn.cell (o := 5) (by omega)
  have m6 : w2.cell? ⟨nb, 6, none⟩ = some (.int .i64 nd.pos) := Bn.cell (o := 6) (by omega)
  rw [d0] at m0
  have nbl := Bn.lt
  clear d0 Bn
  have q := I.use he N.e2 N.mm N.e2.sb (Rl.refl s) rfl hf L1 (x := nd.a) (by rw [hnd]) W1
  obtain ⟨x1, x2⟩ := duT_i W2
  rw [x1, x2] at q
  have y3 : (nd.val == 39) = false := by rw [hnd]; simpa using ho
  have HF : Hid (True ∧ _) := ⟨trivial, And.intro N (And.intro y1 (And.intro y2 ho))⟩
  clear N hnd y1 y2 W1 W2 W3 hN hk x1 x2 ho I L1 he hf
  go_wp2_with fail
  refine q.mono ?_
  rintro z w3 ⟨v, rfl, h⟩
  obtain ⟨_, N, y1, y2, ho⟩ := HF.out
  have Bn := N.b h.fr
  have m5 : w3.cell? ⟨nb, 5, none⟩ = some (.int .i64 nd.val) := Bn.cell (o := 5) (by omega)
  have nbl := Bn.lt
  have HG : Hid (True ∧ _) := ⟨trivial, h⟩
  clear Bn N y1 y2 ho h q m0 m1 m2 m3 m4 m6
  go_wp2_with fail
  go_ret
  obtain ⟨_, N, y1, y2, ho⟩ := HF.out
  refine ⟨wr64 (-v), rfl, N.fat ?_⟩
  rw [y1, y2]
  simp only [bodyI]
  rcases HG.out.2 with ⟨t, h1, h2, h3, h4, h5⟩ | h
  · refine Fat.call h1 ?_
    rw [if_neg ho]
    exact Fat.go h2 h3 h4 h5
  · exact Fat.dead h
end Go.Proofs.Qxb6500277aGreat
