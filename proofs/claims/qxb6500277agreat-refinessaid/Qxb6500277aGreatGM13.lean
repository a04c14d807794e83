/- The definitional interpreter: eval whole. -/
import Derived.Test.Qxb6500277aGreatGM5
import Derived.Test.Qxb6500277aGreatGM6
import Derived.Test.Qxb6500277aGreatGM7
import Derived.Test.Qxb6500277aGreatGM8
import Derived.Test.Qxb6500277aGreatGM9
import Derived.Test.Qxb6500277aGreatGM10
import Derived.Test.Qxb6500277aGreatGM11
import Derived.Test.Qxb6500277aGreatGM12
namespace Go.Proofs.Qxb6500277aGreat
open Go Go.RowKit

set_option maxRecDepth 100000 in
set_option maxHeartbeats 2000000 in
theorem ev_bin {G : Gmx} {fm : Int} {n : Nat} (I : EvC G fm n) (o p : Int) (x1 x2 : Exp) (he1 : szE x1 ≤ n) (he2 : szE x2 ≤ n) {w : World} {Q : Nat → Prop} {s : Ss} {b : Nat} {nx x : Int} {li lr : Nat} {lv : Value} (E : Ev0 G w Q s lv li lr) (hf : s.fuel ≤ fm) (L : Lie G.ns b (flE b nx (.bin o p x1 x2))) (hx : x = rtE b (.bin o p x1 x2)) (W : WtE G.P0 li lr b (.bin o p x1 x2)) : Calls Tryz.prog 79 #[.pointer (some ⟨G.r, 0, none⟩), .int .i64 x, lv, .int .i64 (s.rb : Nat)] w (EvR G w Q s (tyA G.P0 (rtN b (.bin o p x1 x2))) (bodyI G.P0 (.ev b (.bin o p x1 x2)) s)) := by
  rw [rtE_nat] at hx
  subst hx
  simp only [flE] at L
  obtain ⟨L1, L2, hN⟩ := L.two
  clear L
  have ek : b + szE (.bin o p x1 x2) - 1 = b + szE x1 + szE x2 := by simp only [szE]; omega
  have hty : tyA G.P0 (rtN b (.bin o p x1 x2)) = tyA G.P0 (b + szE x1 + szE x2) := by unfold rtN; rw [ek]
  rw [hty, ek]
  obtain ⟨k, hk⟩ : ∃ k, k = b + szE x1 + szE x2 := ⟨_, rfl⟩
  obtain ⟨nd, hnd⟩ : ∃ nd : Nd, nd = ⟨18, rtE b x1, rtE (b + szE x1) x2, -1, nx, o, p, ⟨#[]⟩⟩ := ⟨_, rfl⟩
  rw [← hk, ← hnd] at hN
  rw [← hk]
  have W0 := W
  simp only [WtE] at W
  obtain ⟨y1, y2⟩ := duT_i W.2.2.2.2
  rw [← hk] at y1 y2
  obtain ⟨ov, O, Hv⟩ := E.H
  have c10 := Hv.c10
  have c17 := Hv.c17
  have rlt := Hv.rlt
  have hnl := Hv.an.nl
  obtain ⟨vb, evb, vlt, hkl, n0, n1, n2, n3, n4, n5, n6, n7⟩ := Hv.an.hv.at hN
  rw [evb] at c10
  have N0 := Nb.mk' E nd
  have HK : Hid (True ∧ _) := ⟨trivial, And.intro hk (And.intro hnd (And.intro hN N0))⟩
  clear hk hnd evb hN N0 Hv E ek hty
  go_enter Tryz.func79, Tryz.ntmps79
  go_upto_region 4 with fail
  obtain ⟨_, hk, hnd, hN, N⟩ := HK.out
  obtain ⟨w2, hw2⟩ : ∃ w2, w2 = w.alloc (.cells #[.int .i64 nd.kind, .int .i64 nd.a, .int .i64 nd.b, .int .i64 nd.c, .int .i64 nd.nx, .int .i64 nd.val, .int .i64 nd.pos, .string nd.name] 145) := ⟨_, rfl⟩
  obtain ⟨nb, hnb⟩ : ∃ nb, nb = w.heap.size := ⟨_, rfl⟩
  rw [← hw2, ← hnb] at N
  rw [← hw2, ← hnb]
  clear hw2 hnb c10 c17 rlt n0 n1 n2 n3 n4 n5 n6 n7 HK ov O vlt
  have d0 : nd.kind = 18 := by rw [hnd]
  have Bn := N.bk
  have m0 : w2.cell? ⟨nb, 0, none⟩ = some (.int .i64 nd.kind) := Bn.cell (o := 0) (by omega)
  have m1 : w2.cell? ⟨nb, 1, none⟩ = some (.int .i64 nd.a) := Bn.cell (o := 1) (by omega)
  have m2 : w2.cell? ⟨nb, 2, none⟩ = some (.int .i64 nd.b) := Bn.cell (o := 2) (by omega)
  have m3 : w2.cell? ⟨nb, 3, none⟩ = some (.int .i64 nd.c) := Bn.cell (o := 3) (by omega)
  have m4 : w2.cell? ⟨nb, 4, none⟩ = some (.int .i64 nd.nx) := Bn.cell (o := 4) (by omega)
  have m5 : w2.cell? ⟨nb, 5, none⟩ = some (.int .i64 nd.val) := Bn.cell (o := 5) (by omega)
  have m6 : w2.cell? ⟨nb, 6, none⟩ = some (.int .i64 nd.pos) := Bn.cell (o := 6) (by omega)
  rw [d0] at m0
  have nbl := Bn.lt
  clear d0 Bn
  have m7 : w2.cell? ⟨nb, 7, none⟩ = some (.string nd.name) := N.bk.cell (o := 7) (by omega)
  have q : Calls Tryz.prog 135 #[.pointer (some ⟨G.r, 0, none⟩), .agg #[.int .i64 nd.kind, .int .i64 nd.a, .int .i64 nd.b, .int .i64 nd.c, .int .i64 nd.nx, .int .i64 nd.val, .int .i64 nd.pos, .string nd.name], lv, .int .i64 (s.rb : Nat)] w2 fun e w' => ∃ v, e = .returned (.int .i64 v) ∧ Fat G w2 Q w' s 1 0 (bodyI G.P0 (.ev b (.bin o p x1 x2)) s) v := by
    by_cases h37 : o = 37
    · exact bin37_set I o p x1 x2 he1 he2 N.e2 hf L1 L2 W0 hnd h37
    by_cases h38 : o = 38
    · exact bin38_set I o p x1 x2 he1 he2 N.e2 hf L1 L2 W0 hnd h38
    · exact bin_op I o p x1 x2 he1 he2 N.e2 hf L1 L2 W0 hnd (by omega)
  have d0 : nd.kind = 18 := by rw [hnd]
  rw [d0] at q
  have HF : Hid (True ∧ _) := ⟨trivial, And.intro N (And.intro y1 y2)⟩
  clear N hnd y1 y2 W W0 hN hk I L1 L2 he1 he2 hf d0
  go_wp2_with fail
  refine q.mono ?_
  rintro z w3 ⟨v, rfl, h⟩
  have HG : Hid (True ∧ _) := ⟨trivial, h⟩
  clear q h
  go_wp2_with fail
  go_ret
  obtain ⟨_, N, y1, y2⟩ := HF.out
  refine ⟨v, rfl, N.fat ?_⟩
  rw [y1, y2]
  exact HG.out.2
theorem evC {G : Gmx} (K : G.Ok) {fm : Int} (J : InvC G fm) : ∀ n, EvC G fm n
  | 0 => fun e he => absurd he (by have := szE_pos e; omega)
  | n + 1 => fun e he w Q s b nx x li lr lv E hf L hx W => by
    have I := evC K J n
    cases e with
    | num v p => exact ev_num v p E L hx W
    | boo v p => exact ev_boo v p E L hx W
    | var nm p =>
      by_cases h : 2 ≤ tyA G.P0 b
      · exact ev_var_r K nm p E h L hx W
      · exact ev_var_i K nm p E (by omega) L hx W
    | rd p =>
      by_cases h : s.ip < G.P0.inp.length
      · exact ev_rd_ok p E h L hx W
      · exact ev_rd_no p E (by omega) L hx W
    | un o p e =>
      simp only [szE] at he
      by_cases h : o = 39
      · exact ev_not I o p e (by omega) E hf h L hx W
      · exact ev_neg I o p e (by omega) E hf h L hx W
    | bin o p l r =>
      have h1 := szE_pos l
      have h2 := szE_pos r
      simp only [szE] at he
      exact ev_bin I o p l r (by omega) (by omega) E hf L hx W
    | idx p a c =>
      have h1 := szE_pos a
      have h2 := szE_pos c
      simp only [szE] at he
      by_cases h : 2 ≤ tyA G.P0 (b + szE a + szE c)
      · exact ev_idx_r K I p a c (by omega) (by omega) E hf h L hx W
      · exact ev_idx_i K I p a c (by omega) (by omega) E hf (by omega) L hx W
    | new o p e =>
      simp only [szE] at he
      by_cases h : 4 ≤ o
      · exact ev_new_r I o p e (by omega) E hf h L hx W
      · exact ev_new_i I o p e (by omega) E hf h L hx W
    | len p e =>
      simp only [szE] at he
      exact ev_len I p e (by omega) E hf L hx W
    | call nm p gs =>
      simp only [szE] at he
      have hl : szEs gs ≤ 200 := by
        have h1 := L.le
        obtain ⟨ov, O, Hv⟩ := E.H
        have h2 := Hv.an.nl
        rw [flE_len] at h1
        simp only [szE] at h1
        omega
      exact ev_call K I J nm p gs (by omega) E hf hl L hx W
end Go.Proofs.Qxb6500277aGreat
