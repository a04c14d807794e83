/- The definitional interpreter: exec: an expression alone. -/
import Derived.Test.Qxb6500277aGreatGM15
namespace Go.Proofs.Qxb6500277aGreat
open Go Go.RowKit

set_option maxRecDepth 100000 in
set_option maxHeartbeats 2000000 in
theorem ex_exp {G : Gmx} (K : G.Ok) {fm : Int} {n : Nat} (I : EvC G fm n) (e1 : Exp) (he : szE e1 ≤ n) {w : World} {Q : Nat → Prop} {s : Ss} {b : Nat} {nx : Int} {li lr : Nat} {lv : Value} {ret : Int} (E : Ev0 G w Q s lv li lr) (hf : s.fuel ≤ fm) (L : Lie G.ns b (flS b nx (.exp e1))) (W : WtS G.P0 li lr ret b (.exp e1)) : Calls Tryz.prog 56 #[.pointer (some ⟨G.r, 0, none⟩), .int .i64 ((b + szS (.exp e1) - 1 : Nat) : Int), lv, .int .i64 (s.rb : Nat)] w (ExR G w Q lv s ret (bodyI G.P0 (.st b (.exp e1)) s)) := by
  simp only [flS] at L
  obtain ⟨L1, hN⟩ := L.un
  clear L
  have ek : b + szS (.exp e1) - 1 = b + szE e1 := by simp only [szS]; omega
  rw [ek]
  obtain ⟨k, hk⟩ : ∃ k, k = b + szE e1 := ⟨_, rfl⟩
  obtain ⟨nd, hnd⟩ : ∃ nd : Nd, nd = ⟨9, rtE b e1, -1, -1, nx, 0, poE e1, ⟨#[]⟩⟩ := ⟨_, rfl⟩
  rw [← hk, ← hnd] at hN
  rw [← hk]
  obtain ⟨ov, O, Hv⟩ := E.H
  have c10 := Hv.c10
  have c17 := Hv.c17
  have rlt := Hv.rlt
  have hnl := Hv.an.nl
  obtain ⟨vb, evb, vlt, hkl, n0, n1, n2, n3, n4, n5, n6, n7⟩ := Hv.an.hv.at hN
  rw [evb] at c10
  have N0 := Nb.mk' E nd
  have HK : Hid (True ∧ _) := ⟨trivial, And.intro hk (And.intro hnd (And.intro hN (And.intro N0 E)))⟩
  clear hk hnd evb hN N0 Hv E ek
  go_enter Tryz.func56, Tryz.ntmps56
  go_upto_region 4 with fail
  obtain ⟨_, hk, hnd, hN, N, E⟩ := HK.out
  obtain ⟨w2, hw2⟩ : ∃ w2, w2 = w.alloc (.cells #[.int .i64 nd.kind, .int .i64 nd.a, .int .i64 nd.b, .int .i64 nd.c, .int .i64 nd.nx, .int .i64 nd.val, .int .i64 nd.pos, .string nd.name] 145) := ⟨_, rfl⟩
  obtain ⟨nb, hnb⟩ : ∃ nb, nb = w.heap.size := ⟨_, rfl⟩
  rw [← hw2, ← hnb] at N
  rw [← hw2, ← hnb]
  have hlvn := N.lvn hnb
  clear hw2 hnb c10 c17 rlt n0 n1 n2 n3 n4 n5 n6 n7 HK ov O vlt E
  have d0 : nd.kind = 9 := by rw [hnd]
  have Bn := N.bk
  have m0 : w2.cell? ⟨nb, 0, none⟩ = some (.int .i64 nd.kind) := Bn.cell (o := 0) (by omega)
  have m1 : w2.cell? ⟨nb, 1, none⟩ = some (.int .i64 nd.a) := Bn.cell (o := 1) (by omega)
  have m2 : w2.cell? ⟨nb, 2, none⟩ = some (.int .i64 nd.b) := Bn.cell (o := 2) (by omega)
  have m3 : w2.cell? ⟨nb, 3, none⟩ = some (.int .i64 nd.c) := Bn.cell (o := 3) (by omega)
  have m4 : w2.cell? ⟨nb, 4, none⟩ = some (.int .i64 nd.nx) := Bn.cell (o := 4) (by omega)
  have m5 : w2.cell? ⟨nb, 5, none⟩ = some (.int .i64 nd.val) := Bn.cell (o := 5) (by omega)
  have m6 : w2.cell? ⟨nb, 6, none⟩ = some (.int .i64 nd.pos) := Bn.cell (o := 6) (by omega)
  rw [d0] at m0
  have nbl := Bn.lt
  clear d0 Bn
  simp only [WtS] at W
  obtain ⟨rt, hrt⟩ : ∃ rt, rt = rtN b e1 := ⟨_, rfl⟩
  have ea : nd.a = ((rt : Nat) : Int) := by rw [hnd, hrt]; exact rtE_nat b e1
  have hrl : rt < G.ns.length := by
    have := L1.le
    rw [flE_len] at this
    have := szE_pos e1
    rw [hrt]
    unfold rtN
    omega
  have q := I e1 he w2 Q s b _ nd.a li lr lv N.e2 hf L1 (by rw [hnd]) W
  rw [← hrt] at q
  rw [ea] at q m1
  have HF : Hid (True ∧ _) := ⟨trivial, And.intro N (And.intro hnd (And.intro hrt (And.intro K ea)))⟩
  clear N hnd hk W K I hN L1 he hf hrt ea
  go_wp2_with fail
  refine q.mono ?_
  rintro z w3 ⟨v1, rfl, h⟩
  clear q m0 m1 m2 m3 m4 m5 m6 nbl
  obtain ⟨_, N, hnd, hrt, K, ea⟩ := HF.out
  have Bn := N.b h.fr
  have m1 : w3.cell? ⟨nb, 1, none⟩ = some (.int .i64 nd.a) := Bn.cell (o := 1) (by omega)
  rw [ea] at m1
  have nbl := Bn.lt
  clear Bn
  rcases h with h | h
  · obtain ⟨t1, g1, S1, l1⟩ := h.ls N.e2
    obtain ⟨ov, O, Hv⟩ := S1.ml.1
    have c17 := Hv.c17
    have c15 := Hv.c15
    have c16 := Hv.c16
    have rlt := Hv.rlt
    have hz := Hv.blk.frozen
    have hnbr : nb ≠ G.r := fun e => N.np (e ▸ N.rQ)
    obtain ⟨tb, etb, tlt, tc⟩ := Hv.an.ht.at (i := rt) (by rw [K.tl]; exact hrl)
    have c4 := Hv.c4
    rw [etb, K.tl] at c4
    have ety : G.P0.ty.getD rt (-1) = tyA G.P0 rt := rfl
    rw [ety] at tc
    have hki : (rt : Int) < G.ns.length := by omega
    by_cases ht : 2 ≤ tyA G.P0 rt
    · have z1 : decide (tyA G.P0 rt ≥ 2) = true := decide_eq_true (by omega)
      have z2 : decide ((2 : Int) ≤ tyA G.P0 rt) = true := decide_eq_true (by omega)
      rw [(duT_r ht).1, (duT_r ht).2] at S1
      have hd := (Fr.refl (fun _ => False) w3).drewN
      have q4 : ∀ j, Calls Tryz.prog 38 #[.pointer (some ⟨G.hm, 0, none⟩), .int .i64 1] (w3.drewN j) fun e w' => e = .returned (.int .i64 (popM t1.M 1).1) ∧ Mm G w3 (Gw Q w2 w3) w' { t1 with M := (popM t1.M 1).2 } 0 := fun j => (S1.ml.mm.same (hd j)).popH S1.sb.r24 1
      have HM : Hid (True ∧ _) := ⟨trivial, And.intro g1 (And.intro S1 ht)⟩
      clear N hnd hrt K ea g1 S1 l1 h Hv etb ety ht hd
      go_wp2_with fail
      go_quiet (fail)
      go_wp2_with fail
      refine (q4 _).mono ?_
      rintro z w5 ⟨rfl, M5⟩
      have HG : Hid (True ∧ _) := ⟨trivial, M5⟩
      clear q4 M5
      go_wp2_with fail
      go_ret2
      obtain ⟨_, N, hnd, hrt, K, ea⟩ := HF.out
      obtain ⟨_, g1, S1, ht⟩ := HM.out
      refine ⟨false, 0, rfl, N.exf ?_⟩
      simp only [bodyI]
      refine ExF.call g1 ?_
      rw [← hrt, if_pos ht]
      have hrt1 := S1.rl.rt
      have hp := (pop_ok (M := t1.M) (n := 1) (by omega) (by omega)).2
      have r24 := S1.sb.r24
      refine ExF.done 0 ⟨S1.ml.up HG.out.2, S1.lo.frame HG.out.2.2.1 fun b hb x => (S1.ev0 N.e2).lq b hb x, ⟨S1.sb.u0, S1.sb.u48, ?_, S1.sb.mi.pop _, S1.sb.ou, S1.sb.f1, S1.sb.f0, S1.sb.ip, S1.sb.il⟩, ⟨S1.rl.rb, S1.rl.ll, S1.rl.us, ?_, S1.rl.fu⟩⟩
      · show (popM t1.M 1).2.rt.length ≤ 24
        omega
      · show (popM t1.M 1).2.rt.length = s.M.rt.length + 0
        rw [hp]
        omega
    · have z1 : decide (tyA G.P0 rt ≥ 2) = false := decide_eq_false (by omega)
      have z2 : decide ((2 : Int) ≤ tyA G.P0 rt) = false := decide_eq_false (by omega)
      have ht2 : tyA G.P0 rt < 2 := by omega
      rw [(duT_i ht2).1, (duT_i ht2).2] at S1
      have u0 := S1.sb.u0
      have u48 := S1.sb.u48
      have e1 : wrap64 (t1.us - 1) = t1.us - 1 := by simp only [wrap64]; omega
      have HM : Hid (True ∧ _) := ⟨trivial, And.intro g1 (And.intro S1 ht2)⟩
      clear N hnd hrt K ea g1 S1 l1 h Hv etb ety ht ht2
      go_wp2_with fail
      go_quiet (fail)
      go_wp2_with fail
      go_ret2
      obtain ⟨_, N, hnd, hrt, K, ea⟩ := HF.out
      obtain ⟨_, g1, S1, ht⟩ := HM.out
      refine ⟨false, 0, rfl, N.exf ?_⟩
      simp only [bodyI]
      refine ExF.call g1 ?_
      rw [← hrt, if_neg (by omega)]
      have hd := (Fr.refl (fun _ => False) w3).drewN nq
      have Sd := S1.ml.same hd
      have hu := S1.rl.us
      have s0 := N.e2.sb.u0
      have kk := (Fr.refl (fun b => b = G.r) (w3.drewN nq)).setC G.r 15 (.int .i64 (t1.us - 1)) fun _ => rfl
      refine ExF.done 0 ⟨Sd.setU (t1.us - 1), (S1.lo.frame hd fun _ _ x => x).frame kk fun b hb e => (S1.ev0 N.e2).lq b hb (.inl (e ▸ N.rQ)), ⟨?_, ?_, S1.sb.r24, S1.sb.mi, S1.sb.ou, S1.sb.f1, S1.sb.f0, S1.sb.ip, S1.sb.il⟩, ⟨S1.rl.rb, S1.rl.ll, ?_, S1.rl.rt, S1.rl.fu⟩⟩
      · show 0 ≤ t1.us - 1
        omega
      · show t1.us - 1 ≤ 48
        omega
      · show t1.us - 1 = s.us + (0 : Nat)
        omega
  · obtain ⟨en, he, c17, rlt⟩ := h.c17
    have yy : (en == 0) = false := by simpa using he
    have HD : Hid (True ∧ _) := ⟨trivial, h⟩
    clear h he N hnd hrt K ea
    go_wp2_with fail
    go_ret2
    obtain ⟨_, N, hnd, hrt, K, ea⟩ := HF.out
    refine ⟨false, 0, rfl, N.exf ?_⟩
    simp only [bodyI]
    exact ExF.dead (HD.out.2.dl lv)
end Go.Proofs.Qxb6500277aGreat
