/- The definitional interpreter: eval: read. -/
import Derived.Test.Qxb6500277aGreatGM4
namespace Go.Proofs.Qxb6500277aGreat
open Go Go.RowKit

theorem wr_ip {i : Nat} (h : i < 1000) : wrap64 ((i : Int) + 1) = ((i + 1 : Nat) : Int) ∧ wrap64 (((i + 1 : Nat) : Int) - 1) = (i : Nat) := by
  constructor
  · simp only [wrap64]; omega
  · have e : (((i + 1 : Nat) : Int) - 1) = (i : Nat) := by omega
    rw [e]
    simp only [wrap64]
    omega
set_option maxRecDepth 100000 in
set_option maxHeartbeats 2000000 in
theorem ev_rd_no {G : Gmx} (p : Int) {w : World} {Q : Nat → Prop} {s : Ss} {b : Nat} {nx x : Int} {li lr : Nat} {lv : Value} (E : Ev0 G w Q s lv li lr) (hip : G.P0.inp.length ≤ s.ip) (L : Lie G.ns b (flE b nx (.rd p))) (hx : x = rtE b (.rd p)) (W : WtE G.P0 li lr b (.rd p)) : Calls Tryz.prog 79 #[.pointer (some ⟨G.r, 0, none⟩), .int .i64 x, lv, .int .i64 (s.rb : Nat)] w (EvR G w Q s (tyA G.P0 (rtN b (.rd p))) (bodyI G.P0 (.ev b (.rd p)) s)) := by
  rw [rtE_nat] at hx
  subst hx
  have hN := L.one
  clear L
  have ek : b + szE (.rd p) - 1 = b := by simp only [szE]; omega
  have hty : tyA G.P0 (rtN b (.rd p)) = tyA G.P0 (b) := by unfold rtN; rw [ek]
  rw [hty, ek]
  obtain ⟨k, hk⟩ : ∃ k, k = b := ⟨_, rfl⟩
  obtain ⟨nd, hnd⟩ : ∃ nd : Nd, nd = ⟨17, -1, -1, -1, nx, 0, p, ⟨#[]⟩⟩ := ⟨_, rfl⟩
  rw [← hk, ← hnd] at hN
  rw [← hk]
  simp only [WtE] at W
  rw [← hk] at W
  obtain ⟨y1, y2⟩ := duT_i W
  obtain ⟨ov, O, Hv⟩ := E.H
  have c10 := Hv.c10
  have c17 := Hv.c17
  have rlt := Hv.rlt
  have hnl := Hv.an.nl
  obtain ⟨vb, evb, vlt, hkl, n0, n1, n2, n3, n4, n5, n6, n7⟩ := Hv.an.hv.at hN
  rw [evb] at c10
  have N0 := Nb.mk' E nd
  have HK : Hid (True ∧ _) := ⟨trivial, And.intro hk (And.intro hnd (And.intro hN N0))⟩
  clear hk hnd evb hN N0 Hv E ek hty
  go_enter Tryz.func79, Tryz.ntmps79
  go_upto_region 4 with fail
  obtain ⟨_, hk, hnd, hN, N⟩ := HK.out
  obtain ⟨w2, hw2⟩ : ∃ w2, w2 = w.alloc (.cells #[.int .i64 nd.kind, .int .i64 nd.a, .int .i64 nd.b, .int .i64 nd.c, .int .i64 nd.nx, .int .i64 nd.val, .int .i64 nd.pos, .string nd.name] 145) := ⟨_, rfl⟩
  obtain ⟨nb, hnb⟩ : ∃ nb, nb = w.heap.size := ⟨_, rfl⟩
  rw [← hw2, ← hnb] at N
  rw [← hw2, ← hnb]
  clear hw2 hnb c10 c17 rlt n0 n1 n2 n3 n4 n5 n6 n7 HK ov O vlt
  have d0 : nd.kind = 17 := by rw [hnd]
  have Bn := N.bk
  have m0 : w2.cell? ⟨nb, 0, none⟩ = some (.int .i64 nd.kind) := Bn.cell (o := 0) (by omega)
  have m1 : w2.cell? ⟨nb, 1, none⟩ = some (.int .i64 nd.a) := Bn.cell (o := 1) (by omega)
  have m2 : w2.cell? ⟨nb, 2, none⟩ = some (.int .i64 nd.b) := Bn.cell (o := 2) (by omega)
  have m3 : w2.cell? ⟨nb, 3, none⟩ = some (.int .i64 nd.c) := Bn.cell (o := 3) (by omega)
  have m4 : w2.cell? ⟨nb, 4, none⟩ = some (.int .i64 nd.nx) := Bn.cell (o := 4) (by omega)
  have m5 : w2.cell? ⟨nb, 5, none⟩ = some (.int .i64 nd.val) := Bn.cell (o := 5) (by omega)
  have m6 : w2.cell? ⟨nb, 6, none⟩ = some (.int .i64 nd.pos) := Bn.cell (o := 6) (by omega)
  rw [d0] at m0
  have nbl := Bn.lt
  clear d0 Bn
  have hb0 : bodyI G.P0 (.ev k (.rd p)) s = dieI 30 s := by simp only [bodyI]; rw [if_pos hip]
  obtain ⟨ov, O, Hv⟩ := N.e2.H
  have c11 := Hv.c11
  have c12 := Hv.c12
  have c17 := Hv.c17
  have rlt := Hv.rlt
  have hz := Hv.blk.frozen
  obtain ⟨ia, ic, eiv, _⟩ := Hv.inp.sl
  rw [eiv] at c11
  have hil := N.e2.sb.il
  have z1 : decide ((s.ip : Int) ≥ G.P0.inp.length) = true := decide_eq_true (by omega)
  have z2 : decide ((G.P0.inp.length : Int) ≤ s.ip) = true := decide_eq_true (by omega)
  have HF : Hid (True ∧ _) := ⟨trivial, And.intro N (And.intro hb0 Hv)⟩
  clear N hnd y1 y2 W hN hk hb0 Hv eiv
  go_wp2_with fail
  go_quiet (fail)
  go_wp2_with fail
  go_ret
  obtain ⟨_, N, hb0, Hv⟩ := HF.out
  refine ⟨0, rfl, N.fat ?_⟩
  rw [hb0]
  exact Fat.die (by decide) ((N.mm.same ((Fr.refl _ w2).drewN _)).setE 30) rfl rfl N.e2.sb.r24 N.e2.sb.ou
set_option maxRecDepth 100000 in
set_option maxHeartbeats 2000000 in
theorem ev_rd_ok {G : Gmx} (p : Int) {w : World} {Q : Nat → Prop} {s : Ss} {b : Nat} {nx x : Int} {li lr : Nat} {lv : Value} (E : Ev0 G w Q s lv li lr) (hip : s.ip < G.P0.inp.length) (L : Lie G.ns b (flE b nx (.rd p))) (hx : x = rtE b (.rd p)) (W : WtE G.P0 li lr b (.rd p)) : Calls Tryz.prog 79 #[.pointer (some ⟨G.r, 0, none⟩), .int .i64 x, lv, .int .i64 (s.rb : Nat)] w (EvR G w Q s (tyA G.P0 (rtN b (.rd p))) (bodyI G.P0 (.ev b (.rd p)) s)) := by
  rw [rtE_nat] at hx
  subst hx
  have hN := L.one
  clear L
  have ek : b + szE (.rd p) - 1 = b := by simp only [szE]; omega
  have hty : tyA G.P0 (rtN b (.rd p)) = tyA G.P0 (b) := by unfold rtN; rw [ek]
  rw [hty, ek]
  obtain ⟨k, hk⟩ : ∃ k, k = b := ⟨_, rfl⟩
  obtain ⟨nd, hnd⟩ : ∃ nd : Nd, nd = ⟨17, -1, -1, -1, nx, 0, p, ⟨#[]⟩⟩ := ⟨_, rfl⟩
  rw [← hk, ← hnd] at hN
  rw [← hk]
  simp only [WtE] at W
  rw [← hk] at W
  obtain ⟨y1, y2⟩ := duT_i W
  obtain ⟨ov, O, Hv⟩ := E.H
  have c10 := Hv.c10
  have c17 := Hv.c17
  have rlt := Hv.rlt
  have hnl := Hv.an.nl
  obtain ⟨vb, evb, vlt, hkl, n0, n1, n2, n3, n4, n5, n6, n7⟩ := Hv.an.hv.at hN
  rw [evb] at c10
  have N0 := Nb.mk' E nd
  have HK : Hid (True ∧ _) := ⟨trivial, And.intro hk (And.intro hnd (And.intro hN N0))⟩
  clear hk hnd evb hN N0 Hv E ek hty
  go_enter Tryz.func79, Tryz.ntmps79
  go_upto_region 4 with fail
  obtain ⟨_, hk, hnd, hN, N⟩ := HK.out
  obtain ⟨w2, hw2⟩ : ∃ w2, w2 = w.alloc (.cells #[.int .i64 nd.kind, .int .i64 nd.a, .int .i64 nd.b, .int .i64 nd.c, .int .i64 nd.nx, .int .i64 nd.val, .int .i64 nd.pos, .string nd.name] 145) := ⟨_, rfl⟩
  obtain ⟨nb, hnb⟩ : ∃ nb, nb = w.heap.size := ⟨_, rfl⟩
  rw [← hw2, ← hnb] at N
  rw [← hw2, ← hnb]
  clear hw2 hnb c10 c17 rlt n0 n1 n2 n3 n4 n5 n6 n7 HK ov O vlt
  have d0 : nd.kind = 17 := by rw [hnd]
  have Bn := N.bk
  have m0 : w2.cell? ⟨nb, 0, none⟩ = some (.int .i64 nd.kind) := Bn.cell (o := 0) (by omega)
  have m1 : w2.cell? ⟨nb, 1, none⟩ = some (.int .i64 nd.a) := Bn.cell (o := 1) (by omega)
  have m2 : w2.cell? ⟨nb, 2, none⟩ = some (.int .i64 nd.b) := Bn.cell (o := 2) (by omega)
  have m3 : w2.cell? ⟨nb, 3, none⟩ = some (.int .i64 nd.c) := Bn.cell (o := 3) (by omega)
  have m4 : w2.cell? ⟨nb, 4, none⟩ = some (.int .i64 nd.nx) := Bn.cell (o := 4) (by omega)
  have m5 : w2.cell? ⟨nb, 5, none⟩ = some (.int .i64 nd.val) := Bn.cell (o := 5) (by omega)
  have m6 : w2.cell? ⟨nb, 6, none⟩ = some (.int .i64 nd.pos) := Bn.cell (o := 6) (by omega)
  rw [d0] at m0
  have nbl := Bn.lt
  clear d0 Bn
  have hb0 : bodyI G.P0 (.ev k (.rd p)) s = pushI { s with ip := s.ip + 1 } (G.P0.inp.getD s.ip 0) := by simp only [bodyI]; rw [if_neg (by omega)]
  obtain ⟨ov, O, Hv⟩ := N.e2.H
  have c11 := Hv.c11
  have c12 := Hv.c12
  have rlt := Hv.rlt
  obtain ⟨ia, ic, eiv, _⟩ := Hv.inp.sl
  rw [eiv] at c11
  have hil := N.e2.sb.il
  have z1 : decide ((s.ip : Int) ≥ G.P0.inp.length) = false := decide_eq_false (by omega)
  have z2 : decide ((G.P0.inp.length : Int) ≤ s.ip) = false := decide_eq_false (by omega)
  have HF : Hid (True ∧ _) := ⟨trivial, And.intro N (And.intro hb0 (And.intro y1 y2))⟩
  clear N hnd y1 y2 W hN hk hb0 Hv eiv
  go_upto_region 17 with fail
  go_quiet (fail)
  generalize hw3 : World.drewN _ _ = w3
  have k3 : Fr (fun _ => False) w2 w3 := by rw [← hw3]; exact (Fr.refl _ w2).drewN _
  obtain ⟨_, N, hb0, y1, y2⟩ := HF.out
  have M3 := N.mm.same k3
  have q := M3.push N.e2.sb.u0 N.e2.sb.u48
  clear hw3 c11 c12 rlt m0 m1 m2 m3 m4 m5 m6 nbl N hb0 y1 y2 M3 k3
  go_wp2_with fail
  refine q.mono ?_
  rintro z w4 ⟨rfl, h⟩
  obtain ⟨_, N, hb0, y1, y2⟩ := HF.out
  obtain ⟨s', e', M4, hip'⟩ := two_mm h
  obtain ⟨ov4, O4, Hv4⟩ := M4.1
  have c11 := Hv4.c11
  have c12 := Hv4.c12
  rw [hip'] at c12
  have rlt := Hv4.rlt
  have hz := Hv4.blk.frozen
  obtain ⟨ib, ic', eiv, hic, ilt, icell, _⟩ := Hv4.inp.set hip
  rw [eiv] at c11
  have hne : ib ≠ G.r := fun e => (Hv4.sb ib (.inr ⟨_, _, eiv⟩)).1 (e ▸ Hv4.qr)
  have eg : G.P0.inp.getD s.ip 0 = G.P0.inp[s.ip] := by rw [List.getD_eq_getElem?_getD, List.getElem?_eq_getElem hip]; rfl
  rw [← eg] at icell
  obtain ⟨e1, e2⟩ := wr_ip (i := s.ip) (Nat.lt_of_lt_of_le hip (Nat.le_trans hil (by decide)))
  have HG : Hid (True ∧ _) := ⟨trivial, h⟩
  clear N hb0 y1 y2 h q M4 Hv4 eiv eg hip'
  generalize G.P0.inp.getD s.ip 0 = x at *
  go_wp2_with fail
  go_quiet (fail)
  go_wp2_with fail
  go_ret
  obtain ⟨_, N, hb0, y1, y2⟩ := HF.out
  refine ⟨x, rfl, N.fat ?_⟩
  rw [y1, y2, hb0]
  refine Fat.push (t := { s with ip := s.ip + 1 }) ?_ ⟨N.e2.sb.u0, N.e2.sb.u48, N.e2.sb.r24, N.e2.sb.mi, N.e2.sb.ou, N.e2.sb.f1, N.e2.sb.f0, hip, N.e2.sb.il⟩ ⟨rfl, rfl, by simp, by simp, Int.le_refl _⟩ rfl rfl
  rcases HG.out.2 with ⟨a, b⟩ | ⟨a, b⟩
  · exact .inl ⟨a, (b.setI (s.ip + 1)).same ((Fr.refl _ _).drewN _)⟩
  · exact .inr ⟨a, (b.setI (s.ip + 1)).same ((Fr.refl _ _).drewN _)⟩
end Go.Proofs.Qxb6500277aGreat
