/- The definitional interpreter: eval: variables. -/
import Derived.Test.Qxb6500277aGreatGM4
namespace Go.Proofs.Qxb6500277aGreat
open Go Go.RowKit

set_option maxRecDepth 100000 in
set_option maxHeartbeats 2000000 in
theorem ev_var_i {G : Gmx} (K : G.Ok) (nm : ByteArray) (p : Int) {w : World} {Q : Nat → Prop} {s : Ss} {b : Nat} {nx x : Int} {li lr : Nat} {lv : Value} (E : Ev0 G w Q s lv li lr) (ht : tyA G.P0 b < 2) (L : Lie G.ns b (flE b nx (.var nm p))) (hx : x = rtE b (.var nm p)) (W : WtE G.P0 li lr b (.var nm p)) : Calls Tryz.prog 79 #[.pointer (some ⟨G.r, 0, none⟩), .int .i64 x, lv, .int .i64 (s.rb : Nat)] w (EvR G w Q s (tyA G.P0 (rtN b (.var nm p))) (bodyI G.P0 (.ev b (.var nm p)) s)) := by
  rw [rtE_nat] at hx
  subst hx
  have hN := L.one
  clear L
  have ek : b + szE (.var nm p) - 1 = b := by simp only [szE]; omega
  have hty : tyA G.P0 (rtN b (.var nm p)) = tyA G.P0 (b) := by unfold rtN; rw [ek]
  rw [hty, ek]
  obtain ⟨k, hk⟩ : ∃ k, k = b := ⟨_, rfl⟩
  obtain ⟨nd, hnd⟩ : ∃ nd : Nd, nd = ⟨12, -1, -1, -1, nx, 0, p, nm⟩ := ⟨_, rfl⟩
  rw [← hk, ← hnd] at hN
  rw [← hk]
  simp only [WtE] at W
  rw [if_neg (by omega)] at W
  rw [← hk] at W ht
  obtain ⟨y1, y2⟩ := duT_i ht
  obtain ⟨ov, O, Hv⟩ := E.H
  have c10 := Hv.c10
  have c17 := Hv.c17
  have rlt := Hv.rlt
  have hnl := Hv.an.nl
  obtain ⟨vb, evb, vlt, hkl, n0, n1, n2, n3, n4, n5, n6, n7⟩ := Hv.an.hv.at hN
  rw [evb] at c10
  have N0 := Nb.mk' E nd
  have HK : Hid (True ∧ _) := ⟨trivial, And.intro hk (And.intro hnd (And.intro hN N0))⟩
  clear hk hnd evb hN N0 Hv E ek hty
  go_enter Tryz.func79, Tryz.ntmps79
  go_upto_region 4 with fail
  obtain ⟨_, hk, hnd, hN, N⟩ := HK.out
  obtain ⟨w2, hw2⟩ : ∃ w2, w2 = w.alloc (.cells #[.int .i64 nd.kind, .int .i64 nd.a, .int .i64 nd.b, .int .i64 nd.c, .int .i64 nd.nx, .int .i64 nd.val, .int .i64 nd.pos, .string nd.name] 145) := ⟨_, rfl⟩
  obtain ⟨nb, hnb⟩ : ∃ nb, nb = w.heap.size := ⟨_, rfl⟩
  rw [← hw2, ← hnb] at N
  rw [← hw2, ← hnb]
  clear hw2 hnb c10 c17 rlt n0 n1 n2 n3 n4 n5 n6 n7 HK ov O vlt
  have d0 : nd.kind = 12 := by rw [hnd]
  have Bn := N.bk
  have m0 : w2.cell? ⟨nb, 0, none⟩ = some (.int .i64 nd.kind) := Bn.cell (o := 0) (by omega)
  have m1 : w2.cell? ⟨nb, 1, none⟩ = some (.int .i64 nd.a) := Bn.cell (o := 1) (by omega)
  have m2 : w2.cell? ⟨nb, 2, none⟩ = some (.int .i64 nd.b) := Bn.cell (o := 2) (by omega)
  have m3 : w2.cell? ⟨nb, 3, none⟩ = some (.int .i64 nd.c) := Bn.cell (o := 3) (by omega)
  have m4 : w2.cell? ⟨nb, 4, none⟩ = some (.int .i64 nd.nx) := Bn.cell (o := 4) (by omega)
  have m5 : w2.cell? ⟨nb, 5, none⟩ = some (.int .i64 nd.val) := Bn.cell (o := 5) (by omega)
  have m6 : w2.cell? ⟨nb, 6, none⟩ = some (.int .i64 nd.pos) := Bn.cell (o := 6) (by omega)
  rw [d0] at m0
  have nbl := Bn.lt
  clear d0 Bn
  have q := N.mm.push N.e2.sb.u0 N.e2.sb.u48
  have hb0 : bodyI G.P0 (.ev k (.var nm p)) s = pushI s (s.loc.getD (rfA G.P0 k) 0) := by simp only [bodyI]; rw [if_neg (by omega)]
  obtain ⟨ov, O, Hv⟩ := N.e2.H
  obtain ⟨tb, etb, tlt, tc⟩ := Hv.an.ht.at (i := k) (by rw [K.tl]; exact hkl)
  have c4 := Hv.c4
  have rlt := Hv.rlt
  rw [etb] at c4
  have htl := Hv.an.tl
  have etl := K.tl
  have erl := K.rl
  have ety : G.P0.ty.getD k (-1) = tyA G.P0 k := rfl
  rw [ety] at tc
  have z1 : decide (tyA G.P0 k ≥ 2) = false := decide_eq_false (by omega)
  have z2 : decide ((2 : Int) ≤ tyA G.P0 k) = false := decide_eq_false (by omega)
  have HF : Hid (True ∧ _) := ⟨trivial, And.intro N (And.intro hnd (And.intro y1 (And.intro y2 (And.intro W (And.intro hb0 (And.intro hk (And.intro etl erl)))))))⟩
  rw [etl] at c4
  generalize tyA G.P0 k = ty at *
  clear N hnd y1 y2 W hN hk hb0 etb ety Hv etl erl K htl
  go_wp2_with fail
  refine q.mono ?_
  rintro z w3 ⟨rfl, h⟩
  obtain ⟨_, N, hnd, y1, y2, W, hb0, hk, etl, erl⟩ := HF.out
  obtain ⟨s', e', M3, _⟩ := two_mm h
  obtain ⟨ov3, O3, Hv3⟩ := M3.1
  obtain ⟨rb, erb, rblt, rc⟩ := Hv3.an.hr.at (i := k) (by rw [erl]; exact hkl)
  have hli : rfA G.P0 k < s.loc.length := by rw [N.e2.ll]; exact W
  have hs12 := N.e2.l12
  rw [rfA_get W (by omega)] at rc
  have c5 := Hv3.c5
  rw [erb, erl] at c5
  have rlt3 := Hv3.rlt
  have hL3 := M3.ki N.e2.loc N.e2.lq
  obtain ⟨lb, lc, elv, hlc, llt, lcell, _⟩ := hL3.set hli
  have eg : s.loc.getD (rfA G.P0 k) 0 = s.loc[rfA G.P0 k] := by rw [List.getD_eq_getElem?_getD, List.getElem?_eq_getElem hli]; rfl
  rw [← eg] at lcell
  have HG : Hid (True ∧ _) := ⟨trivial, And.intro h hs12⟩
  subst elv
  clear N hnd y1 y2 h q W hb0 hk etl erl M3 Hv3 erb hL3 eg m0 m1 m2 m3 m4 m5 m6 nbl c4 tc hs12
  generalize s.loc.getD (rfA G.P0 k) 0 = x at *
  go_wp2_with fail
  go_ret
  obtain ⟨_, N, hnd, y1, y2, W, hb0, hk, _⟩ := HF.out
  refine ⟨x, rfl, N.fat ?_⟩
  rw [y1, y2, hb0]
  exact Fat.push HG.out.2.1 N.e2.sb (Rl.refl s) rfl rfl
set_option maxRecDepth 100000 in
set_option maxHeartbeats 2000000 in
theorem ev_var_r {G : Gmx} (K : G.Ok) (nm : ByteArray) (p : Int) {w : World} {Q : Nat → Prop} {s : Ss} {b : Nat} {nx x : Int} {li lr : Nat} {lv : Value} (E : Ev0 G w Q s lv li lr) (ht : 2 ≤ tyA G.P0 b) (L : Lie G.ns b (flE b nx (.var nm p))) (hx : x = rtE b (.var nm p)) (W : WtE G.P0 li lr b (.var nm p)) : Calls Tryz.prog 79 #[.pointer (some ⟨G.r, 0, none⟩), .int .i64 x, lv, .int .i64 (s.rb : Nat)] w (EvR G w Q s (tyA G.P0 (rtN b (.var nm p))) (bodyI G.P0 (.ev b (.var nm p)) s)) := by
  rw [rtE_nat] at hx
  subst hx
  have hN := L.one
  clear L
  have ek : b + szE (.var nm p) - 1 = b := by simp only [szE]; omega
  have hty : tyA G.P0 (rtN b (.var nm p)) = tyA G.P0 (b) := by unfold rtN; rw [ek]
  rw [hty, ek]
  obtain ⟨k, hk⟩ : ∃ k, k = b := ⟨_, rfl⟩
  obtain ⟨nd, hnd⟩ : ∃ nd : Nd, nd = ⟨12, -1, -1, -1, nx, 0, p, nm⟩ := ⟨_, rfl⟩
  rw [← hk, ← hnd] at hN
  rw [← hk]
  simp only [WtE] at W
  rw [if_pos ht] at W
  rw [← hk] at W ht
  obtain ⟨y1, y2⟩ := duT_r ht
  obtain ⟨ov, O, Hv⟩ := E.H
  have c10 := Hv.c10
  have c17 := Hv.c17
  have rlt := Hv.rlt
  have hnl := Hv.an.nl
  obtain ⟨vb, evb, vlt, hkl, n0, n1, n2, n3, n4, n5, n6, n7⟩ := Hv.an.hv.at hN
  rw [evb] at c10
  have N0 := Nb.mk' E nd
  have HK : Hid (True ∧ _) := ⟨trivial, And.intro hk (And.intro hnd (And.intro hN N0))⟩
  clear hk hnd evb hN N0 Hv E ek hty
  go_enter Tryz.func79, Tryz.ntmps79
  go_upto_region 4 with fail
  obtain ⟨_, hk, hnd, hN, N⟩ := HK.out
  obtain ⟨w2, hw2⟩ : ∃ w2, w2 = w.alloc (.cells #[.int .i64 nd.kind, .int .i64 nd.a, .int .i64 nd.b, .int .i64 nd.c, .int .i64 nd.nx, .int .i64 nd.val, .int .i64 nd.pos, .string nd.name] 145) := ⟨_, rfl⟩
  obtain ⟨nb, hnb⟩ : ∃ nb, nb = w.heap.size := ⟨_, rfl⟩
  rw [← hw2, ← hnb] at N
  rw [← hw2, ← hnb]
  clear hw2 hnb c10 c17 rlt n0 n1 n2 n3 n4 n5 n6 n7 HK ov O vlt
  have d0 : nd.kind = 12 := by rw [hnd]
  have Bn := N.bk
  have m0 : w2.cell? ⟨nb, 0, none⟩ = some (.int .i64 nd.kind) := Bn.cell (o := 0) (by omega)
  have m1 : w2.cell? ⟨nb, 1, none⟩ = some (.int .i64 nd.a) := Bn.cell (o := 1) (by omega)
  have m2 : w2.cell? ⟨nb, 2, none⟩ = some (.int .i64 nd.b) := Bn.cell (o := 2) (by omega)
  have m3 : w2.cell? ⟨nb, 3, none⟩ = some (.int .i64 nd.c) := Bn.cell (o := 3) (by omega)
  have m4 : w2.cell? ⟨nb, 4, none⟩ = some (.int .i64 nd.nx) := Bn.cell (o := 4) (by omega)
  have m5 : w2.cell? ⟨nb, 5, none⟩ = some (.int .i64 nd.val) := Bn.cell (o := 5) (by omega)
  have m6 : w2.cell? ⟨nb, 6, none⟩ = some (.int .i64 nd.pos) := Bn.cell (o := 6) (by omega)
  rw [d0] at m0
  have nbl := Bn.lt
  clear d0 Bn
  have hb0 : bodyI G.P0 (.ev k (.var nm p)) s = hpI (dupM s.M (s.rb + rfA G.P0 k : Nat)).1 s (goOn 0 { s with M := (dupM s.M (s.rb + rfA G.P0 k : Nat)).2 }) := by simp only [bodyI]; rw [if_pos ht]
  obtain ⟨ov, O, Hv⟩ := N.e2.H
  obtain ⟨tb, etb, tlt, tc⟩ := Hv.an.ht.at (i := k) (by rw [K.tl]; exact hkl)
  have c4 := Hv.c4
  have rlt := Hv.rlt
  rw [etb] at c4
  have etl := K.tl
  have erl := K.rl
  have ety : G.P0.ty.getD k (-1) = tyA G.P0 k := rfl
  rw [ety] at tc
  have z1 : decide (tyA G.P0 k ≥ 2) = true := decide_eq_true (by omega)
  have z2 : decide ((2 : Int) ≤ tyA G.P0 k) = true := decide_eq_true (by omega)
  rw [etl] at c4
  have HF : Hid (True ∧ _) := ⟨trivial, And.intro N (And.intro hnd (And.intro y1 (And.intro y2 (And.intro W (And.intro hb0 (And.intro hk erl))))))⟩
  generalize tyA G.P0 k = ty at *
  clear N hnd y1 y2 W hN hk hb0 etb ety Hv etl erl K
  go_upto_region 11 with fail
  obtain ⟨_, N, hnd, y1, y2, W, hb0, hk, erl⟩ := HF.out
  have k2 : Fr (fun _ => False) w2 w2.drew := (Fr.refl _ w2).drew
  have M2 := N.mm.same k2
  obtain ⟨ov3, O3, Hv3⟩ := M2.1
  obtain ⟨rb, erb, rblt, rc⟩ := Hv3.an.hr.at (i := k) (by rw [erl]; exact hkl)
  have hrb := N.e2.rb
  have hr24 := N.e2.sb.r24
  rw [rfA_get W (by omega)] at rc
  have c5 := Hv3.c5
  rw [erb, erl] at c5
  have c16 := Hv3.c16
  have rlt3 := Hv3.rlt
  have q := M2.dupH hr24 (s.rb + rfA G.P0 k : Nat)
  have e1 : wrap64 ((s.rb : Int) + (rfA G.P0 k : Nat)) = ((s.rb + rfA G.P0 k : Nat) : Int) := by simp only [wrap64]; omega
  clear N hnd y1 y2 W hk hb0 erl M2 k2 Hv3 erb m0 m1 m2 m3 m4 m5 m6 nbl c4 tc z1 z2 rlt tlt
  refine wp_region_text (by kernel_rfl) (by kernel_rfl) ?_
  go_wp2_with fail
  refine q.mono ?_
  rintro z w3 ⟨rfl, M3⟩
  clear q c5 c16 rc rlt3 rblt
  go_wp2_with fail
  refine ⟨by kernel_rfl, ?_⟩
  have q3 := M3.heapEnd (dupM s.M (s.rb + rfA G.P0 k : Nat)).1
  have HG : Hid (True ∧ _) := ⟨trivial, M3⟩
  clear M3
  go_wp2_with fail
  refine q3.mono ?_
  rintro z w4 ⟨rfl, h⟩
  have HJ : Hid (True ∧ _) := ⟨trivial, h⟩
  clear q3 h e1
  go_wp2_with fail
  go_ret
  obtain ⟨_, N, hnd, y1, y2, W, hb0, hk, _⟩ := HF.out
  refine ⟨0, rfl, N.fat ?_⟩
  rw [y1, y2, hb0]
  exact Fat.hp HG.out.2 HJ.out.2 (dup_rt _ _) N.e2.sb (N.e2.sb.mi.dup _) (Rl.refl s) rfl rfl
end Go.Proofs.Qxb6500277aGreat
