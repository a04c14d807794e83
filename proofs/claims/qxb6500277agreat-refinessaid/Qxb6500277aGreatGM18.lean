/- The definitional interpreter: exec: print. -/
import Derived.Test.Qxb6500277aGreatGM17
namespace Go.Proofs.Qxb6500277aGreat
open Go Go.RowKit

set_option maxRecDepth 100000 in
set_option maxHeartbeats 2000000 in
theorem ex_prt {G : Gmx} {fm : Int} {n : Nat} (I : EvC G fm n) (p : Int) (e1 : Exp) (he : szE e1 ≤ n) {w : World} {Q : Nat → Prop} {s : Ss} {b : Nat} {nx : Int} {li lr : Nat} {lv : Value} {ret : Int} (E : Ev0 G w Q s lv li lr) (hf : s.fuel ≤ fm) (L : Lie G.ns b (flS b nx (.prt p e1))) (W : WtS G.P0 li lr ret b (.prt p e1)) : Calls Tryz.prog 56 #[.pointer (some ⟨G.r, 0, none⟩), .int .i64 ((b + szS (.prt p e1) - 1 : Nat) : Int), lv, .int .i64 (s.rb : Nat)] w (ExR G w Q lv s ret (bodyI G.P0 (.st b (.prt p e1)) s)) := by
  simp only [flS] at L
  obtain ⟨L1, hN⟩ := L.un
  clear L
  have ek : b + szS (.prt p e1) - 1 = b + szE e1 := by simp only [szS]; omega
  rw [ek]
  obtain ⟨k, hk⟩ : ∃ k, k = b + szE e1 := ⟨_, rfl⟩
  obtain ⟨nd, hnd⟩ : ∃ nd : Nd, nd = ⟨8, rtE b e1, -1, -1, nx, 0, p, ⟨#[]⟩⟩ := ⟨_, rfl⟩
  rw [← hk, ← hnd] at hN
  rw [← hk]
  obtain ⟨ov, O, Hv⟩ := E.H
  have c10 := Hv.c10
  have c17 := Hv.c17
  have rlt := Hv.rlt
  have hnl := Hv.an.nl
  obtain ⟨vb, evb, vlt, hkl, n0, n1, n2, n3, n4, n5, n6, n7⟩ := Hv.an.hv.at hN
  rw [evb] at c10
  have N0 := Nb.mk' E nd
  have HK : Hid (True ∧ _) := ⟨trivial, And.intro hk (And.intro hnd (And.intro hN (And.intro N0 E)))⟩
  clear hk hnd evb hN N0 Hv E ek
  go_enter Tryz.func56, Tryz.ntmps56
  go_upto_region 4 with fail
  obtain ⟨_, hk, hnd, hN, N, E⟩ := HK.out
  obtain ⟨w2, hw2⟩ : ∃ w2, w2 = w.alloc (.cells #[.int .i64 nd.kind, .int .i64 nd.a, .int .i64 nd.b, .int .i64 nd.c, .int .i64 nd.nx, .int .i64 nd.val, .int .i64 nd.pos, .string nd.name] 145) := ⟨_, rfl⟩
  obtain ⟨nb, hnb⟩ : ∃ nb, nb = w.heap.size := ⟨_, rfl⟩
  rw [← hw2, ← hnb] at N
  rw [← hw2, ← hnb]
  have hlvn := N.lvn hnb
  clear hw2 hnb c10 c17 rlt n0 n1 n2 n3 n4 n5 n6 n7 HK ov O vlt E
  have d0 : nd.kind = 8 := by rw [hnd]
  have Bn := N.bk
  have m0 : w2.cell? ⟨nb, 0, none⟩ = some (.int .i64 nd.kind) := Bn.cell (o := 0) (by omega)
  have m1 : w2.cell? ⟨nb, 1, none⟩ = some (.int .i64 nd.a) := Bn.cell (o := 1) (by omega)
  have m2 : w2.cell? ⟨nb, 2, none⟩ = some (.int .i64 nd.b) := Bn.cell (o := 2) (by omega)
  have m3 : w2.cell? ⟨nb, 3, none⟩ = some (.int .i64 nd.c) := Bn.cell (o := 3) (by omega)
  have m4 : w2.cell? ⟨nb, 4, none⟩ = some (.int .i64 nd.nx) := Bn.cell (o := 4) (by omega)
  have m5 : w2.cell? ⟨nb, 5, none⟩ = some (.int .i64 nd.val) := Bn.cell (o := 5) (by omega)
  have m6 : w2.cell? ⟨nb, 6, none⟩ = some (.int .i64 nd.pos) := Bn.cell (o := 6) (by omega)
  rw [d0] at m0
  have nbl := Bn.lt
  clear d0 Bn
  simp only [WtS] at W
  obtain ⟨W1, W2⟩ := W
  have q := I e1 he w2 Q s b _ nd.a li lr lv N.e2 hf L1 (by rw [hnd]) W1
  unfold EvR at q
  rw [(duT_i W2).1, (duT_i W2).2] at q
  have HF : Hid (True ∧ _) := ⟨trivial, And.intro N hnd⟩
  clear N hnd hk W1 W2 I hN L1 he hf
  go_wp2_with fail
  refine q.mono ?_
  rintro z w3 ⟨v1, rfl, h⟩
  clear q m0 m1 m2 m3 m4 m5 m6 nbl
  obtain ⟨_, N, hnd⟩ := HF.out
  rcases h with h | h
  · obtain ⟨t1, g1, S1, l1⟩ := h.ls N.e2
    obtain ⟨ov0, O0, Hv0⟩ := S1.ml.1
    have c17 := Hv0.c17
    have c15 := Hv0.c15
    have c14 := Hv0.c14
    have rlt := Hv0.rlt
    have hz := Hv0.blk.frozen
    have u0 := S1.sb.u0
    have u48 := S1.sb.u48
    have S2 := S1.dropU N.e2
    obtain ⟨oa, oc, eov, hoc⟩ := Hv0.out.sl
    have hol := S1.sb.ou
    by_cases ho : 1024 ≤ t1.out.length
    · have z1 : decide (((t1.out.length : Nat) : Int) ≥ 1024) = true := decide_eq_true (by omega)
      have z2 : decide ((1024 : Int) ≤ ((t1.out.length : Nat) : Int)) = true := decide_eq_true (by omega)
      have e1' : wrap64 (t1.us - 1) = t1.us - 1 := by simp only [wrap64]; omega
      rw [eov] at c14
      have HM : Hid (True ∧ _) := ⟨trivial, And.intro g1 (And.intro S2 (And.intro ho S1))⟩
      clear N hnd g1 S1 l1 h Hv0 S2 ho eov
      go_wp2_with fail
      go_ret2
      obtain ⟨_, N, hnd⟩ := HF.out
      obtain ⟨_, g1, S2, ho, S1⟩ := HM.out
      refine ⟨false, 0, rfl, N.exf ?_⟩
      simp only [bodyI]
      refine ExF.call g1 ?_
      rw [if_pos ho]
      exact ExF.die (by decide) (S2.ml.setE 33) rfl rfl S1.sb.r24 S1.sb.ou
    · have z1 : decide (((t1.out.length : Nat) : Int) ≥ 1024) = false := decide_eq_false (by omega)
      have z2 : decide ((1024 : Int) ≤ ((t1.out.length : Nat) : Int)) = false := decide_eq_false (by omega)
      have kA : Fr (Gw Q w2 w3) w3 ((w3.setCell ⟨G.r, 15, none⟩ (.int .i64 (t1.us - 1))).alloc (.cells #[.int .i64 v1] 3)) := ((Fr.refl _ w3).setC G.r 15 _ fun _ => Hv0.qr).alloc _
      have HvA := (Hv0.setU (t1.us - 1)).same ((Fr.refl (fun _ => False) _).alloc (.cells #[.int .i64 v1] 3))
      have hO := HvA.out
      have hmade : KiP ((w3.setCell ⟨G.r, 15, none⟩ (.int .i64 (t1.us - 1))).alloc (.cells #[.int .i64 v1] 3)) (w3.setCell ⟨G.r, 15, none⟩ (.int .i64 (t1.us - 1))).heap.size [v1] := KiP.one ((Blk.new (w3.setCell ⟨G.r, 15, none⟩ (.int .i64 (t1.us - 1))) #[.int .i64 v1] 3 (fun _ => .int .i64 v1) (fun o ho => by
        have ho : o < 1 := by simpa using ho
        obtain rfl : o = 0 := by omega
        rfl)).cell (by simp))
      have hro : ¬ isB ov0 G.r := fun x => (HvA.qv _ x).2.1 rfl
      have HM : Hid (True ∧ _) := ⟨trivial, And.intro g1 (And.intro ho (And.intro S1 (And.intro HvA (And.intro kA (And.intro hro eov)))))⟩
      rw [eov] at c14 hO
      have hsz : (w3.setCell ⟨G.r, 15, none⟩ (.int .i64 (t1.us - 1))).heap.size = w3.heap.size := by simp
      rw [hsz] at hmade
      have e1' : wrap64 (t1.us - 1) = t1.us - 1 := by simp only [wrap64]; omega
      clear N hnd g1 S1 l1 h Hv0 S2 ho HvA kA eov hro hsz
      go_wp2_with (
        at_builtin
        refine wpList_appendI (by rfl) _ _ (by rfl) _ _ [v1] _ 1 1 (by rfl) (by rfl) rfl hO hmade (.inr (by simp)) (by simp only [List.length_cons, List.length_nil]; omega) ?_
        intro v' w8 hc5 hb5 f5
        obtain ⟨va', vc', hvv, _⟩ := hc5.sl
        obtain ⟨_, _, _, _, HvA, _, hro, eov⟩ := HM.out
        have HC : Hid (True ∧ _) := ⟨trivial, And.intro hc5 (And.intro hb5 f5)⟩
        rw [eov] at hro
        have hcm := HvA.blk.frame f5 hro
        have cm1 := hcm.cell (o := 14) (by omega)
        have cml := hcm.lt
        have cmz := hcm.frozen
        simp only [List.length_append, List.length_cons, List.length_nil, Nat.zero_add] at hvv
        subst hvv
        clear hc5 hb5 f5 HvA hro eov hcm hO hmade c14 c15 c17)
      go_ret2
      obtain ⟨_, N, hnd⟩ := HF.out
      obtain ⟨_, g1, ho, S1, HvA, kA, hro, eov⟩ := HM.out
      obtain ⟨_, hc5, hb5, f5⟩ := HC.out
      refine ⟨false, 0, rfl, N.exf ?_⟩
      simp only [bodyI]
      refine ExF.call g1 ?_
      rw [if_neg ho]
      rw [← eov] at hb5 f5
      have key := HvA.outp (s' := { t1 with us := t1.us - 1, out := t1.out ++ [v1] }) f5 hc5 hb5 rfl
      have F39 := kA.trans key.2 fun _ _ x => x
      have hs0 := N.e2.sb.u0
      have hu := S1.rl.us
      have R9 := key.1.up (Q' := Gw (Gw Q w2 w3) w3 _) (fun b h => h.imp id fun y => ⟨Nat.le_trans kA.size y.1, y.2⟩) (fun b h => h.elim (fun y => Nat.lt_of_lt_of_le (S1.ml.1.lt b y) F39.size) fun y => y.2) (fun b hb y => y.elim (S1.ml.1.sb b hb).1 fun z => by have := (S1.ml.1.sb b hb).2; have := z.1; omega)
      refine ExF.done 0 ⟨S1.ml.upX R9 (F39.mono fun _ _ x => .inl x), S1.lo.frame F39 fun b hb x => (S1.ev0 N.e2).lq b hb x, ⟨?_, ?_, S1.sb.r24, S1.sb.mi, ?_, S1.sb.f1, S1.sb.f0, S1.sb.ip, S1.sb.il⟩, ⟨S1.rl.rb, S1.rl.ll, ?_, S1.rl.rt, S1.rl.fu⟩⟩
      · show 0 ≤ t1.us - 1
        omega
      · show t1.us - 1 ≤ 48
        omega
      · show (t1.out ++ [v1]).length ≤ 1024
        simp only [List.length_append, List.length_cons, List.length_nil]
        omega
      · show t1.us - 1 = s.us + (0 : Nat)
        omega
  · obtain ⟨en, he, c17, rlt⟩ := h.c17
    have yy : (en == 0) = false := by simpa using he
    have HD : Hid (True ∧ _) := ⟨trivial, h⟩
    clear h he N hnd
    go_wp2_with fail
    go_ret2
    obtain ⟨_, N, hnd⟩ := HF.out
    refine ⟨false, 0, rfl, N.exf ?_⟩
    simp only [bodyI]
    exact ExF.dead (HD.out.2.dl lv)
end Go.Proofs.Qxb6500277aGreat
