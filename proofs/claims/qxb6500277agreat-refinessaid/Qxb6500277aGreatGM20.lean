/- The definitional interpreter: exec: blocks. -/
import Derived.Test.Qxb6500277aGreatGM17
namespace Go.Proofs.Qxb6500277aGreat
open Go Go.RowKit

set_option maxRecDepth 100000 in
set_option maxHeartbeats 2000000 in
theorem ex_block {G : Gmx} {fm : Int} {n : Nat} (X : XeC G fm n) (ss : Stms) (hn : szSs ss ≤ n) {w : World} {Q : Nat → Prop} {s : Ss} {b k : Nat} {p : Int} {li lr : Nat} {lv : Value} {ret : Int} (E : Ev0 G w Q s lv li lr) (hf : s.fuel ≤ fm) (L : Lie G.ns b (flSs b ss)) (hN0 : G.ns[k]? = some ⟨2, hdS b ss, -1, -1, -1, 0, p, ⟨#[]⟩⟩) (W : WtSs G.P0 li lr ret b ss) : Calls Tryz.prog 56 #[.pointer (some ⟨G.r, 0, none⟩), .int .i64 (k : Nat), lv, .int .i64 (s.rb : Nat)] w (ExR G w Q lv s ret (bodyI G.P0 (.sts b ss) s)) := by
  obtain ⟨nd, hnd⟩ : ∃ nd : Nd, nd = ⟨2, hdS b ss, -1, -1, -1, 0, p, ⟨#[]⟩⟩ := ⟨_, rfl⟩
  have hN := hN0
  rw [← hnd] at hN
  have hk : k = k := rfl
  have ek : True := trivial
  clear hN0
  obtain ⟨ov, O, Hv⟩ := E.H
  have c10 := Hv.c10
  have c17 := Hv.c17
  have rlt := Hv.rlt
  have hnl := Hv.an.nl
  obtain ⟨vb, evb, vlt, hkl, n0, n1, n2, n3, n4, n5, n6, n7⟩ := Hv.an.hv.at hN
  rw [evb] at c10
  have N0 := Nb.mk' E nd
  have HK : Hid (True ∧ _) := ⟨trivial, And.intro hk (And.intro hnd (And.intro hN (And.intro N0 E)))⟩
  clear hk hnd evb hN N0 Hv E ek
  go_enter Tryz.func56, Tryz.ntmps56
  go_upto_region 4 with fail
  obtain ⟨_, hk, hnd, hN, N, E⟩ := HK.out
  obtain ⟨w2, hw2⟩ : ∃ w2, w2 = w.alloc (.cells #[.int .i64 nd.kind, .int .i64 nd.a, .int .i64 nd.b, .int .i64 nd.c, .int .i64 nd.nx, .int .i64 nd.val, .int .i64 nd.pos, .string nd.name] 145) := ⟨_, rfl⟩
  obtain ⟨nb, hnb⟩ : ∃ nb, nb = w.heap.size := ⟨_, rfl⟩
  rw [← hw2, ← hnb] at N
  rw [← hw2, ← hnb]
  have hlvn := N.lvn hnb
  clear hw2 hnb c10 c17 rlt n0 n1 n2 n3 n4 n5 n6 n7 HK ov O vlt E
  have d0 : nd.kind = 2 := by rw [hnd]
  have Bn := N.bk
  have m0 : w2.cell? ⟨nb, 0, none⟩ = some (.int .i64 nd.kind) := Bn.cell (o := 0) (by omega)
  have m1 : w2.cell? ⟨nb, 1, none⟩ = some (.int .i64 nd.a) := Bn.cell (o := 1) (by omega)
  have m2 : w2.cell? ⟨nb, 2, none⟩ = some (.int .i64 nd.b) := Bn.cell (o := 2) (by omega)
  have m3 : w2.cell? ⟨nb, 3, none⟩ = some (.int .i64 nd.c) := Bn.cell (o := 3) (by omega)
  have m4 : w2.cell? ⟨nb, 4, none⟩ = some (.int .i64 nd.nx) := Bn.cell (o := 4) (by omega)
  have m5 : w2.cell? ⟨nb, 5, none⟩ = some (.int .i64 nd.val) := Bn.cell (o := 5) (by omega)
  have m6 : w2.cell? ⟨nb, 6, none⟩ = some (.int .i64 nd.pos) := Bn.cell (o := 6) (by omega)
  rw [d0] at m0
  have nbl := Bn.lt
  clear d0 Bn
  obtain ⟨ha, hha⟩ : ∃ ha, ha = hdS b ss := ⟨_, rfl⟩
  have ea : nd.a = ha := by rw [hnd, hha]
  rw [ea] at m1
  obtain ⟨ml, hml⟩ : ∃ ml, ml = bodyI G.P0 (.sts b ss) s := ⟨_, rfl⟩
  have A0 : Ls G w2 Q lv w2 s 0 0 s ∧ (∀ r, EvI G.P0 (bodyI G.P0 (.sts b ss) s) r → EvI G.P0 ml r) := ⟨Ls.nil N.e2, fun r h => by rw [hml]; exact h⟩
  have HF : Hid (True ∧ _) := ⟨trivial, And.intro N (And.intro X (And.intro hf (And.intro hml hha)))⟩
  rw [← hml]
  clear N hnd hk X hN hf hml hha ea
  go_wp2_with fail
  go_loopg [11] (szSs ss) (fun gm xv wr => ∃ (b' : Nat) (xs : Stms), xv = .int .i64 (hdS b' xs) ∧ Lie G.ns b' (flSs b' xs) ∧ WtSs G.P0 li lr ret b' xs ∧ szSs xs ≤ gm ∧ szSs xs ≤ n ∧ ((∃ t, Ls G w2 Q lv wr s 0 0 t ∧ ∀ r, EvI G.P0 (bodyI G.P0 (.sts b' xs) t) r → EvI G.P0 ml r) ∨ Dl G w2 Q lv wr ml))
  case atStart => exact ⟨b, ss, by rw [HF.out.2.2.2.2.2], L, W, Nat.le_refl _, hn, .inl ⟨s, A0⟩⟩
  case round =>
    clear A0 m0 m1 m2 m3 m4 m5 m6 nbl
    obtain ⟨b', xs, rfl, L', W', hg, hn', A⟩ := hrel
    have Hg : Hid (True ∧ _) := ⟨trivial, And.intro hg hn'⟩
    clear hg hn'
    rcases A with ⟨t, S, hev⟩ | D
    · obtain ⟨_, N, X, hf, hml, -⟩ := HF.out
      obtain ⟨ov, O, Hv⟩ := S.ml.1
      have c17 := Hv.c17
      have rlt := Hv.rlt
      cases xs with
      | nil =>
        have hI : decide ((-1 : Int) ≥ 0) = false := rfl
        have HS : Hid (True ∧ _) := ⟨trivial, And.intro S hev⟩
        clear N X hf hml Hv S hev
        simp only [hdS]
        go_wp2_with fail
        go_ret2
        obtain ⟨_, N, X, hf, hml, _⟩ := HF.out
        obtain ⟨_, S, hev⟩ := HS.out
        refine ⟨false, 0, rfl, N.exf ?_⟩
        rw [← hml]
        refine ExF.map hev ?_
        simp only [bodyI]
        exact ExF.done 0 S
      | cons x xs =>
        obtain ⟨Lx, Lxs⟩ := L'.stms
        simp only [WtSs] at W'
        obtain ⟨nd', hnd', hnx'⟩ := Lx.rootS
        obtain ⟨_, hg, hn'⟩ := Hg.out
        have hsz := szS_pos x
        have hroot : rtS b' x = ((b' + szS x - 1 : Nat) : Int) := by unfold rtS; omega
        obtain ⟨rt, hrt⟩ : ∃ rt, rt = b' + szS x - 1 := ⟨_, rfl⟩
        rw [← hrt] at hroot hnd'
        have hge : decide (((rt : Nat) : Int) ≥ 0) = true := decide_eq_true (by omega)
        have hge2 : decide ((0 : Int) ≤ ((rt : Nat) : Int)) = true := decide_eq_true (by omega)
        have hrl : rt < G.ns.length := (List.getElem?_eq_some_iff.1 hnd').1
        have q := X.1 x (by simp only [szSs] at hn'; omega) wr (Gw Q w2 wr) t b' _ li lr lv ret (S.ev0 N.e2) (Int.le_trans S.rl.fu hf) Lx W'.1
        rw [← hrt, S.rl.rb] at q
        have hms : gk - szS x < gk ∧ szSs xs ≤ gk - szS x ∧ szSs xs ≤ n := by simp only [szSs] at hg hn'; omega
        have HQ : Hid (True ∧ _) := ⟨trivial, And.intro S (And.intro hev (And.intro Lxs (And.intro W'.2 (And.intro hnd' (And.intro hnx' hms)))))⟩
        simp only [hdS]
        rw [hroot]
        clear N X hf hml Hv S hev Lx Lxs L' W' hnd' hnx' hg hn' hsz hroot hrt hms
        go_wp2_with fail
        refine q.mono ?_
        rintro z w4 ⟨β, v, rfl, h⟩
        clear q c17 rlt
        obtain ⟨_, S, hev, Lxs, W', hnd', hnx', hms⟩ := HQ.out
        obtain ⟨_, N, X, hf, hml, -⟩ := HF.out
        have h := S.exf h
        rcases h with ⟨rfl, -, v0, t3, g3, S3⟩ | ⟨rfl, t3, g3, S3⟩ | ⟨rfl, D⟩
        · obtain ⟨ov, O, Hv⟩ := S3.ml.1
          have c10 := Hv.c10
          have rlt := Hv.rlt
          have hnl2 := Hv.an.nl
          obtain ⟨vb8, evb8, vlt8, _, _, _, _, _, n4, _⟩ := Hv.an.hv.at hnd'
          rw [evb8] at c10
          rw [hnx'] at n4
          have HT : Hid (True ∧ _) := ⟨trivial, And.intro g3 S3⟩
          clear N X hf hml S hev Lxs W' hnd' hnx' g3 S3 Hv evb8 h
          go_wp2_with fail
          go_roundg (gk - szS x)
          case measure => exact hms.1
          case rel =>
            obtain ⟨_, S, hev, Lxs, W', hnd', hnx', hms⟩ := HQ.out
            obtain ⟨_, g3, S3⟩ := HT.out
            refine ⟨b' + szS x, xs, rfl, Lxs, W', hms.2.1, hms.2.2, .inl ⟨t3, S3, fun r hr => hev r ?_⟩⟩
            simp only [bodyI]
            exact g3.ok hr.on
        · have HT : Hid (True ∧ _) := ⟨trivial, And.intro g3 S3⟩
          clear N X hf hml S hev Lxs W' hnd' hnx' g3 S3 h
          go_wp2_with fail
          go_ret2
          obtain ⟨_, N, X, hf, hml, _⟩ := HF.out
          obtain ⟨_, S, hev, Lxs, W', hnd', hnx', hms⟩ := HQ.out
          obtain ⟨_, g3, S3⟩ := HT.out
          refine ⟨true, v, rfl, N.exf ?_⟩
          rw [← hml]
          refine ExF.map hev (.inr (.inl ⟨rfl, t3, ?_, S3⟩))
          simp only [bodyI]
          exact g3.rt
        · have D0 := D
          obtain ⟨en, tt, s', a1, a2, a3, a4⟩ := D
          obtain ⟨ov, O, Hv⟩ := a3.1
          have c10 := Hv.c10
          have rlt := Hv.rlt
          have hnl2 := Hv.an.nl
          obtain ⟨vb8, evb8, vlt8, _, _, _, _, _, n4, _⟩ := Hv.an.hv.at hnd'
          rw [evb8] at c10
          rw [hnx'] at n4
          have HT : Hid (True ∧ _) := ⟨trivial, D0⟩
          clear N X hf hml S hev Lxs W' hnd' hnx' Hv evb8 h D0 a1 a2 a3 a4
          go_wp2_with fail
          go_roundg (gk - szS x)
          case measure => exact hms.1
          case rel =>
            obtain ⟨_, S, hev, Lxs, W', hnd', hnx', hms⟩ := HQ.out
            obtain ⟨en, tt, s', a1, a2⟩ := HT.out.2
            refine ⟨b' + szS x, xs, rfl, Lxs, W', hms.2.1, hms.2.2, .inr ⟨en, tt, s', hev _ ?_, a2⟩⟩
            simp only [bodyI]
            exact a1.stop
    · obtain ⟨en, he', c17, rlt⟩ := D.c17
      have yy : (en == 0) = false := by simpa using he'
      have HD : Hid (True ∧ _) := ⟨trivial, D⟩
      clear D he'
      by_cases hx : hdS b' xs ≥ 0
      · have z1 : decide (hdS b' xs ≥ 0) = true := decide_eq_true hx
        have z2 : decide ((0 : Int) ≤ hdS b' xs) = true := decide_eq_true hx
        generalize hdS b' xs = hx' at *
        go_wp2_with fail
        go_ret2
        obtain ⟨_, N, X, hf, hml, _⟩ := HF.out
        exact ⟨false, 0, rfl, N.exf (by rw [← hml]; exact .inr (.inr ⟨rfl, HD.out.2⟩))⟩
      · have z1 : decide (hdS b' xs ≥ 0) = false := decide_eq_false hx
        have z2 : decide ((0 : Int) ≤ hdS b' xs) = false := decide_eq_false hx
        generalize hdS b' xs = hx' at *
        go_wp2_with fail
        go_ret2
        obtain ⟨_, N, X, hf, hml, _⟩ := HF.out
        exact ⟨false, 0, rfl, N.exf (by rw [← hml]; exact .inr (.inr ⟨rfl, HD.out.2⟩))⟩
end Go.Proofs.Qxb6500277aGreat
