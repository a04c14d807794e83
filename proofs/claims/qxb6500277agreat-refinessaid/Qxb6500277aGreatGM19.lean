/- The definitional interpreter: exec: loops. -/
import Derived.Test.Qxb6500277aGreatGM17
namespace Go.Proofs.Qxb6500277aGreat
open Go Go.RowKit

section
variable {w w' w1 : World} {G : Gmx} {s t t' : Ss} {Q : Nat → Prop} {lv : Value} {du dr : Nat} {m : Mi}
theorem Ls.cat (h : Ls G w Q lv w' s 0 0 t) (k : Ls G w' (Gw Q w w') lv w1 t du dr t') : Ls G w Q lv w1 s du dr t' := ⟨h.ml.cat k.ml, k.lo, k.sb, by have := h.rl.trans k.rl; simpa using this⟩
theorem Ls.dcat (h : Ls G w Q lv w' s 0 0 t) (k : Dl G w' (Gw Q w w') lv w1 m) : Dl G w Q lv w1 m := by
  obtain ⟨e, x, y, a, b, c, d⟩ := k
  exact ⟨e, x, y, a, b, h.ml.cat c, d⟩
end
set_option maxRecDepth 100000 in
set_option maxHeartbeats 2000000 in
theorem ex_whl {G : Gmx} {fm : Int} {n : Nat} (I : EvC G fm n) (X : XeC G fm n) (p : Int) (e1 : Exp) (bp : Int) (ss : Stms) (he : szE e1 ≤ n) (hs : szSs ss + 1 ≤ n) {w : World} {Q : Nat → Prop} {s : Ss} {b : Nat} {nx : Int} {li lr : Nat} {lv : Value} {ret : Int} (E : Ev0 G w Q s lv li lr) (hf : s.fuel ≤ fm) (L : Lie G.ns b (flS b nx (.whl p e1 bp ss))) (W : WtS G.P0 li lr ret b (.whl p e1 bp ss)) : Calls Tryz.prog 56 #[.pointer (some ⟨G.r, 0, none⟩), .int .i64 ((b + szS (.whl p e1 bp ss) - 1 : Nat) : Int), lv, .int .i64 (s.rb : Nat)] w (ExR G w Q lv s ret (bodyI G.P0 (.st b (.whl p e1 bp ss)) s)) := by
  simp only [flS] at L
  obtain ⟨L1, L2, hN⟩ := L.eb
  clear L
  have ek : b + szS (.whl p e1 bp ss) - 1 = b + szE e1 + (szSs ss + 1) := by simp only [szS]; omega
  rw [ek]
  obtain ⟨k, hk⟩ : ∃ k, k = b + szE e1 + (szSs ss + 1) := ⟨_, rfl⟩
  obtain ⟨nd, hnd⟩ : ∃ nd : Nd, nd = ⟨6, rtE b e1, ((b + szE e1 + szSs ss : Nat) : Int), -1, nx, 0, p, ⟨#[]⟩⟩ := ⟨_, rfl⟩
  rw [← hk, ← hnd] at hN
  rw [← hk]
  obtain ⟨ov, O, Hv⟩ := E.H
  have c10 := Hv.c10
  have c17 := Hv.c17
  have rlt := Hv.rlt
  have hnl := Hv.an.nl
  obtain ⟨vb, evb, vlt, hkl, n0, n1, n2, n3, n4, n5, n6, n7⟩ := Hv.an.hv.at hN
  rw [evb] at c10
  have N0 := Nb.mk' E nd
  have HK : Hid (True ∧ _) := ⟨trivial, And.intro hk (And.intro hnd (And.intro hN (And.intro N0 E)))⟩
  clear hk hnd evb hN N0 Hv E ek
  go_enter Tryz.func56, Tryz.ntmps56
  go_upto_region 4 with fail
  obtain ⟨_, hk, hnd, hN, N, E⟩ := HK.out
  obtain ⟨w2, hw2⟩ : ∃ w2, w2 = w.alloc (.cells #[.int .i64 nd.kind, .int .i64 nd.a, .int .i64 nd.b, .int .i64 nd.c, .int .i64 nd.nx, .int .i64 nd.val, .int .i64 nd.pos, .string nd.name] 145) := ⟨_, rfl⟩
  obtain ⟨nb, hnb⟩ : ∃ nb, nb = w.heap.size := ⟨_, rfl⟩
  rw [← hw2, ← hnb] at N
  rw [← hw2, ← hnb]
  have hlvn := N.lvn hnb
  clear hw2 hnb c10 c17 rlt n0 n1 n2 n3 n4 n5 n6 n7 HK ov O vlt E
  have d0 : nd.kind = 6 := by rw [hnd]
  have Bn := N.bk
  have m0 : w2.cell? ⟨nb, 0, none⟩ = some (.int .i64 nd.kind) := Bn.cell (o := 0) (by omega)
  have m1 : w2.cell? ⟨nb, 1, none⟩ = some (.int .i64 nd.a) := Bn.cell (o := 1) (by omega)
  have m2 : w2.cell? ⟨nb, 2, none⟩ = some (.int .i64 nd.b) := Bn.cell (o := 2) (by omega)
  have m3 : w2.cell? ⟨nb, 3, none⟩ = some (.int .i64 nd.c) := Bn.cell (o := 3) (by omega)
  have m4 : w2.cell? ⟨nb, 4, none⟩ = some (.int .i64 nd.nx) := Bn.cell (o := 4) (by omega)
  have m5 : w2.cell? ⟨nb, 5, none⟩ = some (.int .i64 nd.val) := Bn.cell (o := 5) (by omega)
  have m6 : w2.cell? ⟨nb, 6, none⟩ = some (.int .i64 nd.pos) := Bn.cell (o := 6) (by omega)
  rw [d0] at m0
  have nbl := Bn.lt
  clear d0 Bn
  simp only [WtS] at W
  obtain ⟨W1, W2, W3⟩ := W
  obtain ⟨kb, hkb⟩ : ∃ kb, kb = b + szE e1 + szSs ss := ⟨_, rfl⟩
  have eb : nd.b = ((kb : Nat) : Int) := by rw [hnd, hkb]
  have ea : nd.a = rtE b e1 := by rw [hnd]
  obtain ⟨ml, hml⟩ : ∃ ml, ml = bodyI G.P0 (.loop b e1 ss) s := ⟨_, rfl⟩
  have hb0 : bodyI G.P0 (.st b (.whl p e1 bp ss)) s = .call (.loop b e1 ss) s goOn := by simp only [bodyI]
  have HF : Hid (True ∧ _) := ⟨trivial, And.intro N (And.intro I (And.intro X (And.intro hf (And.intro L1 (And.intro L2 (And.intro W1 (And.intro W2 (And.intro W3 (And.intro hkb (And.intro eb (And.intro ea (And.intro hml hb0))))))))))))⟩
  have A0 : Ls G w2 Q lv w2 s 0 0 s ∧ (∀ r, EvI G.P0 (bodyI G.P0 (.loop b e1 ss) s) r → EvI G.P0 ml r) := ⟨Ls.nil N.e2, fun r h => by rw [hml]; exact h⟩
  clear N hnd hk W1 W2 W3 I X hN L1 L2 hf hkb eb ea hml hb0
  go_wp2_with fail
  go_loopg [] (s.fuel.toNat + 1) (fun gm wr => (∃ t, gm = t.fuel.toNat + 1 ∧ Ls G w2 Q lv wr s 0 0 t ∧ ∀ r, EvI G.P0 (bodyI G.P0 (.loop b e1 ss) t) r → EvI G.P0 ml r) ∨ (gm = 0 ∧ Dl G w2 Q lv wr ml))
  case atStart => exact .inl ⟨s, rfl, A0⟩
  case round =>
    clear A0 m0 m1 m2 m3 m4 m5 m6 nbl
    rcases hrel with ⟨t, hg, S, hev⟩ | ⟨hg, D⟩
    · have hg' : gk = t.fuel.toNat + 1 := hg
      have Hg : Hid (True ∧ _) := ⟨trivial, hg'⟩
      clear hg hg'
      obtain ⟨_, N, I, X, hf, L1, L2, W1, W2, W3, hkb, eb, ea, hml, hb0⟩ := HF.out
      obtain ⟨ov, O, Hv⟩ := S.ml.1
      have c17 := Hv.c17
      have rlt := Hv.rlt
      have Bn := S.ml.blk N.bk N.np hlvn
      have m1 : wr.cell? ⟨nb, 1, none⟩ = some (.int .i64 nd.a) := Bn.cell (o := 1) (by omega)
      have nbl := Bn.lt
      have q := I e1 he wr (Gw Q w2 wr) t b _ nd.a li lr lv (S.ev0 N.e2) (Int.le_trans S.rl.fu hf) L1 ea W1
      unfold EvR at q
      rw [(duT_i W2).1, (duT_i W2).2, S.rl.rb] at q
      have HS : Hid (True ∧ _) := ⟨trivial, And.intro S hev⟩
      clear N I X hf L1 L2 W1 W2 W3 hkb eb ea hml hb0 Hv Bn S hev
      go_wp2_with fail
      refine q.mono ?_
      rintro z w3 ⟨v1, rfl, h⟩
      clear q c17 rlt m1 nbl
      obtain ⟨_, N, I, X, hf, L1, L2, W1, W2, W3, hkb, eb, ea, hml, hb0⟩ := HF.out
      obtain ⟨_, S, hev⟩ := HS.out
      rcases h with h | h
      · obtain ⟨t1, g1, b1, c1, d1, l1⟩ := h
        have S1 : Ls G w2 Q lv w3 s 1 0 t1 := ⟨S.ml.up b1, by rw [l1]; exact S.lo.frame b1.2.1 fun b hb x => (S.ev0 N.e2).lq b hb x, c1, by have := S.rl.trans d1; simpa using this⟩
        have hfu1 : t1.fuel ≤ t.fuel := d1.fu
        clear b1 c1 d1
        obtain ⟨ov, O, Hv⟩ := S1.ml.1
        have c17 := Hv.c17
        have c15 := Hv.c15
        have rlt := Hv.rlt
        have hz := Hv.blk.frozen
        have hnbr : nb ≠ G.r := fun e => N.np (e ▸ N.rQ)
        have Bn := S1.ml.blk N.bk N.np hlvn
        have m2 : w3.cell? ⟨nb, 2, none⟩ = some (.int .i64 nd.b) := Bn.cell (o := 2) (by omega)
        rw [eb] at m2
        have nbl := Bn.lt
        have u0 := S1.sb.u0
        have u48 := S1.sb.u48
        have S2 := S1.dropU N.e2
        have e1' : wrap64 (t1.us - 1) = t1.us - 1 := by simp only [wrap64]; omega
        by_cases hv : v1 = 0
        · have HM : Hid (True ∧ _) := ⟨trivial, And.intro g1 S2⟩
          subst hv
          clear N I X hf L1 L2 W1 W2 W3 hkb eb ea hml hb0 S hev g1 S1 l1 Hv Bn S2 hfu1
          go_wp2_with fail
          go_ret2
          obtain ⟨_, N, _, _, _, _, _, _, _, _, _, _, _, hml, hb0⟩ := HF.out
          obtain ⟨_, S, hev⟩ := HS.out
          obtain ⟨_, g1, S2⟩ := HM.out
          refine ⟨false, 0, rfl, N.exf ?_⟩
          rw [hb0]
          refine ExF.on ?_
          rw [← hml]
          refine ExF.map hev ?_
          simp only [bodyI]
          refine ExF.call g1 ?_
          rw [if_pos rfl]
          exact ExF.done 0 S2
        · have yv : (v1 == 0) = false := by simpa using hv
          obtain ⟨L3, L4⟩ := L2.blk
          obtain ⟨t2, ht2⟩ : ∃ t2 : Ss, t2 = { t1 with us := t1.us - 1 } := ⟨_, rfl⟩
          rw [← ht2] at S2
          have q2 := X.2 ss hs _ _ _ (b + szE e1) kb bp li lr lv ret (S2.ev0 N.e2) (Int.le_trans S2.rl.fu hf) L3 (by rw [hkb]; exact L4) W3
          rw [S2.rl.rb] at q2
          have HM : Hid (True ∧ _) := ⟨trivial, And.intro g1 (And.intro S2 (And.intro hv (And.intro hfu1 ht2)))⟩
          clear N I X hf L1 L2 L3 L4 W1 W2 W3 hkb eb ea hml hb0 S hev g1 S1 l1 Hv Bn S2 hv hfu1 ht2
          go_wp2_with fail
          refine q2.mono ?_
          rintro z w4 ⟨β, v, rfl, h⟩
          clear q2 c17 c15 rlt hz m2 nbl e1'
          obtain ⟨_, N, I, X, hf, L1, L2, W1, W2, W3, hkb, eb, ea, hml, hb0⟩ := HF.out
          obtain ⟨_, S, hev⟩ := HS.out
          obtain ⟨_, g1, S2, hv, hfu1, ht2⟩ := HM.out
          rcases h with ⟨rfl, -, v0, t3, g3, S3'⟩ | ⟨rfl, t3, g3, S3'⟩ | ⟨rfl, D'⟩
          · have hfu2 : t3.fuel ≤ t.fuel := Int.le_trans S3'.rl.fu (by rw [ht2]; exact hfu1)
            have S3 := S2.cat S3'
            clear S3'
            obtain ⟨ov, O, Hv⟩ := S3.ml.1
            have c17 := Hv.c17
            have rlt := Hv.rlt
            have q3 := S3.ml.mm.spend S3.sb.f0 S3.sb.f1
            have HT : Hid (True ∧ _) := ⟨trivial, And.intro g3 S3⟩
            clear N I X hf L1 L2 W1 W2 W3 hkb eb ea hml hb0 S hev g1 S2 hv g3 S3 Hv hfu1 ht2
            go_wp2_with fail
            refine q3.mono ?_
            rintro z w5 ⟨rfl, h5⟩
            have H5 : Hid (True ∧ _) := ⟨trivial, h5⟩
            clear q3 h5 c17 rlt
            go_wp2_with fail
            obtain ⟨_, S, hev⟩ := HS.out
            obtain ⟨_, g1, S2, hv, _, ht2⟩ := HM.out
            obtain ⟨_, g3, S3⟩ := HT.out
            obtain ⟨_, hg'⟩ := Hg.out
            obtain ⟨_, N, _⟩ := HF.out
            have hfu := S3.rl.fu
            rcases H5.out.2 with ⟨f0, M5⟩ | ⟨f0, M5⟩
            · go_roundg 0
              case measure => omega
              case rel =>
                refine .inr ⟨rfl, 22, t3, t3, hev _ ?_, by decide, S3.ml.up M5, rfl, rfl, S3.sb.r24, S3.sb.ou⟩
                simp only [bodyI]
                refine g1.ok ?_
                rw [if_neg hv, ← ht2]
                refine g3.ok ?_
                rw [if_pos f0]
                exact EvI.ret _
            · go_roundg ((t3.fuel - 1).toNat + 1)
              case measure => omega
              case rel =>
                refine .inl ⟨{ t3 with fuel := t3.fuel - 1 }, rfl, ⟨S3.ml.up M5, S3.lo.frame M5.2.1 fun b hb x => (S3.ev0 N.e2).lq b hb x, ⟨S3.sb.u0, S3.sb.u48, S3.sb.r24, S3.sb.mi, S3.sb.ou, ?_, ?_, S3.sb.ip, S3.sb.il⟩, ⟨S3.rl.rb, S3.rl.ll, S3.rl.us, S3.rl.rt, ?_⟩⟩, fun r hr => hev r ?_⟩
                · show t3.fuel - 1 ≤ 9223372036854775807
                  have := S3.sb.f1
                  omega
                · show -9223372036854775808 ≤ t3.fuel - 1
                  omega
                · show t3.fuel - 1 ≤ s.fuel
                  omega
                · simp only [bodyI]
                  refine g1.ok ?_
                  rw [if_neg hv, ← ht2]
                  refine g3.ok ?_
                  rw [if_neg (by omega)]
                  exact hr.on
          · have S3 := S2.cat S3'
            have HT : Hid (True ∧ _) := ⟨trivial, And.intro g3 S3⟩
            clear N I X hf L1 L2 W1 W2 W3 hkb eb ea hml hb0 S hev g1 S2 hv g3 S3 S3' hfu1 ht2
            go_wp2_with fail
            go_ret2
            obtain ⟨_, N, _, _, _, _, _, _, _, _, _, _, _, hml, hb0⟩ := HF.out
            obtain ⟨_, S, hev⟩ := HS.out
            obtain ⟨_, g1, S2, hv, _, ht2⟩ := HM.out
            obtain ⟨_, g3, S3⟩ := HT.out
            refine ⟨true, v, rfl, N.exf ?_⟩
            rw [hb0]
            refine ExF.on ?_
            rw [← hml]
            refine ExF.map hev (.inr (.inl ⟨rfl, t3, ?_, S3⟩))
            simp only [bodyI]
            refine g1.ok ?_
            rw [if_neg hv, ← ht2]
            exact g3.rt
          · have D := S2.dcat D'
            obtain ⟨en, he', c17, rlt⟩ := D.c17
            have yy : (en == 0) = false := by simpa using he'
            have HT : Hid (True ∧ _) := ⟨trivial, D⟩
            clear N I X hf L1 L2 W1 W2 W3 hkb eb ea hml hb0 S hev g1 S2 hv D he' D' hfu1 ht2
            go_wp2_with fail
            obtain ⟨_, S, hev⟩ := HS.out
            obtain ⟨_, g1, S2, hv, _, ht2⟩ := HM.out
            obtain ⟨_, hg'⟩ := Hg.out
            go_roundg 0
            case measure => omega
            case rel =>
              obtain ⟨en', tt, s', a1, a2, a3⟩ := HT.out.2
              refine .inr ⟨rfl, en', tt, s', hev _ ?_, a2, a3⟩
              simp only [bodyI]
              refine g1.ok ?_
              rw [if_neg hv, ← ht2]
              exact a1.stop
      · obtain ⟨en, he', c17, rlt⟩ := h.c17
        have yy : (en != 0) = true := by simpa using he'
        have HD : Hid (True ∧ _) := ⟨trivial, h⟩
        clear N I X hf L1 L2 W1 W2 W3 hkb eb ea hml hb0 S hev h he'
        go_wp2_with fail
        go_ret2
        obtain ⟨_, N, _, _, _, _, _, _, _, _, _, _, _, hml, hb0⟩ := HF.out
        obtain ⟨_, S, hev⟩ := HS.out
        refine ⟨false, 0, rfl, N.exf ?_⟩
        rw [hb0]
        refine ExF.on ?_
        rw [← hml]
        refine ExF.map hev ?_
        simp only [bodyI]
        exact ExF.dead (S.dead HD.out.2)
    · obtain ⟨en, he', c17, rlt⟩ := D.c17
      have yy : (en == 0) = false := by simpa using he'
      have HD : Hid (True ∧ _) := ⟨trivial, D⟩
      clear D he'
      go_wp2_with fail
      go_ret2
      obtain ⟨_, N, _, _, _, _, _, _, _, _, _, _, _, hml, hb0⟩ := HF.out
      refine ⟨false, 0, rfl, N.exf ?_⟩
      rw [hb0]
      refine ExF.on ?_
      rw [← hml]
      exact .inr (.inr ⟨rfl, HD.out.2⟩)
end Go.Proofs.Qxb6500277aGreat
