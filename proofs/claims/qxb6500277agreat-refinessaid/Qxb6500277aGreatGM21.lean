/- The definitional interpreter: exec: assignment to a variable. -/
import Derived.Test.Qxb6500277aGreatGM17
namespace Go.Proofs.Qxb6500277aGreat
open Go Go.RowKit

set_option maxRecDepth 100000 in
set_option maxHeartbeats 2000000 in
theorem ex_asgv {G : Gmx} (K : G.Ok) {fm : Int} {n : Nat} (I : EvC G fm n) (p : Int) (nm : ByteArray) (q : Int) (c : Exp) (hc : szE c ≤ n) {w : World} {Q : Nat → Prop} {s : Ss} {b : Nat} {nx : Int} {li lr : Nat} {lv : Value} {ret : Int} (E : Ev0 G w Q s lv li lr) (hf : s.fuel ≤ fm) (L : Lie G.ns b (flS b nx (.asg p (.var nm q) c))) (W : WtS G.P0 li lr ret b (.asg p (.var nm q) c)) : Calls Tryz.prog 56 #[.pointer (some ⟨G.r, 0, none⟩), .int .i64 ((b + szS (.asg p (.var nm q) c) - 1 : Nat) : Int), lv, .int .i64 (s.rb : Nat)] w (ExR G w Q lv s ret (bodyI G.P0 (.st b (.asg p (.var nm q) c)) s)) := by
  simp only [flS] at L
  obtain ⟨L1, L2, hN⟩ := L.two
  clear L
  have ek : b + szS (.asg p (.var nm q) c) - 1 = b + szE (.var nm q) + szE c := by simp only [szS]; omega
  rw [ek]
  obtain ⟨k, hk⟩ : ∃ k, k = b + szE (.var nm q) + szE c := ⟨_, rfl⟩
  obtain ⟨nd, hnd⟩ : ∃ nd : Nd, nd = ⟨4, rtE b (.var nm q), rtE (b + szE (.var nm q)) c, -1, nx, 0, p, ⟨#[]⟩⟩ := ⟨_, rfl⟩
  rw [← hk, ← hnd] at hN
  rw [← hk]
  obtain ⟨ov, O, Hv⟩ := E.H
  have c10 := Hv.c10
  have c17 := Hv.c17
  have rlt := Hv.rlt
  have hnl := Hv.an.nl
  obtain ⟨vb, evb, vlt, hkl, n0, n1, n2, n3, n4, n5, n6, n7⟩ := Hv.an.hv.at hN
  rw [evb] at c10
  have N0 := Nb.mk' E nd
  have HK : Hid (True ∧ _) := ⟨trivial, And.intro hk (And.intro hnd (And.intro hN (And.intro N0 E)))⟩
  clear hk hnd evb hN N0 Hv E ek
  go_enter Tryz.func56, Tryz.ntmps56
  go_upto_region 4 with fail
  obtain ⟨_, hk, hnd, hN, N, E⟩ := HK.out
  obtain ⟨w2, hw2⟩ : ∃ w2, w2 = w.alloc (.cells #[.int .i64 nd.kind, .int .i64 nd.a, .int .i64 nd.b, .int .i64 nd.c, .int .i64 nd.nx, .int .i64 nd.val, .int .i64 nd.pos, .string nd.name] 145) := ⟨_, rfl⟩
  obtain ⟨nb, hnb⟩ : ∃ nb, nb = w.heap.size := ⟨_, rfl⟩
  rw [← hw2, ← hnb] at N
  rw [← hw2, ← hnb]
  have hlvn := N.lvn hnb
  clear hw2 hnb c10 c17 rlt n0 n1 n2 n3 n4 n5 n6 n7 HK ov O vlt E
  have d0 : nd.kind = 4 := by rw [hnd]
  have Bn := N.bk
  have m0 : w2.cell? ⟨nb, 0, none⟩ = some (.int .i64 nd.kind) := Bn.cell (o := 0) (by omega)
  have m1 : w2.cell? ⟨nb, 1, none⟩ = some (.int .i64 nd.a) := Bn.cell (o := 1) (by omega)
  have m2 : w2.cell? ⟨nb, 2, none⟩ = some (.int .i64 nd.b) := Bn.cell (o := 2) (by omega)
  have m3 : w2.cell? ⟨nb, 3, none⟩ = some (.int .i64 nd.c) := Bn.cell (o := 3) (by omega)
  have m4 : w2.cell? ⟨nb, 4, none⟩ = some (.int .i64 nd.nx) := Bn.cell (o := 4) (by omega)
  have m5 : w2.cell? ⟨nb, 5, none⟩ = some (.int .i64 nd.val) := Bn.cell (o := 5) (by omega)
  have m6 : w2.cell? ⟨nb, 6, none⟩ = some (.int .i64 nd.pos) := Bn.cell (o := 6) (by omega)
  rw [d0] at m0
  have nbl := Bn.lt
  clear d0 Bn
  simp only [WtS] at W
  obtain ⟨W1, W2, W3⟩ := W
  have hl1 : G.ns[b]? = some ⟨12, -1, -1, -1, -1, 0, q, nm⟩ := L1.one
  obtain ⟨ln, hln⟩ : ∃ ln : Nd, ln = ⟨12, -1, -1, -1, -1, 0, q, nm⟩ := ⟨_, rfl⟩
  rw [← hln] at hl1
  have ea : nd.a = ((b : Nat) : Int) := by rw [hnd]; exact rtE_nat b _
  rw [ea] at m1
  obtain ⟨ov, O, Hv⟩ := (N.e2.H.same ((Fr.refl (fun _ => False) w2).drew))
  have c10 := Hv.c10
  have rlt := Hv.rlt
  obtain ⟨vb2, evb, vlt, hbl, n0, n1, n2, n3, n4, n5, n6, n7⟩ := Hv.an.hv.at hl1
  rw [evb] at c10
  have hnl2 := Hv.an.nl
  have k3 : Fr (fun _ => False) w2 ((w2.alloc (.cells #[.int .i64 ln.kind, .int .i64 ln.a, .int .i64 ln.b, .int .i64 ln.c, .int .i64 ln.nx, .int .i64 ln.val, .int .i64 ln.pos, .string ln.name] 145)).drew) := ((Fr.refl (fun _ => False) w2).alloc _).drew
  have b3 := (ndC_blk w2 ln).drew
  have m0d : w2.drew.cell? ⟨nb, 0, none⟩ = some (.int .i64 4) := m0
  have m1d : w2.drew.cell? ⟨nb, 1, none⟩ = some (.int .i64 ((b : Nat) : Int)) := m1
  have nbld : nb < w2.drew.heap.size := nbl
  have HF : Hid (True ∧ _) := ⟨trivial, And.intro N (And.intro hnd (And.intro ea (And.intro I (And.intro hf (And.intro L2 (And.intro W1 (And.intro W2 (And.intro W3 (And.intro K (And.intro k3 (And.intro b3 hln)))))))))))⟩
  clear N hnd hk ea I hf L1 L2 W1 W2 W3 K k3 b3 hln hN hl1 Hv evb
  go_upto_region 16 with fail
  refine wp_region_text (by kernel_rfl) (by kernel_rfl) ?_
  go_wp2_with fail
  refine ⟨by kernel_rfl, ?_⟩
  obtain ⟨w3, hw3⟩ : ∃ w3, w3 = (w2.alloc (.cells #[.int .i64 ln.kind, .int .i64 ln.a, .int .i64 ln.b, .int .i64 ln.c, .int .i64 ln.nx, .int .i64 ln.val, .int .i64 ln.pos, .string ln.name] 145)).drew := ⟨_, rfl⟩
  rw [← hw3]
  obtain ⟨lb, hlb⟩ : ∃ lb, lb = w2.heap.size := ⟨_, rfl⟩
  rw [← hlb]
  obtain ⟨_, N, hnd, ea, I, hf, L2, W1, W2, W3, K, k3, b3, hln⟩ := HF.out
  rw [← hw3] at k3 b3
  rw [← hlb] at b3
  have E3 := N.e2.same k3
  have hlbq : ¬ Q lb := fun x => by have := N.e2.H.lt lb x; omega
  have hlbv : ¬ isB lv lb := fun x => by have := N.e2.loc.bk x; omega
  have Bn := N.bk.frame k3 fun h => h
  have m0 : w3.cell? ⟨lb, 0, none⟩ = some (.int .i64 ln.kind) := b3.cell (o := 0) (by omega)
  have m1 : w3.cell? ⟨lb, 1, none⟩ = some (.int .i64 ln.a) := b3.cell (o := 1) (by omega)
  have d0 : ln.kind = 12 := by rw [hln]
  rw [d0] at m0
  have lbl := b3.lt
  have m2 : w3.cell? ⟨nb, 2, none⟩ = some (.int .i64 nd.b) := Bn.cell (o := 2) (by omega)
  have nbl := Bn.lt
  have e1z : szE (.var nm q) = 1 := rfl
  have q1 := I c hc w3 Q s (b + 1) _ nd.b li lr lv E3 hf L2 (by rw [hnd]; rfl) W1
  have HE : Hid (True ∧ _) := ⟨trivial, And.intro E3 (And.intro Bn k3)⟩
  clear N hnd ea I hf L2 W1 W2 W3 K k3 b3 hln hw3 hlb E3 hlbq hlbv Bn d0 c10 rlt n0 n1 n2 n3 n4 n5 n6 n7 vlt m0d m1d nbld e1z
  go_wp2_with fail
  refine q1.mono ?_
  rintro z w4 ⟨v1, rfl, h⟩
  clear q1 m0 m1 m2 lbl nbl
  obtain ⟨_, N, hnd, ea, I, hf, L2, W1, W2, W3, K, k3, b3, hln⟩ := HF.out
  obtain ⟨_, E3, Bn3, k3w⟩ := HE.out
  have kd : Fr (fun _ => False) w4 w4.drew := (Fr.refl _ w4).drew
  have Bn := (Bn3.frame h.fr N.np).frame kd fun h => h
  have m1 : w4.drew.cell? ⟨nb, 1, none⟩ = some (.int .i64 nd.a) := Bn.cell (o := 1) (by omega)
  rw [ea] at m1
  have nbl := Bn.lt
  have hki : (b : Int) < G.ns.length := by omega
  rcases h with h | h
  · obtain ⟨t1, g1, S1, l1⟩ := h.ls E3
    have S1d : Ls G w3 Q lv w4.drew s (duT (tyA G.P0 (rtN (b + 1) c))) (drT (tyA G.P0 (rtN (b + 1) c))) t1 := ⟨S1.ml.same kd, S1.lo.frame kd fun _ _ x => x, S1.sb, S1.rl⟩
    have q2 : Calls Tryz.prog 80 #[.pointer (some ⟨G.r, 0, none⟩), .int .i64 (b : Nat), .int .i64 (tyA G.P0 b), .int .i64 v1, lv, .int .i64 (s.rb : Nat)] w4.drew fun e w' => e = .returned (.tuple #[]) ∧ ∃ t', StR G w3 Q lv s t1 b (tyA G.P0 b) v1 w' t' := by
      by_cases ho : 2 ≤ tyA G.P0 b
      · have := W2.1 ho
        rw [(duT_r this).1, (duT_r this).2] at S1d
        unfold slotOk at W3
        rw [if_pos ho] at W3
        exact store_r K E3 S1d (by omega) ho W3
      · have h2 : tyA G.P0 (rtN (b + 1) c) < 2 := by
          have := fun x => ho (W2.2 x)
          omega
        rw [(duT_i h2).1, (duT_i h2).2] at S1d
        unfold slotOk at W3
        rw [if_neg ho] at W3
        exact store_i K E3 S1d (by omega) (by omega) W3
    obtain ⟨ov, O, Hv⟩ := S1d.ml.1
    have rlt := Hv.rlt
    obtain ⟨tb, etb, tlt, tc⟩ := Hv.an.ht.at (i := b) (by rw [K.tl]; omega)
    have c4 := Hv.c4
    rw [etb, K.tl] at c4
    have ety : G.P0.ty.getD b (-1) = tyA G.P0 b := rfl
    rw [ety] at tc
    have HM : Hid (True ∧ _) := ⟨trivial, g1⟩
    clear N hnd ea I hf L2 W1 W2 W3 K k3 b3 hln E3 Bn3 Bn kd g1 S1 S1d l1 h Hv etb ety k3w
    go_upto_region 19 with fail
    refine wp_region_text (by kernel_rfl) (by kernel_rfl) ?_
    go_wp2_with fail
    refine q2.mono ?_
    rintro z w5 ⟨rfl, t2, h2⟩
    have HG : Hid (True ∧ _) := ⟨trivial, h2⟩
    clear q2 h2
    go_wp2_with fail
    refine ⟨by kernel_rfl, ?_⟩
    go_wp2_with fail
    go_ret2
    obtain ⟨_, N, hnd, ea, I, hf, L2, W1, W2, W3, K, k3, b3, hln⟩ := HF.out
    obtain ⟨_, E3, _, k3w⟩ := HE.out
    refine ⟨false, 0, rfl, N.exf (ExF.pre k3w N.e2.lt.1 N.e2.lt.2 ?_)⟩
    simp only [bodyI]
    refine ExF.call HM.out.2 ?_
    rw [HG.out.2.eq]
    exact ExF.done 0 HG.out.2.ls
  · obtain ⟨en, he, c17, rlt⟩ := h.c17
    have q2 := store_dead (w := w4.drew) (G := G) (x := .int .i64 (b : Nat)) (ty := .int .i64 (tyA G.P0 b)) (v := .int .i64 v1) (lv := lv) (rb := .int .i64 (s.rb : Nat)) he c17
    have HD : Hid (True ∧ _) := ⟨trivial, h.same kd⟩
    obtain ⟨_, _, s', _, _, h3, _⟩ := h
    have h3d := h3.same kd
    obtain ⟨ov, O, Hv⟩ := h3d.1
    have rlt := Hv.rlt
    obtain ⟨tb, etb, tlt, tc⟩ := Hv.an.ht.at (i := b) (by rw [K.tl]; omega)
    have c4 := Hv.c4
    rw [etb, K.tl] at c4
    have ety : G.P0.ty.getD b (-1) = tyA G.P0 b := rfl
    rw [ety] at tc
    clear N hnd ea I hf L2 W1 W2 W3 K k3 b3 hln E3 Bn3 Bn kd he h3 h3d Hv etb ety k3w
    go_upto_region 19 with fail
    refine wp_region_text (by kernel_rfl) (by kernel_rfl) ?_
    go_wp2_with fail
    refine q2.mono ?_
    rintro z w5 ⟨rfl, hw5⟩
    subst w5
    clear q2
    go_wp2_with fail
    refine ⟨by kernel_rfl, ?_⟩
    go_wp2_with fail
    go_ret2
    obtain ⟨_, N, hnd, ea, I, hf, L2, W1, W2, W3, K, k3, b3, hln⟩ := HF.out
    obtain ⟨_, E3, _, k3w⟩ := HE.out
    refine ⟨false, 0, rfl, N.exf (ExF.pre k3w N.e2.lt.1 N.e2.lt.2 ?_)⟩
    simp only [bodyI]
    exact ExF.dead (HD.out.2.dl lv)
end Go.Proofs.Qxb6500277aGreat
