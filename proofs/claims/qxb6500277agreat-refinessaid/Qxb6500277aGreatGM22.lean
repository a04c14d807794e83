/- The definitional interpreter: exec: assignment to an element. -/
import Derived.Test.Qxb6500277aGreatGM17
namespace Go.Proofs.Qxb6500277aGreat
open Go Go.RowKit

/-- A statement under way: the run goes on, or it is over. -/
def LD (G : Gmx) (w : World) (Q : Nat → Prop) (lv : Value) (w' : World) (s : Ss) (du dr : Nat) (k : Ss → Mi) (mw : Mi) : Prop := (∃ t, Ls G w Q lv w' s du dr t ∧ ∀ r, EvI G.P0 (k t) r → EvI G.P0 mw r) ∨ Dl G w Q lv w' mw
theorem LD.fr {G : Gmx} {w w' : World} {Q : Nat → Prop} {lv : Value} {s : Ss} {du dr : Nat} {k : Ss → Mi} {mw : Mi} (h : LD G w Q lv w' s du dr k mw) : Fr (fun b => Q b ∨ isB lv b) w w' := by
  rcases h with ⟨t, S, _⟩ | ⟨_, _, _, _, _, h, _⟩
  · exact S.ml.2.1
  · exact h.2.1
theorem evLD {G : Gmx} {fm : Int} {n : Nat} (I : EvC G fm n) {e : Exp} (he : szE e ≤ n) {w w' : World} {Q : Nat → Prop} {lv : Value} {s : Ss} {du dr li lr b : Nat} {nx x : Int} {k : Int → Ss → Mi} {mw : Mi} (E : Ev0 G w Q s lv li lr) (hf : s.fuel ≤ fm) (A : LD G w Q lv w' s du dr (fun t => .call (.ev b e) t k) mw) (L : Lie G.ns b (flE b nx e)) (hx : x = rtE b e) (W : WtE G.P0 li lr b e) :
    Calls Tryz.prog 79 #[.pointer (some ⟨G.r, 0, none⟩), .int .i64 x, lv, .int .i64 (s.rb : Nat)] w' fun z w1 => ∃ v, z = .returned (.int .i64 v) ∧ LD G w Q lv w1 s (du + duT (tyA G.P0 (rtN b e))) (dr + drT (tyA G.P0 (rtN b e))) (k v) mw := by
  rcases A with ⟨t, S, hev⟩ | D
  · have q := I e he w' (Gw Q w w') t b nx x li lr lv (S.ev0 E) (Int.le_trans S.rl.fu hf) L hx W
    rw [S.rl.rb] at q
    refine q.mono ?_
    rintro z w1 ⟨v, rfl, h | h⟩
    · obtain ⟨t', g, S', _⟩ := S.live E h
      exact ⟨v, rfl, .inl ⟨t', S', fun r hr => hev r (g.ok hr)⟩⟩
    · obtain ⟨en, tt, s', a, b⟩ := S.dead h
      exact ⟨v, rfl, .inr ⟨en, tt, s', hev _ a.stop, b⟩⟩
  · obtain ⟨en, he', c17, rlt⟩ := D.c17
    refine (eval_dead (G := G) (x := .int .i64 x) (lv := lv) (rb := .int .i64 (s.rb : Nat)) he' c17).mono ?_
    rintro z w1 ⟨rfl, hw1⟩
    subst w1
    exact ⟨0, rfl, .inr D⟩
theorem Ml.re' {G : Gmx} {w0 w : World} {Q : Nat → Prop} {lv : Value} {s s' : Ss} {en : Int} (h : Ml G w0 Q lv w s en) (h1 : s'.ip = s.ip) (h2 : s'.fuel = s.fuel) (h3 : s'.us = s.us) (h4 : s'.M = s.M) (h5 : s'.out = s.out) : Ml G w0 Q lv w s' en := ⟨h.1.re h1 h2 h3 h4 h5, h.2⟩
set_option maxRecDepth 100000 in
set_option maxHeartbeats 2000000 in
theorem ex_asgr {G : Gmx} (K : G.Ok) {fm : Int} {n : Nat} (I : EvC G fm n) (p q : Int) (a i c : Exp) (ha : szE a ≤ n) (hi : szE i ≤ n) (hc : szE c ≤ n) {w : World} {Q : Nat → Prop} {s : Ss} {b : Nat} {nx : Int} {li lr : Nat} {lv : Value} {ret : Int} (E : Ev0 G w Q s lv li lr) (hf : s.fuel ≤ fm) (ht : 2 ≤ tyA G.P0 (rtN (b + (szE a + szE i + 1)) c)) (L : Lie G.ns b (flS b nx (.asg p (.idx q a i) c))) (W : WtS G.P0 li lr ret b (.asg p (.idx q a i) c)) : Calls Tryz.prog 56 #[.pointer (some ⟨G.r, 0, none⟩), .int .i64 ((b + szS (.asg p (.idx q a i) c) - 1 : Nat) : Int), lv, .int .i64 (s.rb : Nat)] w (ExR G w Q lv s ret (bodyI G.P0 (.st b (.asg p (.idx q a i) c)) s)) := by
  simp only [flS] at L
  obtain ⟨L1, L2, hN⟩ := L.two
  clear L
  have ez : szE (.idx q a i) = szE a + szE i + 1 := rfl
  rw [ez] at L2 hN
  have ek : b + szS (.asg p (.idx q a i) c) - 1 = b + (szE a + szE i + 1) + szE c := by simp only [szS]; omega
  rw [ek]
  obtain ⟨k, hk⟩ : ∃ k, k = b + (szE a + szE i + 1) + szE c := ⟨_, rfl⟩
  obtain ⟨nd, hnd⟩ : ∃ nd : Nd, nd = ⟨4, rtE b (.idx q a i), rtE (b + (szE a + szE i + 1)) c, -1, nx, 0, p, ⟨#[]⟩⟩ := ⟨_, rfl⟩
  rw [← hk, ← hnd] at hN
  rw [← hk]
  obtain ⟨ov, O, Hv⟩ := E.H
  have c10 := Hv.c10
  have c17 := Hv.c17
  have rlt := Hv.rlt
  have hnl := Hv.an.nl
  obtain ⟨vb, evb, vlt, hkl, n0, n1, n2, n3, n4, n5, n6, n7⟩ := Hv.an.hv.at hN
  rw [evb] at c10
  have N0 := Nb.mk' E nd
  have HK : Hid (True ∧ _) := ⟨trivial, And.intro hk (And.intro hnd (And.intro hN (And.intro N0 E)))⟩
  clear hk hnd evb hN N0 Hv E ek
  go_enter Tryz.func56, Tryz.ntmps56
  go_upto_region 4 with fail
  obtain ⟨_, hk, hnd, hN, N, E⟩ := HK.out
  obtain ⟨w2, hw2⟩ : ∃ w2, w2 = w.alloc (.cells #[.int .i64 nd.kind, .int .i64 nd.a, .int .i64 nd.b, .int .i64 nd.c, .int .i64 nd.nx, .int .i64 nd.val, .int .i64 nd.pos, .string nd.name] 145) := ⟨_, rfl⟩
  obtain ⟨nb, hnb⟩ : ∃ nb, nb = w.heap.size := ⟨_, rfl⟩
  rw [← hw2, ← hnb] at N
  rw [← hw2, ← hnb]
  have hlvn := N.lvn hnb
  clear hw2 hnb c10 c17 rlt n0 n1 n2 n3 n4 n5 n6 n7 HK ov O vlt E
  have d0 : nd.kind = 4 := by rw [hnd]
  have Bn := N.bk
  have m0 : w2.cell? ⟨nb, 0, none⟩ = some (.int .i64 nd.kind) := Bn.cell (o := 0) (by omega)
  have m1 : w2.cell? ⟨nb, 1, none⟩ = some (.int .i64 nd.a) := Bn.cell (o := 1) (by omega)
  have m2 : w2.cell? ⟨nb, 2, none⟩ = some (.int .i64 nd.b) := Bn.cell (o := 2) (by omega)
  have m3 : w2.cell? ⟨nb, 3, none⟩ = some (.int .i64 nd.c) := Bn.cell (o := 3) (by omega)
  have m4 : w2.cell? ⟨nb, 4, none⟩ = some (.int .i64 nd.nx) := Bn.cell (o := 4) (by omega)
  have m5 : w2.cell? ⟨nb, 5, none⟩ = some (.int .i64 nd.val) := Bn.cell (o := 5) (by omega)
  have m6 : w2.cell? ⟨nb, 6, none⟩ = some (.int .i64 nd.pos) := Bn.cell (o := 6) (by omega)
  rw [d0] at m0
  have nbl := Bn.lt
  clear d0 Bn
  simp only [WtS] at W
  obtain ⟨W1, W2, W3, W4, W5⟩ := W
  simp only [flE] at L1
  obtain ⟨La, Li, hl1⟩ := L1.two
  obtain ⟨ln, hln⟩ : ∃ ln : Nd, ln = ⟨14, rtE b a, rtE (b + szE a) i, -1, -1, 0, q, ⟨#[]⟩⟩ := ⟨_, rfl⟩
  rw [← hln] at hl1
  obtain ⟨kl, hkl2⟩ : ∃ kl, kl = b + szE a + szE i := ⟨_, rfl⟩
  have ea : nd.a = ((kl : Nat) : Int) := by
    rw [hnd, hkl2]
    show rtE b (.idx q a i) = _
    rw [rtE_nat, ez]
    omega
  rw [← hkl2] at hl1
  rw [ea] at m1
  obtain ⟨rt, hrt⟩ : ∃ rt, rt = rtN (b + (szE a + szE i + 1)) c := ⟨_, rfl⟩
  have eb : nd.b = ((rt : Nat) : Int) := by rw [hnd, hrt]; exact rtE_nat _ c
  have hrl : rt < G.ns.length := by
    have := L2.le
    rw [flE_len] at this
    have := szE_pos c
    rw [hrt]
    unfold rtN
    omega
  rw [← hrt] at ht
  obtain ⟨ov, O, Hv⟩ := (N.e2.H.same ((Fr.refl (fun _ => False) w2).drew))
  have c10 := Hv.c10
  have rlt := Hv.rlt
  obtain ⟨vb2, evb, vlt, hbl, n0, n1, n2, n3, n4, n5, n6, n7⟩ := Hv.an.hv.at hl1
  rw [evb] at c10
  have hnl2 := Hv.an.nl
  have k3 : Fr (fun _ => False) w2 ((w2.alloc (.cells #[.int .i64 ln.kind, .int .i64 ln.a, .int .i64 ln.b, .int .i64 ln.c, .int .i64 ln.nx, .int .i64 ln.val, .int .i64 ln.pos, .string ln.name] 145)).drew) := ((Fr.refl (fun _ => False) w2).alloc _).drew
  have b3 := (ndC_blk w2 ln).drew
  have m0d : w2.drew.cell? ⟨nb, 0, none⟩ = some (.int .i64 4) := m0
  have m1d : w2.drew.cell? ⟨nb, 1, none⟩ = some (.int .i64 ((kl : Nat) : Int)) := m1
  have nbld : nb < w2.drew.heap.size := nbl
  have HF : Hid (True ∧ _) := ⟨trivial, And.intro N (And.intro hnd (And.intro ea (And.intro I (And.intro hf (And.intro La (And.intro Li (And.intro L2 (And.intro W1 (And.intro W2 (And.intro W3 (And.intro W4 (And.intro W5 (And.intro K (And.intro k3 (And.intro b3 (And.intro hln (And.intro hrt eb)))))))))))))))))⟩
  clear N hnd hk ea I hf L1 La Li L2 W1 W2 W3 W4 W5 K k3 b3 hln hN hl1 Hv evb hrt eb hkl2 ez
  go_upto_region 16 with fail
  refine wp_region_text (by kernel_rfl) (by kernel_rfl) ?_
  go_wp2_with fail
  refine ⟨by kernel_rfl, ?_⟩
  obtain ⟨w3, hw3⟩ : ∃ w3, w3 = (w2.alloc (.cells #[.int .i64 ln.kind, .int .i64 ln.a, .int .i64 ln.b, .int .i64 ln.c, .int .i64 ln.nx, .int .i64 ln.val, .int .i64 ln.pos, .string ln.name] 145)).drew := ⟨_, rfl⟩
  rw [← hw3]
  obtain ⟨lb, hlb⟩ : ∃ lb, lb = w2.heap.size := ⟨_, rfl⟩
  rw [← hlb]
  obtain ⟨_, N, hnd, ea, I, hf, La, Li, L2, W1, W2, W3, W4, W5, K, k3, b3, hln, hrt, eb⟩ := HF.out
  rw [← hw3] at k3 b3
  rw [← hlb] at b3
  have E3 := N.e2.same k3
  have hlbq : ¬ Q lb := fun x => by have := N.e2.H.lt lb x; omega
  have hlbv : ¬ isB lv lb := fun x => by have := N.e2.loc.bk x; omega
  have Bn := N.bk.frame k3 fun h => h
  have m0 : w3.cell? ⟨lb, 0, none⟩ = some (.int .i64 ln.kind) := b3.cell (o := 0) (by omega)
  have m1 : w3.cell? ⟨lb, 1, none⟩ = some (.int .i64 ln.a) := b3.cell (o := 1) (by omega)
  have d0 : ln.kind = 14 := by rw [hln]
  rw [d0] at m0
  have lbl := b3.lt
  have m2 : w3.cell? ⟨lb, 2, none⟩ = some (.int .i64 ln.b) := b3.cell (o := 2) (by omega)
  obtain ⟨mw, hmw⟩ : ∃ mw, mw = bodyI G.P0 (.st b (.asg p (.idx q a i) c)) s := ⟨_, rfl⟩
  have A0 : LD G w3 Q lv w3 s 0 0 (fun t => .call (.ev b a) t fun _ t => .call (.ev (b + szE a) i) t fun j t => .call (.ev (b + (szE a + szE i + 1)) c) t fun v t => if 2 ≤ tyA G.P0 (rtN (b + (szE a + szE i + 1)) c) then hpI (stRefM t.M (dtop t.M 2) j (dtop t.M 1)).1 t (goOn 0 { t with us := t.us - 1, M := (popM (stRefM t.M (dtop t.M 2) j (dtop t.M 1)).2 2).2 }) else hpI (stIntM t.M (dtop t.M 1) j v).1 t (goOn 0 { t with us := t.us - 2, M := (popM (stIntM t.M (dtop t.M 1) j v).2 1).2 })) mw := .inl ⟨s, Ls.nil E3, fun r h => by rw [hmw]; simp only [bodyI]; exact h⟩
  have q1 := evLD I ha E3 hf A0 La (x := ln.a) (by rw [hln]) W1
  rw [(duT_r W4).1, (duT_r W4).2] at q1
  have HE : Hid (True ∧ _) := ⟨trivial, And.intro E3 (And.intro Bn (And.intro k3 (And.intro b3 (And.intro hlbq (And.intro hlbv hmw)))))⟩
  clear N hnd ea I hf La Li L2 W1 W2 W3 W4 W5 K k3 b3 hln hrt eb hw3 hlb E3 hlbq hlbv Bn d0 c10 rlt n0 n1 n2 n3 n4 n5 n6 n7 vlt m0d m1d nbld hmw A0
  go_wp2_with fail
  refine q1.mono ?_
  rintro z w4 ⟨v1, rfl, A1⟩
  clear q1 m0 m1 m2 lbl
  obtain ⟨_, N, hnd, ea, I, hf, La, Li, L2, W1, W2, W3, W4, W5, K, k3, b3, hln, hrt, eb⟩ := HF.out
  obtain ⟨_, E3, Bn3, k3w, b3w, hlbq, hlbv, hmw⟩ := HE.out
  have b4 := b3w.frame A1.fr fun x => x.elim hlbq hlbv
  have m2 : w4.cell? ⟨lb, 2, none⟩ = some (.int .i64 ln.b) := b4.cell (o := 2) (by omega)
  have lbl := b4.lt
  have q2 := evLD I hi E3 hf A1 Li (x := ln.b) (by rw [hln]) W2
  rw [(duT_i W5).1, (duT_i W5).2] at q2
  clear N hnd ea I hf La Li L2 W1 W2 W3 W4 W5 K k3 b3 hln hrt eb E3 Bn3 k3w b3w hlbq hlbv hmw b4 A1
  go_wp2_with fail
  refine q2.mono ?_
  rintro z w5 ⟨v2, rfl, A2⟩
  clear q2 m2 lbl
  obtain ⟨_, N, hnd, ea, I, hf, La, Li, L2, W1, W2, W3, W4, W5, K, k3, b3, hln, hrt, eb⟩ := HF.out
  obtain ⟨_, E3, Bn3, k3w, b3w, hlbq, hlbv, hmw⟩ := HE.out
  have b4 := Bn3.frame A2.fr fun x => x.elim N.np hlvn
  have m2 : w5.cell? ⟨nb, 2, none⟩ = some (.int .i64 nd.b) := b4.cell (o := 2) (by omega)
  have nbl := b4.lt
  have q3 := evLD I hc E3 hf A2 L2 (x := nd.b) (by rw [hnd]) W3
  rw [← hrt] at q3
  clear N hnd ea I hf La Li L2 W1 W2 W3 W4 W5 K k3 b3 hln hrt eb E3 Bn3 k3w b3w hlbq hlbv hmw b4 A2
  go_wp2_with fail
  refine q3.mono ?_
  rintro z w6 ⟨v3, rfl, A3⟩
  clear q3 m2 nbl
  obtain ⟨_, N, hnd, ea, I, hf, La, Li, L2, W1, W2, W3, W4, W5, K, k3, b3, hln, hrt, eb⟩ := HF.out
  obtain ⟨_, E3, Bn3, k3w, b3w, hlbq, hlbv, hmw⟩ := HE.out
  rcases A3 with ⟨t, S, hev⟩ | D
  · rw [(duT_r ht).1, (duT_r ht).2] at S
    simp only [Nat.zero_add, Nat.add_zero, Nat.reduceAdd] at S
    have r24 := S.sb.r24
    have hrt3 := S.rl.rt
    have hus3 := S.rl.us
    have s0 := E3.sb.u0
    have u48 := S.sb.u48
    obtain ⟨ov, O, Hv⟩ := S.ml.1
    have c17 := Hv.c17
    have c16 := Hv.c16
    have rlt := Hv.rlt
    have q4 := S.ml.mm.depthH
    obtain ⟨wd, hwd⟩ : ∃ wd, wd = w6.drew := ⟨_, rfl⟩
    have kd : Fr (fun _ => False) w6 wd := by rw [hwd]; exact (Fr.refl _ w6).drew
    have HW : Hid (True ∧ _) := ⟨trivial, hwd⟩
    clear hwd
    have b6 := (Bn3.frame S.ml.2.1 fun x => x.elim N.np hlvn).frame kd fun h => h
    have m2 : wd.cell? ⟨nb, 2, none⟩ = some (.int .i64 nd.b) := b6.cell (o := 2) (by omega)
    rw [eb] at m2
    have nbl := b6.lt
    have Sd : Ls G w3 Q lv wd s 1 2 t := ⟨S.ml.same kd, S.lo.frame kd fun _ _ x => x, S.sb, S.rl⟩
    obtain ⟨ovd, Od, Hvd⟩ := Sd.ml.1
    have c4 := Hvd.c4
    have c15 := Hvd.c15
    have c16d := Hvd.c16
    have c17d := Hvd.c17
    have rld := Hvd.rlt
    have hzd := Hvd.blk.frozen
    obtain ⟨tb, etb, tlt, tc⟩ := Hvd.an.ht.at (i := rt) (by rw [K.tl]; exact hrl)
    rw [etb, K.tl] at c4
    have ety : G.P0.ty.getD rt (-1) = tyA G.P0 rt := rfl
    rw [ety] at tc
    have hki : (rt : Int) < G.ns.length := by omega
    have z1 : decide (tyA G.P0 rt ≥ 2) = true := decide_eq_true (by omega)
    have z2 : decide ((2 : Int) ≤ tyA G.P0 rt) = true := decide_eq_true (by omega)
    have htbr : tb ≠ G.r := fun e => (Hvd.sb tb (.inl (.inr (.inl ⟨_, _, etb⟩)))).1 (e ▸ Hvd.qr)
    have M7 := Sd.ml.mm.setU (t.us - 1)
    have q5 := M7.stRefH S.sb.mi S.sb.r24 (((t.M.rt.length : Nat) : Int) - 2) v2 (((t.M.rt.length : Nat) : Int) - 1)
    have rge : 2 ≤ t.M.rt.length := by rw [hrt3]; omega
    have e1 : wrap64 (t.us - 1) = t.us - 1 := by simp only [wrap64]; omega
    have e2 : wrap64 (((t.M.rt.length : Nat) : Int) - 1) = ((t.M.rt.length : Nat) : Int) - 1 := by simp only [wrap64]; omega
    have e3 : wrap64 (((t.M.rt.length : Nat) : Int) - 2) = ((t.M.rt.length : Nat) : Int) - 2 := by simp only [wrap64]; omega
    have HS : Hid (True ∧ _) := ⟨trivial, And.intro Sd (And.intro hev (And.intro s0 (And.intro hus3 hrt3)))⟩
    clear N hnd ea I hf La Li L2 W1 W2 W3 W4 W5 K k3 b3 hln hrt eb E3 Bn3 k3w b3w hlbq hlbv hmw S hev Hv b6 Sd Hvd etb ety kd M7 hus3 hrt3 s0
    go_wp2_with fail
    refine q4.mono ?_
    rintro z w7 ⟨rfl, hw7⟩
    subst w7
    clear q4 c17 c16 rlt
    go_upto_region 27 with fail
    refine wp_region_text (by kernel_rfl) (by kernel_rfl) ?_
    rw [← HW.out.2]
    go_wp2_with fail
    refine ⟨by kernel_rfl, ?_⟩
    go_wp2_with fail
    refine q5.mono ?_
    rintro z w8 ⟨rfl, M8⟩
    clear q5 m2 nbl c4 c15 c16d c17d rld hzd tlt tc htbr
    have q6 := M8.heapEnd (stRefM t.M (((t.M.rt.length : Nat) : Int) - 2) v2 (((t.M.rt.length : Nat) : Int) - 1)).1
    have HM8 : Hid (True ∧ _) := ⟨trivial, M8⟩
    clear M8
    go_wp2_with fail
    refine q6.mono ?_
    rintro z w9 ⟨rfl, ⟨h0, hw9⟩ | ⟨h0, M9⟩⟩
    · subst w9
      obtain ⟨_, M8⟩ := HM8.out
      obtain ⟨_, Sd, hev, s0, hus3, hrt3⟩ := HS.out
      have hsl : (stRefM t.M (((t.M.rt.length : Nat) : Int) - 2) v2 (((t.M.rt.length : Nat) : Int) - 1)).2.rt.length = t.M.rt.length := by rw [stRef_rt]
      have q7 := M8.popH (by show (stRefM t.M (((t.M.rt.length : Nat) : Int) - 2) v2 (((t.M.rt.length : Nat) : Int) - 1)).2.rt.length ≤ 24; omega) 2
      obtain ⟨ov8, O8, Hv8⟩ := M8.1
      have c16 := Hv8.c16
      have c17 := Hv8.c17
      have rlt := Hv8.rlt
      have H0 : Hid (True ∧ _) := ⟨trivial, And.intro h0 hsl⟩
      clear q6 h0 M8 Sd hev s0 hus3 hrt3 hsl Hv8
      go_wp2_with fail
      refine q7.mono ?_
      rintro z w10 ⟨rfl, M10⟩
      have HM10 : Hid (True ∧ _) := ⟨trivial, M10⟩
      clear q7 M10 c16 c17 rlt
      go_wp2_with fail
      go_ret2
      obtain ⟨_, N, _, _, _, _, _, _, _, _, _, _, _, _, _, _, _, _, hrt, _⟩ := HF.out
      obtain ⟨_, E3, Bn3, k3w, b3w, hlbq, hlbv, hmw⟩ := HE.out
      obtain ⟨_, Sd, hev, s0, hus3, hrt3⟩ := HS.out
      obtain ⟨_, h0, hsl⟩ := H0.out
      have M10 := HM10.out.2
      refine ⟨false, 0, rfl, N.exf (ExF.pre k3w N.e2.lt.1 N.e2.lt.2 ?_)⟩
      rw [← hmw]
      refine ExF.map hev ?_
      have d1 : dtop t.M 1 = ((t.M.rt.length : Nat) : Int) - 1 := rfl
      have d2 : dtop t.M 2 = ((t.M.rt.length : Nat) : Int) - 2 := rfl
      rw [if_pos ht, d1, d2]
      unfold hpI
      rw [if_pos h0]
      have hp := (pop_ok (M := (stRefM t.M (((t.M.rt.length : Nat) : Int) - 2) v2 (((t.M.rt.length : Nat) : Int) - 1)).2) (n := 2) (by omega) (by omega)).2
      refine ExF.done 0 ⟨(Sd.ml.up M10).re' rfl rfl rfl rfl rfl, Sd.lo.frame M10.2.1 fun b hb x => (Sd.ev0 E3).lq b hb x, ⟨?_, ?_, ?_, (Sd.sb.mi.stRef _ _ _).pop _, Sd.sb.ou, Sd.sb.f1, Sd.sb.f0, Sd.sb.ip, Sd.sb.il⟩, ⟨Sd.rl.rb, Sd.rl.ll, ?_, ?_, Sd.rl.fu⟩⟩
      · show 0 ≤ t.us - 1
        omega
      · show t.us - 1 ≤ 48
        omega
      · show (popM (stRefM t.M (((t.M.rt.length : Nat) : Int) - 2) v2 (((t.M.rt.length : Nat) : Int) - 1)).2 2).2.rt.length ≤ 24
        omega
      · show t.us - 1 = s.us + (0 : Nat)
        omega
      · show (popM (stRefM t.M (((t.M.rt.length : Nat) : Int) - 2) v2 (((t.M.rt.length : Nat) : Int) - 1)).2 2).2.rt.length = s.M.rt.length + 0
        rw [hp, hsl]
        omega
    · obtain ⟨ov9, O9, Hv9⟩ := M9.1
      have c17 := Hv9.c17
      have rlt := Hv9.rlt
      have yy : (endOf (stRefM t.M (((t.M.rt.length : Nat) : Int) - 2) v2 (((t.M.rt.length : Nat) : Int) - 1)).1 == 0) = false := by simpa using endOf_no _
      have H0 : Hid (True ∧ _) := ⟨trivial, And.intro h0 M9⟩
      clear q6 h0 M9 Hv9
      go_wp2_with fail
      go_ret2
      obtain ⟨_, N, _, _, _, _, _, _, _, _, _, _, _, _, _, _, _, _, hrt, _⟩ := HF.out
      obtain ⟨_, E3, Bn3, k3w, b3w, hlbq, hlbv, hmw⟩ := HE.out
      obtain ⟨_, Sd, hev, s0, hus3, hrt3⟩ := HS.out
      obtain ⟨_, h0, M9⟩ := H0.out
      refine ⟨false, 0, rfl, N.exf (ExF.pre k3w N.e2.lt.1 N.e2.lt.2 ?_)⟩
      rw [← hmw]
      refine ExF.map hev ?_
      have d1 : dtop t.M 1 = ((t.M.rt.length : Nat) : Int) - 1 := rfl
      have d2 : dtop t.M 2 = ((t.M.rt.length : Nat) : Int) - 2 := rfl
      rw [if_pos ht, d1, d2]
      unfold hpI
      rw [if_neg h0]
      refine ExF.die (s' := { t with us := t.us - 1, M := (stRefM t.M (((t.M.rt.length : Nat) : Int) - 2) v2 (((t.M.rt.length : Nat) : Int) - 1)).2 }) (endOf_no _) ?_ rfl rfl ?_ Sd.sb.ou
      · exact Sd.ml.up M9
      · show (stRefM t.M (((t.M.rt.length : Nat) : Int) - 2) v2 (((t.M.rt.length : Nat) : Int) - 1)).2.rt.length ≤ 24
        rw [stRef_rt]
        exact Sd.sb.r24
  · obtain ⟨en, he, c17, rlt⟩ := D.c17
    have yy : (en != 0) = true := by simpa using he
    have HD : Hid (True ∧ _) := ⟨trivial, D⟩
    clear N hnd ea I hf La Li L2 W1 W2 W3 W4 W5 K k3 b3 hln hrt eb E3 Bn3 k3w b3w hlbq hlbv hmw D he
    go_wp2_with fail
    go_ret2
    obtain ⟨_, N, _⟩ := HF.out
    obtain ⟨_, E3, Bn3, k3w, b3w, hlbq, hlbv, hmw⟩ := HE.out
    refine ⟨false, 0, rfl, N.exf (ExF.pre k3w N.e2.lt.1 N.e2.lt.2 ?_)⟩
    rw [← hmw]
    exact .inr (.inr ⟨rfl, HD.out.2⟩)
set_option maxRecDepth 100000 in
set_option maxHeartbeats 2000000 in
theorem ex_asgi {G : Gmx} (K : G.Ok) {fm : Int} {n : Nat} (I : EvC G fm n) (p q : Int) (a i c : Exp) (ha : szE a ≤ n) (hi : szE i ≤ n) (hc : szE c ≤ n) {w : World} {Q : Nat → Prop} {s : Ss} {b : Nat} {nx : Int} {li lr : Nat} {lv : Value} {ret : Int} (E : Ev0 G w Q s lv li lr) (hf : s.fuel ≤ fm) (ht : tyA G.P0 (rtN (b + (szE a + szE i + 1)) c) < 2) (L : Lie G.ns b (flS b nx (.asg p (.idx q a i) c))) (W : WtS G.P0 li lr ret b (.asg p (.idx q a i) c)) : Calls Tryz.prog 56 #[.pointer (some ⟨G.r, 0, none⟩), .int .i64 ((b + szS (.asg p (.idx q a i) c) - 1 : Nat) : Int), lv, .int .i64 (s.rb : Nat)] w (ExR G w Q lv s ret (bodyI G.P0 (.st b (.asg p (.idx q a i) c)) s)) := by
  simp only [flS] at L
  obtain ⟨L1, L2, hN⟩ := L.two
  clear L
  have ez : szE (.idx q a i) = szE a + szE i + 1 := rfl
  rw [ez] at L2 hN
  have ek : b + szS (.asg p (.idx q a i) c) - 1 = b + (szE a + szE i + 1) + szE c := by simp only [szS]; omega
  rw [ek]
  obtain ⟨k, hk⟩ : ∃ k, k = b + (szE a + szE i + 1) + szE c := ⟨_, rfl⟩
  obtain ⟨nd, hnd⟩ : ∃ nd : Nd, nd = ⟨4, rtE b (.idx q a i), rtE (b + (szE a + szE i + 1)) c, -1, nx, 0, p, ⟨#[]⟩⟩ := ⟨_, rfl⟩
  rw [← hk, ← hnd] at hN
  rw [← hk]
  obtain ⟨ov, O, Hv⟩ := E.H
  have c10 := Hv.c10
  have c17 := Hv.c17
  have rlt := Hv.rlt
  have hnl := Hv.an.nl
  obtain ⟨vb, evb, vlt, hkl, n0, n1, n2, n3, n4, n5, n6, n7⟩ := Hv.an.hv.at hN
  rw [evb] at c10
  have N0 := Nb.mk' E nd
  have HK : Hid (True ∧ _) := ⟨trivial, And.intro hk (And.intro hnd (And.intro hN (And.intro N0 E)))⟩
  clear hk hnd evb hN N0 Hv E ek
  go_enter Tryz.func56, Tryz.ntmps56
  go_upto_region 4 with fail
  obtain ⟨_, hk, hnd, hN, N, E⟩ := HK.out
  obtain ⟨w2, hw2⟩ : ∃ w2, w2 = w.alloc (.cells #[.int .i64 nd.kind, .int .i64 nd.a, .int .i64 nd.b, .int .i64 nd.c, .int .i64 nd.nx, .int .i64 nd.val, .int .i64 nd.pos, .string nd.name] 145) := ⟨_, rfl⟩
  obtain ⟨nb, hnb⟩ : ∃ nb, nb = w.heap.size := ⟨_, rfl⟩
  rw [← hw2, ← hnb] at N
  rw [← hw2, ← hnb]
  have hlvn := N.lvn hnb
  clear hw2 hnb c10 c17 rlt n0 n1 n2 n3 n4 n5 n6 n7 HK ov O vlt E
  have d0 : nd.kind = 4 := by rw [hnd]
  have Bn := N.bk
  have m0 : w2.cell? ⟨nb, 0, none⟩ = some (.int .i64 nd.kind) := Bn.cell (o := 0) (by omega)
  have m1 : w2.cell? ⟨nb, 1, none⟩ = some (.int .i64 nd.a) := Bn.cell (o := 1) (by omega)
  have m2 : w2.cell? ⟨nb, 2, none⟩ = some (.int .i64 nd.b) := Bn.cell (o := 2) (by omega)
  have m3 : w2.cell? ⟨nb, 3, none⟩ = some (.int .i64 nd.c) := Bn.cell (o := 3) (by omega)
  have m4 : w2.cell? ⟨nb, 4, none⟩ = some (.int .i64 nd.nx) := Bn.cell (o := 4) (by omega)
  have m5 : w2.cell? ⟨nb, 5, none⟩ = some (.int .i64 nd.val) := Bn.cell (o := 5) (by omega)
  have m6 : w2.cell? ⟨nb, 6, none⟩ = some (.int .i64 nd.pos) := Bn.cell (o := 6) (by omega)
  rw [d0] at m0
  have nbl := Bn.lt
  clear d0 Bn
  simp only [WtS] at W
  obtain ⟨W1, W2, W3, W4, W5⟩ := W
  simp only [flE] at L1
  obtain ⟨La, Li, hl1⟩ := L1.two
  obtain ⟨ln, hln⟩ : ∃ ln : Nd, ln = ⟨14, rtE b a, rtE (b + szE a) i, -1, -1, 0, q, ⟨#[]⟩⟩ := ⟨_, rfl⟩
  rw [← hln] at hl1
  obtain ⟨kl, hkl2⟩ : ∃ kl, kl = b + szE a + szE i := ⟨_, rfl⟩
  have ea : nd.a = ((kl : Nat) : Int) := by
    rw [hnd, hkl2]
    show rtE b (.idx q a i) = _
    rw [rtE_nat, ez]
    omega
  rw [← hkl2] at hl1
  rw [ea] at m1
  obtain ⟨rt, hrt⟩ : ∃ rt, rt = rtN (b + (szE a + szE i + 1)) c := ⟨_, rfl⟩
  have eb : nd.b = ((rt : Nat) : Int) := by rw [hnd, hrt]; exact rtE_nat _ c
  have hrl : rt < G.ns.length := by
    have := L2.le
    rw [flE_len] at this
    have := szE_pos c
    rw [hrt]
    unfold rtN
    omega
  rw [← hrt] at ht
  obtain ⟨ov, O, Hv⟩ := (N.e2.H.same ((Fr.refl (fun _ => False) w2).drew))
  have c10 := Hv.c10
  have rlt := Hv.rlt
  obtain ⟨vb2, evb, vlt, hbl, n0, n1, n2, n3, n4, n5, n6, n7⟩ := Hv.an.hv.at hl1
  rw [evb] at c10
  have hnl2 := Hv.an.nl
  have k3 : Fr (fun _ => False) w2 ((w2.alloc (.cells #[.int .i64 ln.kind, .int .i64 ln.a, .int .i64 ln.b, .int .i64 ln.c, .int .i64 ln.nx, .int .i64 ln.val, .int .i64 ln.pos, .string ln.name] 145)).drew) := ((Fr.refl (fun _ => False) w2).alloc _).drew
  have b3 := (ndC_blk w2 ln).drew
  have m0d : w2.drew.cell? ⟨nb, 0, none⟩ = some (.int .i64 4) := m0
  have m1d : w2.drew.cell? ⟨nb, 1, none⟩ = some (.int .i64 ((kl : Nat) : Int)) := m1
  have nbld : nb < w2.drew.heap.size := nbl
  have HF : Hid (True ∧ _) := ⟨trivial, And.intro N (And.intro hnd (And.intro ea (And.intro I (And.intro hf (And.intro La (And.intro Li (And.intro L2 (And.intro W1 (And.intro W2 (And.intro W3 (And.intro W4 (And.intro W5 (And.intro K (And.intro k3 (And.intro b3 (And.intro hln (And.intro hrt eb)))))))))))))))))⟩
  clear N hnd hk ea I hf L1 La Li L2 W1 W2 W3 W4 W5 K k3 b3 hln hN hl1 Hv evb hrt eb hkl2 ez
  go_upto_region 16 with fail
  refine wp_region_text (by kernel_rfl) (by kernel_rfl) ?_
  go_wp2_with fail
  refine ⟨by kernel_rfl, ?_⟩
  obtain ⟨w3, hw3⟩ : ∃ w3, w3 = (w2.alloc (.cells #[.int .i64 ln.kind, .int .i64 ln.a, .int .i64 ln.b, .int .i64 ln.c, .int .i64 ln.nx, .int .i64 ln.val, .int .i64 ln.pos, .string ln.name] 145)).drew := ⟨_, rfl⟩
  rw [← hw3]
  obtain ⟨lb, hlb⟩ : ∃ lb, lb = w2.heap.size := ⟨_, rfl⟩
  rw [← hlb]
  obtain ⟨_, N, hnd, ea, I, hf, La, Li, L2, W1, W2, W3, W4, W5, K, k3, b3, hln, hrt, eb⟩ := HF.out
  rw [← hw3] at k3 b3
  rw [← hlb] at b3
  have E3 := N.e2.same k3
  have hlbq : ¬ Q lb := fun x => by have := N.e2.H.lt lb x; omega
  have hlbv : ¬ isB lv lb := fun x => by have := N.e2.loc.bk x; omega
  have Bn := N.bk.frame k3 fun h => h
  have m0 : w3.cell? ⟨lb, 0, none⟩ = some (.int .i64 ln.kind) := b3.cell (o := 0) (by omega)
  have m1 : w3.cell? ⟨lb, 1, none⟩ = some (.int .i64 ln.a) := b3.cell (o := 1) (by omega)
  have d0 : ln.kind = 14 := by rw [hln]
  rw [d0] at m0
  have lbl := b3.lt
  have m2 : w3.cell? ⟨lb, 2, none⟩ = some (.int .i64 ln.b) := b3.cell (o := 2) (by omega)
  obtain ⟨mw, hmw⟩ : ∃ mw, mw = bodyI G.P0 (.st b (.asg p (.idx q a i) c)) s := ⟨_, rfl⟩
  have A0 : LD G w3 Q lv w3 s 0 0 (fun t => .call (.ev b a) t fun _ t => .call (.ev (b + szE a) i) t fun j t => .call (.ev (b + (szE a + szE i + 1)) c) t fun v t => if 2 ≤ tyA G.P0 (rtN (b + (szE a + szE i + 1)) c) then hpI (stRefM t.M (dtop t.M 2) j (dtop t.M 1)).1 t (goOn 0 { t with us := t.us - 1, M := (popM (stRefM t.M (dtop t.M 2) j (dtop t.M 1)).2 2).2 }) else hpI (stIntM t.M (dtop t.M 1) j v).1 t (goOn 0 { t with us := t.us - 2, M := (popM (stIntM t.M (dtop t.M 1) j v).2 1).2 })) mw := .inl ⟨s, Ls.nil E3, fun r h => by rw [hmw]; simp only [bodyI]; exact h⟩
  have q1 := evLD I ha E3 hf A0 La (x := ln.a) (by rw [hln]) W1
  rw [(duT_r W4).1, (duT_r W4).2] at q1
  have HE : Hid (True ∧ _) := ⟨trivial, And.intro E3 (And.intro Bn (And.intro k3 (And.intro b3 (And.intro hlbq (And.intro hlbv hmw)))))⟩
  clear N hnd ea I hf La Li L2 W1 W2 W3 W4 W5 K k3 b3 hln hrt eb hw3 hlb E3 hlbq hlbv Bn d0 c10 rlt n0 n1 n2 n3 n4 n5 n6 n7 vlt m0d m1d nbld hmw A0
  go_wp2_with fail
  refine q1.mono ?_
  rintro z w4 ⟨v1, rfl, A1⟩
  clear q1 m0 m1 m2 lbl
  obtain ⟨_, N, hnd, ea, I, hf, La, Li, L2, W1, W2, W3, W4, W5, K, k3, b3, hln, hrt, eb⟩ := HF.out
  obtain ⟨_, E3, Bn3, k3w, b3w, hlbq, hlbv, hmw⟩ := HE.out
  have b4 := b3w.frame A1.fr fun x => x.elim hlbq hlbv
  have m2 : w4.cell? ⟨lb, 2, none⟩ = some (.int .i64 ln.b) := b4.cell (o := 2) (by omega)
  have lbl := b4.lt
  have q2 := evLD I hi E3 hf A1 Li (x := ln.b) (by rw [hln]) W2
  rw [(duT_i W5).1, (duT_i W5).2] at q2
  clear N hnd ea I hf La Li L2 W1 W2 W3 W4 W5 K k3 b3 hln hrt eb E3 Bn3 k3w b3w hlbq hlbv hmw b4 A1
  go_wp2_with fail
  refine q2.mono ?_
  rintro z w5 ⟨v2, rfl, A2⟩
  clear q2 m2 lbl
  obtain ⟨_, N, hnd, ea, I, hf, La, Li, L2, W1, W2, W3, W4, W5, K, k3, b3, hln, hrt, eb⟩ := HF.out
  obtain ⟨_, E3, Bn3, k3w, b3w, hlbq, hlbv, hmw⟩ := HE.out
  have b4 := Bn3.frame A2.fr fun x => x.elim N.np hlvn
  have m2 : w5.cell? ⟨nb, 2, none⟩ = some (.int .i64 nd.b) := b4.cell (o := 2) (by omega)
  have nbl := b4.lt
  have q3 := evLD I hc E3 hf A2 L2 (x := nd.b) (by rw [hnd]) W3
  rw [← hrt] at q3
  clear N hnd ea I hf La Li L2 W1 W2 W3 W4 W5 K k3 b3 hln hrt eb E3 Bn3 k3w b3w hlbq hlbv hmw b4 A2
  go_wp2_with fail
  refine q3.mono ?_
  rintro z w6 ⟨v3, rfl, A3⟩
  clear q3 m2 nbl
  obtain ⟨_, N, hnd, ea, I, hf, La, Li, L2, W1, W2, W3, W4, W5, K, k3, b3, hln, hrt, eb⟩ := HF.out
  obtain ⟨_, E3, Bn3, k3w, b3w, hlbq, hlbv, hmw⟩ := HE.out
  rcases A3 with ⟨t, S, hev⟩ | D
  · rw [(duT_i ht).1, (duT_i ht).2] at S
    simp only [Nat.zero_add, Nat.add_zero, Nat.reduceAdd] at S
    have r24 := S.sb.r24
    have hrt3 := S.rl.rt
    have hus3 := S.rl.us
    have s0 := E3.sb.u0
    have u48 := S.sb.u48
    obtain ⟨ov, O, Hv⟩ := S.ml.1
    have c17 := Hv.c17
    have c16 := Hv.c16
    have rlt := Hv.rlt
    have q4 := S.ml.mm.depthH
    obtain ⟨wd, hwd⟩ : ∃ wd, wd = w6.drew := ⟨_, rfl⟩
    have kd : Fr (fun _ => False) w6 wd := by rw [hwd]; exact (Fr.refl _ w6).drew
    have HW : Hid (True ∧ _) := ⟨trivial, hwd⟩
    clear hwd
    have b6 := (Bn3.frame S.ml.2.1 fun x => x.elim N.np hlvn).frame kd fun h => h
    have m2 : wd.cell? ⟨nb, 2, none⟩ = some (.int .i64 nd.b) := b6.cell (o := 2) (by omega)
    rw [eb] at m2
    have nbl := b6.lt
    have Sd : Ls G w3 Q lv wd s 2 1 t := ⟨S.ml.same kd, S.lo.frame kd fun _ _ x => x, S.sb, S.rl⟩
    obtain ⟨ovd, Od, Hvd⟩ := Sd.ml.1
    have c4 := Hvd.c4
    have c15 := Hvd.c15
    have c16d := Hvd.c16
    have c17d := Hvd.c17
    have rld := Hvd.rlt
    have hzd := Hvd.blk.frozen
    obtain ⟨tb, etb, tlt, tc⟩ := Hvd.an.ht.at (i := rt) (by rw [K.tl]; exact hrl)
    rw [etb, K.tl] at c4
    have ety : G.P0.ty.getD rt (-1) = tyA G.P0 rt := rfl
    rw [ety] at tc
    have hki : (rt : Int) < G.ns.length := by omega
    have z1 : decide (tyA G.P0 rt ≥ 2) = false := decide_eq_false (by omega)
    have z2 : decide ((2 : Int) ≤ tyA G.P0 rt) = false := decide_eq_false (by omega)
    have htbr : tb ≠ G.r := fun e => (Hvd.sb tb (.inl (.inr (.inl ⟨_, _, etb⟩)))).1 (e ▸ Hvd.qr)
    have M7 := Sd.ml.mm.setU (t.us - 2)
    have q5 := M7.stIntH S.sb.mi S.sb.r24 (((t.M.rt.length : Nat) : Int) - 1) v2 v3
    have rge : 1 ≤ t.M.rt.length := by rw [hrt3]; omega
    have e1 : wrap64 (t.us - 2) = t.us - 2 := by simp only [wrap64]; omega
    have e2 : wrap64 (((t.M.rt.length : Nat) : Int) - 1) = ((t.M.rt.length : Nat) : Int) - 1 := by simp only [wrap64]; omega
    have e3 : wrap64 (((t.M.rt.length : Nat) : Int) - 2) = ((t.M.rt.length : Nat) : Int) - 2 := by simp only [wrap64]; omega
    have HS : Hid (True ∧ _) := ⟨trivial, And.intro Sd (And.intro hev (And.intro s0 (And.intro hus3 hrt3)))⟩
    clear N hnd ea I hf La Li L2 W1 W2 W3 W4 W5 K k3 b3 hln hrt eb E3 Bn3 k3w b3w hlbq hlbv hmw S hev Hv b6 Sd Hvd etb ety kd M7 hus3 hrt3 s0
    go_wp2_with fail
    refine q4.mono ?_
    rintro z w7 ⟨rfl, hw7⟩
    subst w7
    clear q4 c17 c16 rlt
    go_upto_region 27 with fail
    refine wp_region_text (by kernel_rfl) (by kernel_rfl) ?_
    rw [← HW.out.2]
    go_wp2_with fail
    refine ⟨by kernel_rfl, ?_⟩
    go_wp2_with fail
    refine q5.mono ?_
    rintro z w8 ⟨rfl, M8⟩
    clear q5 m2 nbl c4 c15 c16d c17d rld hzd tlt tc htbr
    have q6 := M8.heapEnd (stIntM t.M (((t.M.rt.length : Nat) : Int) - 1) v2 v3).1
    have HM8 : Hid (True ∧ _) := ⟨trivial, M8⟩
    clear M8
    go_wp2_with fail
    refine q6.mono ?_
    rintro z w9 ⟨rfl, ⟨h0, hw9⟩ | ⟨h0, M9⟩⟩
    · subst w9
      obtain ⟨_, M8⟩ := HM8.out
      obtain ⟨_, Sd, hev, s0, hus3, hrt3⟩ := HS.out
      have hsl : (stIntM t.M (((t.M.rt.length : Nat) : Int) - 1) v2 v3).2.rt.length = t.M.rt.length := by rw [stInt_rt]
      have q7 := M8.popH (by show (stIntM t.M (((t.M.rt.length : Nat) : Int) - 1) v2 v3).2.rt.length ≤ 24; omega) 1
      obtain ⟨ov8, O8, Hv8⟩ := M8.1
      have c16 := Hv8.c16
      have c17 := Hv8.c17
      have rlt := Hv8.rlt
      have H0 : Hid (True ∧ _) := ⟨trivial, And.intro h0 hsl⟩
      clear q6 h0 M8 Sd hev s0 hus3 hrt3 hsl Hv8
      go_wp2_with fail
      refine q7.mono ?_
      rintro z w10 ⟨rfl, M10⟩
      have HM10 : Hid (True ∧ _) := ⟨trivial, M10⟩
      clear q7 M10 c16 c17 rlt
      go_wp2_with fail
      go_ret2
      obtain ⟨_, N, _, _, _, _, _, _, _, _, _, _, _, _, _, _, _, _, hrt, _⟩ := HF.out
      obtain ⟨_, E3, Bn3, k3w, b3w, hlbq, hlbv, hmw⟩ := HE.out
      obtain ⟨_, Sd, hev, s0, hus3, hrt3⟩ := HS.out
      obtain ⟨_, h0, hsl⟩ := H0.out
      have M10 := HM10.out.2
      refine ⟨false, 0, rfl, N.exf (ExF.pre k3w N.e2.lt.1 N.e2.lt.2 ?_)⟩
      rw [← hmw]
      refine ExF.map hev ?_
      have d1 : dtop t.M 1 = ((t.M.rt.length : Nat) : Int) - 1 := rfl
      have d2 : dtop t.M 2 = ((t.M.rt.length : Nat) : Int) - 2 := rfl
      rw [if_neg (by omega), d1]
      unfold hpI
      rw [if_pos h0]
      have hp := (pop_ok (M := (stIntM t.M (((t.M.rt.length : Nat) : Int) - 1) v2 v3).2) (n := 1) (by omega) (by omega)).2
      refine ExF.done 0 ⟨(Sd.ml.up M10).re' rfl rfl rfl rfl rfl, Sd.lo.frame M10.2.1 fun b hb x => (Sd.ev0 E3).lq b hb x, ⟨?_, ?_, ?_, (Sd.sb.mi.stInt _ _ _).pop _, Sd.sb.ou, Sd.sb.f1, Sd.sb.f0, Sd.sb.ip, Sd.sb.il⟩, ⟨Sd.rl.rb, Sd.rl.ll, ?_, ?_, Sd.rl.fu⟩⟩
      · show 0 ≤ t.us - 2
        omega
      · show t.us - 2 ≤ 48
        omega
      · show (popM (stIntM t.M (((t.M.rt.length : Nat) : Int) - 1) v2 v3).2 1).2.rt.length ≤ 24
        omega
      · show t.us - 2 = s.us + (0 : Nat)
        omega
      · show (popM (stIntM t.M (((t.M.rt.length : Nat) : Int) - 1) v2 v3).2 1).2.rt.length = s.M.rt.length + 0
        rw [hp, hsl]
        omega
    · obtain ⟨ov9, O9, Hv9⟩ := M9.1
      have c17 := Hv9.c17
      have rlt := Hv9.rlt
      have yy : (endOf (stIntM t.M (((t.M.rt.length : Nat) : Int) - 1) v2 v3).1 == 0) = false := by simpa using endOf_no _
      have H0 : Hid (True ∧ _) := ⟨trivial, And.intro h0 M9⟩
      clear q6 h0 M9 Hv9
      go_wp2_with fail
      go_ret2
      obtain ⟨_, N, _, _, _, _, _, _, _, _, _, _, _, _, _, _, _, _, hrt, _⟩ := HF.out
      obtain ⟨_, E3, Bn3, k3w, b3w, hlbq, hlbv, hmw⟩ := HE.out
      obtain ⟨_, Sd, hev, s0, hus3, hrt3⟩ := HS.out
      obtain ⟨_, h0, M9⟩ := H0.out
      refine ⟨false, 0, rfl, N.exf (ExF.pre k3w N.e2.lt.1 N.e2.lt.2 ?_)⟩
      rw [← hmw]
      refine ExF.map hev ?_
      have d1 : dtop t.M 1 = ((t.M.rt.length : Nat) : Int) - 1 := rfl
      have d2 : dtop t.M 2 = ((t.M.rt.length : Nat) : Int) - 2 := rfl
      rw [if_neg (by omega), d1]
      unfold hpI
      rw [if_neg h0]
      refine ExF.die (s' := { t with us := t.us - 2, M := (stIntM t.M (((t.M.rt.length : Nat) : Int) - 1) v2 v3).2 }) (endOf_no _) ?_ rfl rfl ?_ Sd.sb.ou
      · exact Sd.ml.up M9
      · show (stIntM t.M (((t.M.rt.length : Nat) : Int) - 1) v2 v3).2.rt.length ≤ 24
        rw [stInt_rt]
        exact Sd.sb.r24
  · obtain ⟨en, he, c17, rlt⟩ := D.c17
    have yy : (en != 0) = true := by simpa using he
    have HD : Hid (True ∧ _) := ⟨trivial, D⟩
    clear N hnd ea I hf La Li L2 W1 W2 W3 W4 W5 K k3 b3 hln hrt eb E3 Bn3 k3w b3w hlbq hlbv hmw D he
    go_wp2_with fail
    go_ret2
    obtain ⟨_, N, _⟩ := HF.out
    obtain ⟨_, E3, Bn3, k3w, b3w, hlbq, hlbv, hmw⟩ := HE.out
    refine ⟨false, 0, rfl, N.exf (ExF.pre k3w N.e2.lt.1 N.e2.lt.2 ?_)⟩
    rw [← hmw]
    exact .inr (.inr ⟨rfl, HD.out.2⟩)
end Go.Proofs.Qxb6500277aGreat
