/- The code generator: expr, bin, call. -/
import Derived.Test.Qxb6500277aGreatGE11
namespace Go.Proofs.Qxb6500277aGreat
open Go Go.RowKit

theorem field_nx (a b c d e f g : Int) (s : ByteArray) (w : World) : Sem.run Tryz.prog (Instr.field 145 (.agg #[.int .i64 a, .int .i64 b, .int .i64 c, .int .i64 d, .int .i64 e, .int .i64 f, .int .i64 g, .string s]) 4) w = .ok (.int .i64 e) w := by kernel_rfl
set_option maxRecDepth 100000 in
set_option maxHeartbeats 2000000 in
theorem expr_bin {G : Ge} {n : Nat} (I : ExG G n) (kk p : Int) (l r : Exp) (hn : szE l ≤ n) (ht : TyE l) (hn2 : szE r ≤ n) (ht2 : TyE r) {w : World} {P : Nat → Prop} {B : Gb} {b : Nat} {nx x : Int} (h : GX w G.g P G.hd B) (hc : G.Cv w P) (L : Lie G.ns b (flE b nx (.bin kk p l r))) (hx : x = rtE b (.bin kk p l r)) (W : WtE G.P0 G.li G.lr b (.bin kk p l r)) (hl : B.code.length + nE (.bin kk p l r) ≤ 40000) : Calls Tryz.prog 192 #[.pointer (some ⟨G.g, 0, none⟩), .int .i64 x] w (EmR w G.g P G.hd (addE G.P0 B b (.bin kk p l r))) := by
  rw [rtE_nat] at hx
  subst hx
  simp only [flE] at L
  obtain ⟨L1, L2, hN⟩ := L.two
  clear L
  simp only [WtE] at W
  obtain ⟨k, hk⟩ : ∃ k, k = b + szE l + szE r := ⟨_, rfl⟩
  rw [← hk] at hN
  have hke : b + szE (.bin kk p l r) - 1 = k := by rw [hk]; simp only [szE]; omega
  rw [hke]
  have hkl : k < G.ns.length := (List.getElem?_eq_some_iff.1 hN).1
  have qN := nodeG h hc hN
  obtain ⟨nd, hnd⟩ : ∃ nd : Nd, nd = ⟨18, rtE b l, rtE (b + szE l) r, -1, nx, kk, p, ⟨#[]⟩⟩ := ⟨_, rfl⟩
  rw [← hnd] at qN hN
  have Hnd : Hid _ := And.intro hnd (And.intro hk hke)
  clear hnd hke hk
  go_enter Tryz.func192, Tryz.ntmps192
  go_wp2_with fail
  refine qN.mono ?_
  rintro v w1 ⟨rfl, f1⟩
  have N := Nw.mk' h hc f1 nd
  clear qN f1
  unfold ndV
  go_upto_region 1 with fail
  obtain ⟨nb, hnb⟩ : ∃ nb, nb = w1.heap.size := ⟨_, rfl⟩
  obtain ⟨w2, hw2⟩ : ∃ w2, w2 = w1.alloc (.cells #[.int .i64 nd.kind, .int .i64 nd.a, .int .i64 nd.b, .int .i64 nd.c, .int .i64 nd.nx, .int .i64 nd.val, .int .i64 nd.pos, .string nd.name] 145) := ⟨_, rfl⟩
  rw [← hw2, ← hnb] at N
  rw [← hw2, ← hnb]
  clear hw2 hnb h hc w1
  have d0 : nd.kind = 18 := by rw [Hnd.out.1]
  have E := N.em
  have m0 : w2.cell? ⟨nb, 0, none⟩ = some (.int .i64 nd.kind) := N.bk.cell (by omega)
  have hnl := N.bk.lt
  rw [d0] at m0
  have q := binaryG I kk l r hn ht hn2 ht2 E.1 (N.c E) L1 L2 W.1 W.2.1 hl (nd := ⟨18, rtE b l, rtE (b + szE l) r, -1, nx, kk, p, ⟨#[]⟩⟩) rfl rfl rfl
  clear m0 d0
  have hnd := Hnd.out.1
  have M : Blk w2 nb 8 (ndCell ⟨18, rtE b l, rtE (b + szE l) r, -1, nx, kk, p, ⟨#[]⟩⟩) := by rw [← hnd]; exact N.bk
  have m0 : w2.cell? ⟨nb, 0, none⟩ = some (.int .i64 18) := M.cell (by omega)
  have m1 : w2.cell? ⟨nb, 1, none⟩ = some (.int .i64 (rtE b l)) := M.cell (by omega)
  have m2 : w2.cell? ⟨nb, 2, none⟩ = some (.int .i64 (rtE (b + szE l) r)) := M.cell (by omega)
  have m3 : w2.cell? ⟨nb, 3, none⟩ = some (.int .i64 (-1)) := M.cell (by omega)
  have m4 : w2.cell? ⟨nb, 4, none⟩ = some (.int .i64 nx) := M.cell (by omega)
  have m5 : w2.cell? ⟨nb, 5, none⟩ = some (.int .i64 kk) := M.cell (by omega)
  have m6 : w2.cell? ⟨nb, 6, none⟩ = some (.int .i64 p) := M.cell (by omega)
  have m7 : w2.cell? ⟨nb, 7, none⟩ = some (.string ⟨#[]⟩) := M.cell (by omega)
  unfold ndV at q
  clear M hnd
  go_wp2_with fail
  refine q.mono ?_
  rintro v w3 ⟨rfl, hE⟩
  have E3 := E.then (e := .returned (.tuple #[])) ⟨rfl, hE⟩
  clear hE q
  go_wp2_with fail
  go_end0
  rw [addB_eq _ _ _ _ p] at E3
  exact N.done E3
set_option maxRecDepth 100000 in
set_option maxHeartbeats 2000000 in
theorem expr_call {G : Ge} (o : G.Ok) {n : Nat} (I : ExG G n) (s : ByteArray) (p : Int) (gs : Exps) (hn : szEs gs ≤ n) (ht : TyEs gs) {w : World} {P : Nat → Prop} {B : Gb} {b : Nat} {nx x : Int} (h : GX w G.g P G.hd B) (hc : G.Cv w P) (L : Lie G.ns b (flE b nx (.call s p gs))) (hx : x = rtE b (.call s p gs)) (W : WtE G.P0 G.li G.lr b (.call s p gs)) (hl : B.code.length + nE (.call s p gs) ≤ 40000) : Calls Tryz.prog 192 #[.pointer (some ⟨G.g, 0, none⟩), .int .i64 x] w (EmR w G.g P G.hd (addE G.P0 B b (.call s p gs))) := by
  rw [rtE_nat] at hx
  subst hx
  obtain ⟨L1, hN⟩ := L.call
  clear L
  simp only [WtE] at W
  simp only [nE] at hl
  obtain ⟨k, hk⟩ : ∃ k, k = b + szEs gs := ⟨_, rfl⟩
  rw [← hk] at hN
  have hke : b + szE (.call s p gs) - 1 = k := by rw [hk]; simp only [szE]; omega
  rw [hke]
  have hkl : k < G.ns.length := (List.getElem?_eq_some_iff.1 hN).1
  have qN := nodeG h hc hN
  obtain ⟨nd, hnd⟩ : ∃ nd : Nd, nd = ⟨13, hdE b gs, -1, -1, nx, 0, p, s⟩ := ⟨_, rfl⟩
  rw [← hnd] at qN hN
  have Hnd : Hid _ := And.intro hnd (And.intro hk hke)
  clear hnd hke hk
  go_enter Tryz.func192, Tryz.ntmps192
  go_wp2_with fail
  refine qN.mono ?_
  rintro v w1 ⟨rfl, f1⟩
  have N := Nw.mk' h hc f1 nd
  clear qN f1
  unfold ndV
  go_upto_region 1 with fail
  obtain ⟨nb, hnb⟩ : ∃ nb, nb = w1.heap.size := ⟨_, rfl⟩
  obtain ⟨w2, hw2⟩ : ∃ w2, w2 = w1.alloc (.cells #[.int .i64 nd.kind, .int .i64 nd.a, .int .i64 nd.b, .int .i64 nd.c, .int .i64 nd.nx, .int .i64 nd.val, .int .i64 nd.pos, .string nd.name] 145) := ⟨_, rfl⟩
  rw [← hw2, ← hnb] at N
  rw [← hw2, ← hnb]
  clear hw2 hnb h hc w1
  have d0 : nd.kind = 13 := by rw [Hnd.out.1]
  have d1 : nd.a = hdE b gs := by rw [Hnd.out.1]
  have E := N.em
  have m0 : w2.cell? ⟨nb, 0, none⟩ = some (.int .i64 nd.kind) := N.bk.cell (by omega)
  have hnl := N.bk.lt
  rw [d0] at m0
  have m1 : w2.cell? ⟨nb, 1, none⟩ = some (.int .i64 nd.a) := N.bk.cell (by omega)
  rw [d1] at m1
  obtain ⟨fi, hfi⟩ : ∃ fi, fi = rfA G.P0 k := ⟨_, rfl⟩
  have hfl : fi < 200 := by rw [hfi, Hnd.out.2.1]; have := o.fn; have := W.2.1; omega
  have W1 := W.1
  clear W d0 d1
  obtain ⟨ha, hha⟩ : ∃ ha, ha = hdE b gs := ⟨_, rfl⟩
  rw [← hha] at m1
  have Hha : Hid _ := hha
  clear hha
  go_wp2_with fail
  go_loopg [8] (szEs gs) (fun gm av wr => ∃ (b' : Nat) (es : Exps) (B' : Gb), av = .int .i64 (hdE b' es) ∧ Lie G.ns b' (flEs b' es) ∧ TyEs es ∧ WtEs G.P0 G.li G.lr b' es ∧ szEs es ≤ gm ∧ szEs es ≤ n ∧ Em w2 P G.g G.hd wr B' ∧ addEs G.P0 B' b' es = addEs G.P0 B b gs ∧ B'.code.length + nEs es = B.code.length + nEs gs)
  case atStart => exact ⟨b, gs, B, by rw [Hha.out], L1, ht, W1, Nat.le_refl _, hn, E, rfl, rfl⟩
  case round =>
    obtain ⟨b', es, B', rfl, L', ht', W', hg, hn', E', hB', hlen⟩ := hrel
    have Hg : Hid _ := And.intro hB' (And.intro hlen (And.intro hg hn'))
    have hlb : B'.code.length + nEs es ≤ 40000 - 3 := by omega
    clear hB' hlen hg hn'
    cases es with
    | nil =>
      have hI : decide ((-1 : Int) ≥ 0) = false := rfl
      obtain ⟨_, _, r7, _, _, hgl⟩ := GX.regs E'.1
      obtain ⟨rb, s1, s2, s3⟩ := ILV.at (N.c E').an.hr (i := k) (by rw [(N.c E').rl]; exact hkl)
      rw [s1, (N.c E').rl] at r7
      rw [rfA_get (n := 200) (by rw [← hfi]; exact hfl) (by omega), ← hfi] at s3
      have hnl2 := (N.c E').an.nl
      have hki : (k : Int) < G.ns.length := by omega
      have q := callF E'.1 fi (by simp only [nEs] at hlb; omega)
      have Hfi : Hid _ := hfi
      clear s1 hfi L' W' ht'
      simp only [hdE]
      go_wp2_with fail
      refine q.mono ?_
      rintro v w4 ⟨rfl, hE⟩
      have E4 := E'.then (e := .returned (.tuple #[])) ⟨rfl, hE⟩
      clear hE q
      go_wp2_with fail
      go_end0
      have hB := Hg.out.1
      have hlen := Hg.out.2.1
      refine N.done (B' := addE G.P0 B b (.call s p gs)) ?_
      have e0 : addEs G.P0 B' b' .nil = B' := by simp [addEs, cEs, fxEs]
      rw [e0] at hB
      rw [hB, Hfi.out, Hnd.out.2.1] at E4
      simpa [addEs, addE, cE, fxE, cEs_len] using E4
    | cons e es =>
      obtain ⟨Le, Les⟩ := L'.args
      simp only [TyEs] at ht'
      simp only [WtEs] at W'
      have hge : decide (rtE b' e ≥ 0) = true := decide_eq_true (by rw [rtE_nat]; omega)
      have hge2 : decide (0 ≤ rtE b' e) = true := decide_eq_true (by rw [rtE_nat]; omega)
      obtain ⟨nd', h1, h2', h3', h4⟩ := Le.root
      clear h2' h3'
      have hse : szE e ≤ n := by have := Hg.out.2.2.2; simp only [szEs] at this; omega
      have q := I e hse ht'.1 wr _ B' b' _ _ E'.1 (N.c E') Le rfl W'.1 (by simp only [nEs] at hlb; omega)
      have Hh4 : Hid _ := And.intro h4 L'
      clear h4 L'
      simp only [hdE]
      have hroot := rtE_nat b' e
      obtain ⟨rt, hrt⟩ : ∃ rt, rt = b' + szE e - 1 := ⟨_, rfl⟩
      rw [← hrt] at hroot h1
      rw [hroot] at q hge hge2
      rw [hroot]
      have Hrt : Hid _ := And.intro hrt hroot
      clear hrt hroot
      go_wp2_with fail
      refine q.mono ?_
      rintro v w4 ⟨rfl, hE⟩
      have E4 := E'.then (e := .returned (.tuple #[])) ⟨rfl, hE⟩
      clear hE q
      have q := nodeG E4.1 (N.c E4) h1
      go_wp2_with fail
      refine q.mono ?_
      rintro v w5 ⟨rfl, f5⟩
      have E5 := E4.same f5
      clear q f5
      unfold ndV
      go_wp2_with fail
      rw [field_nx]
      go_wp2_with fail
      go_roundg (gk - szE e)
      case measure =>
        have h1 := Hg.out.2.2.1
        have := szE_pos e
        simp only [szEs] at h1
        omega
      case rel =>
        refine ⟨b' + szE e, es, addE G.P0 B' b' e, ?_, Les, ht'.2, W'.2, ?_, ?_, E5, ?_, ?_⟩
        · rw [Hh4.out.1]
        · have := Hg.out.2.2.1; simp only [szEs] at this; omega
        · have := Hg.out.2.2.2; simp only [szEs] at this; omega
        · rw [← Hg.out.1]; simp [addEs, addE, cEs, fxEs, cE_len]
        · have := Hg.out.2.1; simp only [nEs] at this; rw [addE_len]; omega
end Go.Proofs.Qxb6500277aGreat
