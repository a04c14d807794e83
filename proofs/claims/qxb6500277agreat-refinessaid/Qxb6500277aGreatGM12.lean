/- The definitional interpreter: eval: calls. -/
import Derived.Test.Qxb6500277aGreatGM4
namespace Go.Proofs.Qxb6500277aGreat
open Go Go.RowKit

/-- invoke, with fuel at most fm. -/
def InvC (G : Gmx) (fm : Int) : Prop := ∀ (w : World) (Q : Nat → Prop) (s t : Ss) (f : Nat) (av : Value) (vs : List Int), RM w G t 0 Q → SB G t → SB G s → t.fuel ≤ fm → KiAt w av vs → (∀ b, isB av b → ¬ Q b) → f < G.P0.fns.length → vs.length = (fiA G.P0 f).pi → Rl (fiA G.P0 f).pi (fiA G.P0 f).pr s t → t.loc = s.loc →
  Calls Tryz.prog 39 #[.pointer (some ⟨G.r, 0, none⟩), .int .i64 (f : Nat), av] w (EvR G w Q s (fiA G.P0 f).ret (bodyI G.P0 (.inv f vs) t))
/-- A call's arguments have been gathered so far. -/
structure ArgS (G : Gmx) (w2 : World) (Q : Nat → Prop) (wr : World) (av : Value) (vs : List Int) (Q' : Nat → Prop) (t : Ss) (en : Int) : Prop where
  rm : RM wr G t en Q'
  fr : Fr Q w2 wr
  qs : ∀ b, Q' b → Q b ∨ w2.heap.size ≤ b
  ql : ∀ b, Q b → b < w2.heap.size
  ki : KiAt wr av vs
  ab : ∀ b, isB av b → ¬ Q' b ∧ w2.heap.size ≤ b
  st : ∀ b, stB G b → ¬ Q b ∧ b < w2.heap.size
section
variable {G : Gmx} {w2 wr w' : World} {Q Q' F : Nat → Prop} {av : Value} {vs : List Int} {s t t' : Ss} {en en' : Int}
theorem ArgS.mm (h : ArgS G w2 Q wr av vs Q' t en) : Mm G w2 Q wr t en :=
  ⟨h.rm.up (fun b hb => (h.qs b hb).imp id fun x => ⟨x, h.rm.lt b hb⟩) (fun b hb => hb.elim (fun x => Nat.lt_of_lt_of_le (h.ql b x) h.fr.size) fun x => x.2) (fun b hb hq => hq.elim (h.st b hb).1 fun x => by have := (h.st b hb).2; have := x.1; omega), h.fr, h.ql⟩
theorem ArgS.step (h : ArgS G w2 Q wr av vs Q' t en) (k : Mm G wr Q' w' t' en') : ArgS G w2 Q w' av vs (Gw Q' wr w') t' en' :=
  ⟨k.1, h.fr.trans k.2.1 fun b hb x => (h.qs b x).elim id fun y => by omega, fun b hb => hb.elim (h.qs b) fun x => .inr (Nat.le_trans h.fr.size x.1), h.ql, h.ki.frame k.2.1 fun b hb => (h.ab b hb).1, fun b hb => ⟨fun x => x.elim (h.ab b hb).1 fun y => by have := h.ki.bk hb; have := y.1; omega, (h.ab b hb).2⟩, h.st⟩
theorem ArgS.same (h : ArgS G w2 Q wr av vs Q' t en) (k : Fr (fun _ => False) wr w') : ArgS G w2 Q w' av vs Q' t en :=
  ⟨h.rm.same k, h.fr.trans k fun _ _ x => x.elim, h.qs, h.ql, h.ki.frame k fun _ _ x => x, h.ab, h.st⟩
theorem ArgS.app {av' : Value} {vs' : List Int} (h : ArgS G w2 Q wr av vs Q' t en) (k : Fr (isB av) wr w') (hk : KiAt w' av' vs') (hb : ∀ b, isB av' b → wr.heap.size ≤ b ∨ isB av b) : ArgS G w2 Q w' av' vs' Q' t en := by
  obtain ⟨ov, O, H⟩ := h.rm
  refine ⟨⟨ov, O, H.frame k fun b hb x => hb.elim (fun y => (h.ab b x).1 y) fun y => ?_⟩, h.fr.trans k fun b hb x => ?_, h.qs, h.ql, hk, fun b hb' => ?_, h.st⟩
  · have := (h.st b y).2
    have := (h.ab b x).2
    omega
  · have := (h.ab b x).2
    omega
  · rcases hb b hb' with x | x
    · exact ⟨fun y => by have := H.lt b y; omega, Nat.le_trans h.fr.size x⟩
    · exact h.ab b x
theorem EvI.on {P : Pg} {q : Ri} {s : Ss} {r : Ro} (h : EvI P (bodyI P q s) r) : EvI P (.call q s goOn) r := by
  cases r with
  | ok v t => exact h.ok (EvI.ret _)
  | rt v t => exact h.rt
  | stop e t => exact h.stop
theorem Fat.lift {m m' : Mi} {du dr : Nat} {v : Int} (A : ArgS G w2 Q wr av vs Q' t en) (h : Fat G wr Q' w' s du dr m v) (hm : ∀ r, EvI G.P0 m r → EvI G.P0 m' r) : Fat G w2 Q w' s du dr m' v := by
  rcases h with ⟨x, a, b, c⟩ | ⟨e, x, y, a, b, c, d⟩
  · exact .inl ⟨x, hm _ a, (A.step b).mm, c⟩
  · exact .inr ⟨e, x, y, hm _ a, b, (A.step c).mm, d⟩
end
/-- How far the arguments of a call have come: the run goes on, or it is over. -/
def ArgL (G : Gmx) (w2 : World) (Q : Nat → Prop) (s : Ss) (b0 f : Nat) (gs : Exps) (b' : Nat) (es : Exps) (wr : World) (av : Value) : Prop := ∃ vs Q' t en, ArgS G w2 Q wr av vs Q' t en ∧ vs.length + szEs es ≤ szEs gs ∧
  ((en = 0 ∧ SB G t ∧ (∃ nr, Rl vs.length nr s t ∧ nr + cntR G.P0 b' es = cntR G.P0 b0 gs) ∧ t.loc = s.loc ∧ vs.length + cntI G.P0 b' es = cntI G.P0 b0 gs ∧ ∀ r, EvI G.P0 (bodyI G.P0 (.args f b' es vs) t) r → EvI G.P0 (bodyI G.P0 (.args f b0 gs []) s) r) ∨
   (en ≠ 0 ∧ t.M.rt.length ≤ 24 ∧ t.out.length ≤ 1024 ∧ ∃ tt, EvI G.P0 (bodyI G.P0 (.args f b0 gs []) s) (.stop en tt) ∧ t.fuel = tt.fuel ∧ t.out = tt.out))
/-- The same behind an argument's evaluation. -/
def ArgM (G : Gmx) (w2 : World) (Q : Nat → Prop) (s : Ss) (b0 f : Nat) (gs : Exps) (b' : Nat) (es : Exps) (wr : World) (av : Value) (ty v : Int) : Prop := ∃ vs Q' t en, ArgS G w2 Q wr av vs Q' t en ∧ vs.length + 1 + szEs es ≤ szEs gs ∧
  ((en = 0 ∧ SB G t ∧ (∃ nr, Rl (vs.length + duT ty) nr s t ∧ nr + cntR G.P0 b' es = cntR G.P0 b0 gs) ∧ t.loc = s.loc ∧ vs.length + duT ty + cntI G.P0 b' es = cntI G.P0 b0 gs ∧ ∀ r, EvI G.P0 (bodyI G.P0 (.args f b' es (if ty < 2 then vs ++ [v] else vs)) t) r → EvI G.P0 (bodyI G.P0 (.args f b0 gs []) s) r) ∨
   (en ≠ 0 ∧ t.M.rt.length ≤ 24 ∧ t.out.length ≤ 1024 ∧ ∃ tt, EvI G.P0 (bodyI G.P0 (.args f b0 gs []) s) (.stop en tt) ∧ t.fuel = tt.fuel ∧ t.out = tt.out))
theorem ArgM.ref {G : Gmx} {w2 wr : World} {Q : Nat → Prop} {s : Ss} {b0 f b' : Nat} {gs es : Exps} {av : Value} {ty v : Int} (h : ArgM G w2 Q s b0 f gs b' es wr av ty v) (ht : 2 ≤ ty) : ArgL G w2 Q s b0 f gs b' es wr av := by
  obtain ⟨vs, Q', t, en, AS, hl, AL⟩ := h
  have e := (duT_r ht).1
  rw [e] at AL
  simp only [Nat.add_zero] at AL
  rw [if_neg (by omega)] at AL
  exact ⟨vs, Q', t, en, AS, by omega, AL⟩
theorem ArgM.mk {G : Gmx} {w2 wr w4 : World} {Q Q' : Nat → Prop} {s t : Ss} {b0 f b' : Nat} {gs es : Exps} {e : Exp} {av : Value} {vs : List Int} {v : Int} {nr : Nat} (AS : ArgS G w2 Q wr av vs Q' t 0) (hl : vs.length + szEs (.cons e es) ≤ szEs gs) (Rt : Rl vs.length nr s t) (hnr : nr + cntR G.P0 b' (.cons e es) = cntR G.P0 b0 gs) (lt : t.loc = s.loc) (hvs : vs.length + cntI G.P0 b' (.cons e es) = cntI G.P0 b0 gs) (hev : ∀ r, EvI G.P0 (bodyI G.P0 (.args f b' (.cons e es) vs) t) r → EvI G.P0 (bodyI G.P0 (.args f b0 gs []) s) r)
    (h : Fat G wr Q' w4 t (duT (tyA G.P0 (rtN b' e))) (drT (tyA G.P0 (rtN b' e))) (bodyI G.P0 (.ev b' e) t) v) : ArgM G w2 Q s b0 f gs (b' + szE e) es w4 av (tyA G.P0 (rtN b' e)) v := by
  have hl' : vs.length + 1 + szEs es ≤ szEs gs := by have := szE_pos e; simp only [szEs] at hl; omega
  have eI : cntI G.P0 b' (.cons e es) = duT (tyA G.P0 (rtN b' e)) + cntI G.P0 (b' + szE e) es := by
    simp only [cntI]
    unfold duT
    by_cases h : 2 ≤ tyA G.P0 (rtN b' e)
    · rw [if_pos h, if_neg (by omega)]
    · rw [if_neg h, if_pos (by omega)]
  have eR : cntR G.P0 b' (.cons e es) = drT (tyA G.P0 (rtN b' e)) + cntR G.P0 (b' + szE e) es := by
    simp only [cntR]
    unfold drT
    by_cases h : 2 ≤ tyA G.P0 (rtN b' e)
    · rw [if_pos h, if_neg (by omega)]
    · rw [if_neg h, if_pos (by omega)]
  rcases h with ⟨t2, g2, M2, S2, R2, l2⟩ | ⟨en, tt, s', g2, hen, M2, h1, h2, h3, h4⟩
  · refine ⟨vs, _, t2, 0, AS.step M2, hl', .inl ⟨rfl, S2, ⟨_, Rt.trans R2, by omega⟩, l2.trans lt, by omega, fun r hr => hev r ?_⟩⟩
    simp only [bodyI]
    exact g2.ok hr.on
  · refine ⟨vs, _, s', en, AS.step M2, hl', .inr ⟨hen, h3, h4, tt, hev _ ?_, h1, h2⟩⟩
    simp only [bodyI]
    exact g2.stop
set_option maxRecDepth 100000 in
set_option maxHeartbeats 2000000 in
theorem ev_call {G : Gmx} (K : G.Ok) {fm : Int} {n : Nat} (I : EvC G fm n) (J : InvC G fm) (nm : ByteArray) (p : Int) (gs : Exps) (he : szEs gs ≤ n) {w : World} {Q : Nat → Prop} {s : Ss} {b : Nat} {nx x : Int} {li lr : Nat} {lv : Value} (E : Ev0 G w Q s lv li lr) (hf : s.fuel ≤ fm) (hsz : szEs gs ≤ 200) (L : Lie G.ns b (flE b nx (.call nm p gs))) (hx : x = rtE b (.call nm p gs)) (W : WtE G.P0 li lr b (.call nm p gs)) : Calls Tryz.prog 79 #[.pointer (some ⟨G.r, 0, none⟩), .int .i64 x, lv, .int .i64 (s.rb : Nat)] w (EvR G w Q s (tyA G.P0 (rtN b (.call nm p gs))) (bodyI G.P0 (.ev b (.call nm p gs)) s)) := by
  rw [rtE_nat] at hx
  subst hx
  simp only [flE] at L
  obtain ⟨L1, hN⟩ := Lie.call L
  clear L
  have ek : b + szE (.call nm p gs) - 1 = b + szEs gs := by simp only [szE]; omega
  have hty : tyA G.P0 (rtN b (.call nm p gs)) = tyA G.P0 (b + szEs gs) := by unfold rtN; rw [ek]
  rw [hty, ek]
  obtain ⟨k, hk⟩ : ∃ k, k = b + szEs gs := ⟨_, rfl⟩
  obtain ⟨nd, hnd⟩ : ∃ nd : Nd, nd = ⟨13, hdE b gs, -1, -1, nx, 0, p, nm⟩ := ⟨_, rfl⟩
  rw [← hk, ← hnd] at hN
  rw [← hk]
  simp only [WtE] at W
  obtain ⟨W1, W2, W3, W4, W5⟩ := W
  rw [← hk] at W2 W3 W4 W5
  obtain ⟨ov, O, Hv⟩ := E.H
  have c10 := Hv.c10
  have c17 := Hv.c17
  have rlt := Hv.rlt
  have hnl := Hv.an.nl
  obtain ⟨vb, evb, vlt, hkl, n0, n1, n2, n3, n4, n5, n6, n7⟩ := Hv.an.hv.at hN
  rw [evb] at c10
  have N0 := Nb.mk' E nd
  have HK : Hid (True ∧ _) := ⟨trivial, And.intro hk (And.intro hnd (And.intro hN N0))⟩
  clear hk hnd evb hN N0 Hv E ek hty
  go_enter Tryz.func79, Tryz.ntmps79
  go_upto_region 4 with fail
  obtain ⟨_, hk, hnd, hN, N⟩ := HK.out
  obtain ⟨w2, hw2⟩ : ∃ w2, w2 = w.alloc (.cells #[.int .i64 nd.kind, .int .i64 nd.a, .int .i64 nd.b, .int .i64 nd.c, .int .i64 nd.nx, .int .i64 nd.val, .int .i64 nd.pos, .string nd.name] 145) := ⟨_, rfl⟩
  obtain ⟨nb, hnb⟩ : ∃ nb, nb = w.heap.size := ⟨_, rfl⟩
  rw [← hw2, ← hnb] at N
  rw [← hw2, ← hnb]
  clear hw2 hnb c10 c17 rlt n0 n1 n2 n3 n4 n5 n6 n7 HK ov O vlt
  have d0 : nd.kind = 13 := by rw [hnd]
  have Bn := N.bk
  have m0 : w2.cell? ⟨nb, 0, none⟩ = some (.int .i64 nd.kind) := Bn.cell (o := 0) (by omega)
  have m1 : w2.cell? ⟨nb, 1, none⟩ = some (.int .i64 nd.a) := Bn.cell (o := 1) (by omega)
  have m2 : w2.cell? ⟨nb, 2, none⟩ = some (.int .i64 nd.b) := Bn.cell (o := 2) (by omega)
  have m3 : w2.cell? ⟨nb, 3, none⟩ = some (.int .i64 nd.c) := Bn.cell (o := 3) (by omega)
  have m4 : w2.cell? ⟨nb, 4, none⟩ = some (.int .i64 nd.nx) := Bn.cell (o := 4) (by omega)
  have m5 : w2.cell? ⟨nb, 5, none⟩ = some (.int .i64 nd.val) := Bn.cell (o := 5) (by omega)
  have m6 : w2.cell? ⟨nb, 6, none⟩ = some (.int .i64 nd.pos) := Bn.cell (o := 6) (by omega)
  rw [d0] at m0
  have nbl := Bn.lt
  clear d0 Bn
  have eT : duT (tyA G.P0 k) = duT (fiA G.P0 (rfA G.P0 k)).ret ∧ drT (tyA G.P0 k) = drT (fiA G.P0 (rfA G.P0 k)).ret := by
    unfold duT drT
    by_cases h : 2 ≤ tyA G.P0 k
    · rw [if_pos h, if_pos h, if_pos (W5.1 h), if_pos (W5.1 h)]; exact ⟨rfl, rfl⟩
    · rw [if_neg h, if_neg h, if_neg (fun x => h (W5.2 x)), if_neg (fun x => h (W5.2 x))]; exact ⟨rfl, rfl⟩
  have hb0 : bodyI G.P0 (.ev b (.call nm p gs)) s = .call (.args (rfA G.P0 k) b gs []) s goOn := by rw [hk]; simp only [bodyI]
  obtain ⟨fi, hfi⟩ : ∃ fi, fi = rfA G.P0 k := ⟨_, rfl⟩
  rw [← hfi] at W2 W3 W4 eT hb0
  obtain ⟨ha, hha⟩ : ∃ ha, ha = hdE b gs := ⟨_, rfl⟩
  have e1 : nd.a = ha := by rw [hnd, hha]
  rw [e1] at m1
  have A0 : ArgL G w2 Q s b fi gs b gs w2 (.slice none 0 0) := ⟨[], Q, s, 0, ⟨N.e2.H, Fr.refl _ _, fun b hb => .inl hb, N.e2.lt.1, .inl ⟨rfl, rfl⟩, fun b hb => absurd hb (nil_noB b), N.e2.H.sb⟩, by simp, .inl ⟨rfl, N.e2.sb, ⟨0, Rl.refl s, by simp⟩, rfl, by simp, fun r h => h⟩⟩
  have HF : Hid (True ∧ _) := ⟨trivial, And.intro N (And.intro eT (And.intro hb0 (And.intro hfi (And.intro W2 (And.intro W3 (And.intro W4 (And.intro K (And.intro I (And.intro J (And.intro hf hha))))))))))⟩
  clear N hnd hN hk eT hb0 hfi W2 W3 W4 W5 K I J hf hha e1
  go_wp2_with fail
  go_loopg [23, 24] (szEs gs) (fun gm av xv wr => ∃ (b' : Nat) (es : Exps), xv = .int .i64 (hdE b' es) ∧ Lie G.ns b' (flEs b' es) ∧ WtEs G.P0 li lr b' es ∧ szEs es ≤ gm ∧ szEs es ≤ n ∧ ArgL G w2 Q s b fi gs b' es wr av)
  case atStart => exact ⟨b, gs, by rw [HF.out.2.2.2.2.2.2.2.2.2.2.2.2], L1, W1, Nat.le_refl _, he, A0⟩
  case round =>
    obtain ⟨b', es, rfl, L', W', hg, hn', A⟩ := hrel
    have Hg : Hid (True ∧ _) := ⟨trivial, And.intro hg hn'⟩
    clear hg hn' A0 m0 m1 m2 m3 m4 m5 m6 nbl
    cases es with
    | nil =>
      have hI : decide ((-1 : Int) ≥ 0) = false := rfl
      obtain ⟨vs, Q', t, en, AS, hvl, AL⟩ := A
      obtain ⟨_, N, eT, hb0, hfi, W2, W3, W4, K, I, J, hf, -⟩ := HF.out
      rcases AL with ⟨rfl, St, ⟨nr, Rt, hnr⟩, lt, hvs, hev⟩ | ⟨hen, h24, ho24, tt, htt, h1, h2⟩
      · obtain ⟨ov, O, Hv⟩ := AS.rm
        have c17 := Hv.c17
        have rlt := Hv.rlt
        obtain ⟨rb, erb, rblt, rc⟩ := Hv.an.hr.at (i := k) (by rw [K.rl]; exact hkl)
        have c5 := Hv.c5
        rw [erb, K.rl] at c5
        obtain ⟨_, _, _, CM⟩ := K.cm
        have h200 : G.P0.fns.length ≤ 200 := CM.fn
        rw [rfA_get (n := 200) (by rw [← hfi]; omega) (by omega), ← hfi] at rc
        have e0 : cntI G.P0 b' .nil = 0 := rfl
        have e0' : cntR G.P0 b' .nil = 0 := rfl
        rw [e0, W3] at hvs
        rw [e0', W4] at hnr
        have hvs' : vs.length = (fiA G.P0 fi).pi := by omega
        have hnr' : nr = (fiA G.P0 fi).pr := by omega
        have q := J wr Q' s t fi u23 vs AS.rm St N.e2.sb (Int.le_trans Rt.fu hf) AS.ki (fun b hb => (AS.ab b hb).1) W2 hvs' (by rw [← hvs', ← hnr']; exact Rt) lt
        have HQ : Hid (True ∧ _) := ⟨trivial, And.intro AS hev⟩
        have hki : (k : Int) < G.ns.length := by omega
        clear N eT hb0 hfi W2 W3 W4 K I J hf AS St Rt hnr lt hvs hev Hv erb CM h200 hvs' hnr' hvl e0 e0'
        simp only [hdE]
        go_wp2_with fail
        refine q.mono ?_
        rintro z w4 ⟨v, rfl, h⟩
        have HR : Hid (True ∧ _) := ⟨trivial, h⟩
        clear q h
        go_wp2_with fail
        go_ret
        obtain ⟨_, N, eT, hb0, hfi, W2, W3, W4, K, I, J, hf, -⟩ := HF.out
        obtain ⟨_, AS, hev⟩ := HQ.out
        refine ⟨v, rfl, N.fat ?_⟩
        rw [eT.1, eT.2, hb0]
        exact Fat.lift AS HR.out.2 fun r hr => (hev r (by simp only [bodyI]; exact hr.on)).on
      · obtain ⟨ov, O, Hv⟩ := AS.rm
        have c17 := Hv.c17
        have rlt := Hv.rlt
        have yy : (en != 0) = true := by simpa using hen
        have HQ : Hid (True ∧ _) := ⟨trivial, And.intro AS (And.intro hen (And.intro h24 (And.intro ho24 (And.intro htt (And.intro h1 h2)))))⟩
        clear N eT hb0 hfi W2 W3 W4 K I J hf AS hen h24 ho24 htt h1 h2 Hv hvl
        simp only [hdE]
        go_wp2_with fail
        go_ret
        obtain ⟨_, N, eT, hb0, hfi, W2, W3, W4, K, I, J, hf, -⟩ := HF.out
        obtain ⟨_, AS, hen, h24, ho24, htt, h1, h2⟩ := HQ.out
        refine ⟨0, rfl, N.fat (.inr ?_)⟩
        rw [hb0]
        exact ⟨en, tt, t, htt.on, hen, AS.mm, h1, h2, h24, ho24⟩
    | cons e es =>
      obtain ⟨Le, Les⟩ := L'.args
      simp only [WtEs] at W'
      obtain ⟨_, N, eT, hb0, hfi, W2, W3, W4, K, I, J, hf, -⟩ := HF.out
      obtain ⟨_, hg, hn'⟩ := Hg.out
      have hse : szE e ≤ n := by simp only [szEs] at hn'; omega
      obtain ⟨nd', hnd', _, _, hnx'⟩ := Le.root
      have hroot := rtE_nat b' e
      obtain ⟨rt, hrt⟩ : ∃ rt, rt = b' + szE e - 1 := ⟨_, rfl⟩
      have hrtN : rtN b' e = rt := by rw [hrt]; rfl
      rw [← hrt] at hroot hnd'
      have hge : decide (((rt : Nat) : Int) ≥ 0) = true := decide_eq_true (by omega)
      have hge2 : decide ((0 : Int) ≤ ((rt : Nat) : Int)) = true := decide_eq_true (by omega)
      have hrl : rt < G.ns.length := (List.getElem?_eq_some_iff.1 hnd').1
      have q : Calls Tryz.prog 79 #[.pointer (some ⟨G.r, 0, none⟩), .int .i64 (rt : Nat), lv, .int .i64 (s.rb : Nat)] wr fun z w4 => ∃ v, z = .returned (.int .i64 v) ∧ ArgM G w2 Q s b fi gs (b' + szE e) es w4 u23 (tyA G.P0 rt) v := by
        obtain ⟨vs, Q', t, en, AS, hvl, AL⟩ := A
        rcases AL with ⟨rfl, St, ⟨nr, Rt, hnr⟩, lt, hvs, hev⟩ | ⟨hen, h24, ho24, tt, htt, h1, h2⟩
        · have E' : Ev0 G wr Q' t lv li lr := ⟨AS.rm, St, by rw [lt]; exact N.e2.loc.frame AS.fr N.e2.lq, fun b hb hq => (AS.qs b hq).elim (N.e2.lq b hb) fun h => by have := N.e2.loc.bk hb; omega, by rw [lt]; exact N.e2.ll, by rw [Rt.rb, Rt.rt]; have := N.e2.rb; omega, N.e2.l12, N.e2.ls⟩
          have q := I e hse wr Q' t b' _ _ li lr lv E' (Int.le_trans Rt.fu hf) Le rfl W'.1
          rw [hroot, Rt.rb] at q
          refine q.mono ?_
          rintro z w4 ⟨v, rfl, h⟩
          refine ⟨v, rfl, ?_⟩
          rw [← hrtN]
          exact ArgM.mk AS hvl Rt hnr lt hvs hev h
        · obtain ⟨ov, O, Hv⟩ := AS.rm
          refine (eval_dead (G := G) (x := .int .i64 (rt : Nat)) (lv := lv) (rb := .int .i64 (s.rb : Nat)) hen Hv.c17).mono ?_
          rintro z w4 ⟨rfl, hw4⟩
          subst w4
          exact ⟨0, rfl, vs, Q', t, en, AS, by have := szE_pos e; simp only [szEs] at hvl; omega, .inr ⟨hen, h24, ho24, tt, htt, h1, h2⟩⟩
      have HQ : Hid (True ∧ _) := ⟨trivial, And.intro Les (And.intro W'.2 (And.intro K (And.intro hnd' (And.intro hnx' (And.intro hg hn')))))⟩
      simp only [hdE]
      rw [hroot]
      clear N eT hb0 hfi W2 W3 W4 K I J hf A Le Les L' W' hse hnd' hnx' hroot hrt hrtN hg hn'
      go_wp2_with fail
      refine q.mono ?_
      rintro z w4 ⟨v, rfl, A⟩
      clear q
      obtain ⟨_, Les, W', K, hnd', hnx', hg, hn'⟩ := HQ.out
      have hmz : gk - szE e < gk := by have := szE_pos e; simp only [szEs] at hg; omega
      have hms : szEs es ≤ gk - szE e ∧ szEs es ≤ n := by simp only [szEs] at hg hn'; omega
      obtain ⟨vs, Q', t, en, AS, hvl, AL⟩ := A
      obtain ⟨ov, O, Hv⟩ := AS.rm
      have rlt := Hv.rlt
      have hnl2 := Hv.an.nl
      obtain ⟨tb, etb, tlt, tc⟩ := Hv.an.ht.at (i := rt) (by rw [K.tl]; exact hrl)
      have c4 := Hv.c4
      rw [etb, K.tl] at c4
      have ety : G.P0.ty.getD rt (-1) = tyA G.P0 rt := rfl
      rw [ety] at tc
      by_cases hty : tyA G.P0 rt < 2
      · have z1 : decide (tyA G.P0 rt < 2) = true := decide_eq_true hty
        have kA := (Fr.refl (fun _ => False) w4).alloc (.cells #[.int .i64 v] 3)
        have ASA := AS.same kA
        have hO := ASA.ki
        have hmade : KiP (w4.alloc (.cells #[.int .i64 v] 3)) w4.heap.size [v] := KiP.one ((Blk.new w4 #[.int .i64 v] 3 (fun _ => .int .i64 v) (fun o ho => by
          have ho : o < 1 := by simpa using ho
          obtain rfl : o = 0 := by omega
          rfl)).cell (by simp))
        have HA : Hid (True ∧ _) := ⟨trivial, And.intro ASA (And.intro AL hvl)⟩
        have hvl2 : vs.length ≤ 200 := by omega
        have HK2 : Hid (True ∧ _) := ⟨trivial, And.intro K (And.intro hnd' (And.intro hnx' (And.intro Les (And.intro W' (And.intro hms hty)))))⟩
        clear AS ASA AL hvl kA Hv etb ety K hnd' hnx' Les W' hg hn' HQ hty
        go_wp2_with (
          at_builtin
          refine wpList_appendI (by rfl) _ _ (by rfl) _ _ [v] _ 1 1 (by rfl) (by rfl) rfl hO hmade (.inr (by simp)) (by simp only [List.length_cons, List.length_nil]; omega) ?_
          intro v' w8 hc5 hb5 f5
          have AS8 := HA.out.2.1.app f5 hc5 hb5
          obtain ⟨ov8, O8, Hv8⟩ := AS8.rm
          have rlt := Hv8.rlt
          have c10 := Hv8.c10
          obtain ⟨vb8, evb8, vlt8, _, _, _, _, _, n4, _⟩ := Hv8.an.hv.at HK2.out.2.2.1
          rw [evb8] at c10
          rw [HK2.out.2.2.2.1] at n4
          have H8 : Hid (True ∧ _) := ⟨trivial, AS8⟩
          clear hc5 hb5 f5 AS8 Hv8 evb8 c4 tc tlt hO hmade)
        go_roundg (gk - szE e)
        case measure => exact hmz
        case rel =>
          obtain ⟨_, K, hnd', hnx', Les, W', hms, hty⟩ := HK2.out
          obtain ⟨_, _, AL, hvl⟩ := HA.out
          refine ⟨b' + szE e, es, rfl, Les, W', hms.1, hms.2, vs ++ [v], Q', t, en, H8.out.2, by simp only [List.length_append, List.length_cons, List.length_nil]; omega, ?_⟩
          have e1 := (duT_i hty).1
          rw [e1, if_pos hty] at AL
          simp only [List.length_append, List.length_cons, List.length_nil]
          exact AL
      · have z1 : decide (tyA G.P0 rt < 2) = false := decide_eq_false hty
        have c10 := Hv.c10
        obtain ⟨vb8, evb8, vlt8, _, _, _, _, _, n4, _⟩ := Hv.an.hv.at hnd'
        rw [evb8] at c10
        rw [hnx'] at n4
        have HA : Hid (True ∧ _) := ⟨trivial, And.intro Les (And.intro W' (And.intro hms (ArgM.ref ⟨vs, Q', t, en, AS, hvl, AL⟩ (by omega))))⟩
        clear AS AL hvl Hv etb ety K hnd' hnx' Les W' hg hn' HQ evb8 hty
        go_wp2_with fail
        go_roundg (gk - szE e)
        case measure => exact hmz
        case rel =>
          obtain ⟨_, Les, W', hms, A⟩ := HA.out
          exact ⟨b' + szE e, es, rfl, Les, W', hms.1, hms.2, A⟩
end Go.Proofs.Qxb6500277aGreat
