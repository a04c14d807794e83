/- The definitional interpreter: exec begins. -/
import Derived.Test.Qxb6500277aGreatGM14
namespace Go.Proofs.Qxb6500277aGreat
open Go Go.RowKit

/-- exec over all statements and blocks of at most n nodes, with fuel at most fm. -/
def XeC (G : Gmx) (fm : Int) (n : Nat) : Prop :=
  (∀ (x : Stm), szS x ≤ n → ∀ (w : World) (Q : Nat → Prop) (s : Ss) (b : Nat) (nx : Int) (li lr : Nat) (lv : Value) (ret : Int), Ev0 G w Q s lv li lr → s.fuel ≤ fm → Lie G.ns b (flS b nx x) → WtS G.P0 li lr ret b x →
    Calls Tryz.prog 56 #[.pointer (some ⟨G.r, 0, none⟩), .int .i64 ((b + szS x - 1 : Nat) : Int), lv, .int .i64 (s.rb : Nat)] w (ExR G w Q lv s ret (bodyI G.P0 (.st b x) s))) ∧
  (∀ (ss : Stms), szSs ss + 1 ≤ n → ∀ (w : World) (Q : Nat → Prop) (s : Ss) (b k : Nat) (p : Int) (li lr : Nat) (lv : Value) (ret : Int), Ev0 G w Q s lv li lr → s.fuel ≤ fm → Lie G.ns b (flSs b ss) → G.ns[k]? = some ⟨2, hdS b ss, -1, -1, -1, 0, p, ⟨#[]⟩⟩ → WtSs G.P0 li lr ret b ss →
    Calls Tryz.prog 56 #[.pointer (some ⟨G.r, 0, none⟩), .int .i64 (k : Nat), lv, .int .i64 (s.rb : Nat)] w (ExR G w Q lv s ret (bodyI G.P0 (.sts b ss) s)))
section
variable {w w' w0 w1 w2 w3 : World} {G : Gmx} {s s' t t' : Ss} {en en' v : Int} {Q : Nat → Prop} {ov lv : Value} {du dr li lr : Nat} {m m' : Mi} {q : Ri} {ret : Int} {β : Bool}
theorem Liv.ls (E : Ev0 G w Q s lv li lr) (h : Liv G w Q w' s du dr m v) : ∃ t, EvI G.P0 m (.ok v t) ∧ Ls G w Q lv w' s du dr t ∧ t.loc = s.loc := by
  obtain ⟨t, a, b, c, d, e⟩ := h
  exact ⟨t, a, ⟨⟨b.1, b.2.1.mono fun _ _ x => .inl x, b.2.2⟩, by rw [e]; exact E.loc.frame b.2.1 E.lq, c, d⟩, e⟩
theorem Dth.dl (h : Dth G w Q w' m) (lv : Value) : Dl G w Q lv w' m := by
  obtain ⟨en, t, s', a, b, c, d⟩ := h
  exact ⟨en, t, s', a, b, ⟨c.1, c.2.1.mono fun _ _ x => .inl x, c.2.2⟩, d⟩
theorem ExF.map (hm : ∀ r, EvI G.P0 m r → EvI G.P0 m' r) (h : ExF G w Q lv w' s ret m β v) : ExF G w Q lv w' s ret m' β v := by
  rcases h with ⟨a, z, v0, t, b, c⟩ | ⟨a, t, b, c⟩ | ⟨a, e, t, s', b, c⟩
  · exact .inl ⟨a, z, v0, t, hm _ b, c⟩
  · exact .inr (.inl ⟨a, t, hm _ b, c⟩)
  · exact .inr (.inr ⟨a, e, t, s', hm _ b, c⟩)
theorem ExF.call {k : Int → Ss → Mi} {u : Int} (h1 : EvI G.P0 (bodyI G.P0 q t) (.ok u t')) (h : ExF G w Q lv w' s ret (k u t') β v) : ExF G w Q lv w' s ret (.call q t k) β v := h.map fun _ hr => h1.ok hr
theorem ExF.on (h : ExF G w Q lv w' s ret (bodyI G.P0 q t) β v) : ExF G w Q lv w' s ret (.call q t goOn) β v := h.map fun _ hr => hr.on
theorem ExF.dead {k : Int → Ss → Mi} (h : Dl G w Q lv w' (bodyI G.P0 q t)) : ExF G w Q lv w' s ret (.call q t k) false v := .inr (.inr ⟨rfl, h.call⟩)
theorem ExF.done (u : Int) (h : Ls G w Q lv w' s 0 0 t) : ExF G w Q lv w' s ret (goOn u t) false 0 := .inl ⟨rfl, rfl, u, t, EvI.ret _, h⟩
theorem ExF.die {e : Int} (he : e ≠ 0) (h : Ml G w Q lv w' s' e) (h1 : s'.fuel = t.fuel) (h2 : s'.out = t.out) (h3 : s'.M.rt.length ≤ 24) (h4 : t.out.length ≤ 1024) : ExF G w Q lv w' s ret (dieI e t) false v := .inr (.inr ⟨rfl, Dl.die he h h1 h2 h3 h4⟩)
/-- A statement runs behind other things. -/
theorem Ls.exf (h : Ls G w Q lv w' s 0 0 t) (k : ExF G w' (Gw Q w w') lv w1 t ret m β v) : ExF G w Q lv w1 s ret m β v := by
  rcases k with ⟨a, z, v0, x, b, c⟩ | ⟨a, x, b, c⟩ | ⟨a, e, x, y, b, c, d, f⟩
  · exact .inl ⟨a, z, v0, x, b, h.ml.cat c.ml, c.lo, c.sb, by have := h.rl.trans c.rl; simpa using this⟩
  · exact .inr (.inl ⟨a, x, b, h.ml.cat c.ml, c.lo, c.sb, by have := h.rl.trans c.rl; simpa using this⟩)
  · exact .inr (.inr ⟨a, e, x, y, b, c, h.ml.cat d, f⟩)
theorem Nb.lvn {nb : Nat} {nd : Nd} (N : Nb G w w2 Q s lv li lr nb nd) (hn : nb = w.heap.size) : ¬ isB lv nb := fun h => by have := N.e0.loc.bk h; omega
end
set_option maxRecDepth 100000 in
theorem exec_dead {w : World} {G : Gmx} {en : Int} {x lv rb : Value} (he : en ≠ 0) (c17 : w.cell? ⟨G.r, 17, none⟩ = some (.int .i64 en)) : Calls Tryz.prog 56 #[.pointer (some ⟨G.r, 0, none⟩), x, lv, rb] w fun e w' => e = .returned (.tuple #[.bool false, .int .i64 0]) ∧ w' = w := by
  have y1 : (en != 0) = true := by simpa using he
  clear he
  go_enter Tryz.func56, Tryz.ntmps56
  go_wp2_with fail
  go_ret2
  exact ⟨rfl, rfl⟩
set_option maxRecDepth 100000 in
set_option maxHeartbeats 2000000 in
theorem ex_vd {G : Gmx} (K : G.Ok) {fm : Int} {n : Nat} (I : EvC G fm n) (nm : ByteArray) (p o : Int) (e1 : Exp) (he : szE e1 ≤ n) {w : World} {Q : Nat → Prop} {s : Ss} {b : Nat} {nx : Int} {li lr : Nat} {lv : Value} {ret : Int} (E : Ev0 G w Q s lv li lr) (hf : s.fuel ≤ fm) (L : Lie G.ns b (flS b nx (.vd nm p o e1))) (W : WtS G.P0 li lr ret b (.vd nm p o e1)) : Calls Tryz.prog 56 #[.pointer (some ⟨G.r, 0, none⟩), .int .i64 ((b + szS (.vd nm p o e1) - 1 : Nat) : Int), lv, .int .i64 (s.rb : Nat)] w (ExR G w Q lv s ret (bodyI G.P0 (.st b (.vd nm p o e1)) s)) := by
  simp only [flS] at L
  obtain ⟨L1, hN⟩ := L.un
  clear L
  have ek : b + szS (.vd nm p o e1) - 1 = b + szE e1 := by simp only [szS]; omega
  rw [ek]
  obtain ⟨k, hk⟩ : ∃ k, k = b + szE e1 := ⟨_, rfl⟩
  obtain ⟨nd, hnd⟩ : ∃ nd : Nd, nd = ⟨3, rtE b e1, -1, -1, nx, o, p, nm⟩ := ⟨_, rfl⟩
  rw [← hk, ← hnd] at hN
  rw [← hk]
  obtain ⟨ov, O, Hv⟩ := E.H
  have c10 := Hv.c10
  have c17 := Hv.c17
  have rlt := Hv.rlt
  have hnl := Hv.an.nl
  obtain ⟨vb, evb, vlt, hkl, n0, n1, n2, n3, n4, n5, n6, n7⟩ := Hv.an.hv.at hN
  rw [evb] at c10
  have N0 := Nb.mk' E nd
  have HK : Hid (True ∧ _) := ⟨trivial, And.intro hk (And.intro hnd (And.intro hN (And.intro N0 E)))⟩
  clear hk hnd evb hN N0 Hv E ek
  go_enter Tryz.func56, Tryz.ntmps56
  go_upto_region 4 with fail
  obtain ⟨_, hk, hnd, hN, N, E⟩ := HK.out
  obtain ⟨w2, hw2⟩ : ∃ w2, w2 = w.alloc (.cells #[.int .i64 nd.kind, .int .i64 nd.a, .int .i64 nd.b, .int .i64 nd.c, .int .i64 nd.nx, .int .i64 nd.val, .int .i64 nd.pos, .string nd.name] 145) := ⟨_, rfl⟩
  obtain ⟨nb, hnb⟩ : ∃ nb, nb = w.heap.size := ⟨_, rfl⟩
  rw [← hw2, ← hnb] at N
  rw [← hw2, ← hnb]
  have hlvn := N.lvn hnb
  clear hw2 hnb c10 c17 rlt n0 n1 n2 n3 n4 n5 n6 n7 HK ov O vlt E
  have d0 : nd.kind = 3 := by rw [hnd]
  have Bn := N.bk
  have m0 : w2.cell? ⟨nb, 0, none⟩ = some (.int .i64 nd.kind) := Bn.cell (o := 0) (by omega)
  have m1 : w2.cell? ⟨nb, 1, none⟩ = some (.int .i64 nd.a) := Bn.cell (o := 1) (by omega)
  have m2 : w2.cell? ⟨nb, 2, none⟩ = some (.int .i64 nd.b) := Bn.cell (o := 2) (by omega)
  have m3 : w2.cell? ⟨nb, 3, none⟩ = some (.int .i64 nd.c) := Bn.cell (o := 3) (by omega)
  have m4 : w2.cell? ⟨nb, 4, none⟩ = some (.int .i64 nd.nx) := Bn.cell (o := 4) (by omega)
  have m5 : w2.cell? ⟨nb, 5, none⟩ = some (.int .i64 nd.val) := Bn.cell (o := 5) (by omega)
  have m6 : w2.cell? ⟨nb, 6, none⟩ = some (.int .i64 nd.pos) := Bn.cell (o := 6) (by omega)
  rw [d0] at m0
  have nbl := Bn.lt
  clear d0 Bn
  simp only [WtS] at W
  obtain ⟨W1, W2, W3⟩ := W
  rw [← hk] at W3
  have q := I e1 he w2 Q s b _ nd.a li lr lv N.e2 hf L1 (by rw [hnd]) W1
  have HF : Hid (True ∧ _) := ⟨trivial, And.intro N (And.intro hnd (And.intro hk (And.intro W2 (And.intro W3 K))))⟩
  clear N hnd hk W1 W2 W3 K I hN L1 he hf
  go_wp2_with fail
  refine q.mono ?_
  rintro z w3 ⟨v1, rfl, h⟩
  clear q m0 m1 m2 m3 m4 m5 m6 nbl
  obtain ⟨_, N, hnd, hk, W2, W3, K⟩ := HF.out
  have Bn := N.b h.fr
  have m5 : w3.cell? ⟨nb, 5, none⟩ = some (.int .i64 nd.val) := Bn.cell (o := 5) (by omega)
  have nbl := Bn.lt
  have e5 : nd.val = o := by rw [hnd]
  rw [e5] at m5
  clear Bn e5
  rcases h with h | h
  · obtain ⟨t1, g1, S1, l1⟩ := h.ls N.e2
    have q2 : Calls Tryz.prog 80 #[.pointer (some ⟨G.r, 0, none⟩), .int .i64 (k : Nat), .int .i64 o, .int .i64 v1, lv, .int .i64 (s.rb : Nat)] w3 fun e w' => e = .returned (.tuple #[]) ∧ ∃ t', StR G w2 Q lv s t1 k o v1 w' t' := by
      by_cases ho : 2 ≤ o
      · have := W2.1 ho
        rw [(duT_r this).1, (duT_r this).2] at S1
        unfold slotOk at W3
        rw [if_pos ho] at W3
        exact store_r K N.e2 S1 hkl ho W3
      · have h2 : tyA G.P0 (rtN b e1) < 2 := by
          have := fun x => ho (W2.2 x)
          omega
        rw [(duT_i h2).1, (duT_i h2).2] at S1
        unfold slotOk at W3
        rw [if_neg ho] at W3
        exact store_i K N.e2 S1 hkl (by omega) W3
    have HM : Hid (True ∧ _) := ⟨trivial, g1⟩
    clear N hnd hk W2 W3 K g1 S1 l1 h
    go_wp2_with fail
    refine q2.mono ?_
    rintro z w4 ⟨rfl, t2, h2⟩
    have HG : Hid (True ∧ _) := ⟨trivial, h2⟩
    clear q2 h2
    go_wp2_with fail
    go_ret2
    obtain ⟨_, N, hnd, hk, W2, W3, K⟩ := HF.out
    refine ⟨false, 0, rfl, N.exf ?_⟩
    simp only [bodyI]
    refine ExF.call HM.out.2 ?_
    rw [← hk, HG.out.2.eq]
    exact ExF.done 0 HG.out.2.ls
  · obtain ⟨en, he, c17, rlt⟩ := h.c17
    have q2 := store_dead (G := G) (x := .int .i64 (k : Nat)) (ty := .int .i64 o) (v := .int .i64 v1) (lv := lv) (rb := .int .i64 (s.rb : Nat)) he c17
    have HD : Hid (True ∧ _) := ⟨trivial, h⟩
    clear h he N hnd hk W2 W3 K
    go_wp2_with fail
    refine q2.mono ?_
    rintro z w4 ⟨rfl, hw4⟩
    subst w4
    clear q2
    go_wp2_with fail
    go_ret2
    obtain ⟨_, N, hnd, hk, W2, W3, K⟩ := HF.out
    refine ⟨false, 0, rfl, N.exf ?_⟩
    simp only [bodyI]
    exact ExF.dead (HD.out.2.dl lv)
set_option maxRecDepth 100000 in
set_option maxHeartbeats 2000000 in
theorem ex_ret {G : Gmx} {fm : Int} {n : Nat} (I : EvC G fm n) (p : Int) (e1 : Exp) (he : szE e1 ≤ n) {w : World} {Q : Nat → Prop} {s : Ss} {b : Nat} {nx : Int} {li lr : Nat} {lv : Value} {ret : Int} (E : Ev0 G w Q s lv li lr) (hf : s.fuel ≤ fm) (L : Lie G.ns b (flS b nx (.ret p e1))) (W : WtS G.P0 li lr ret b (.ret p e1)) : Calls Tryz.prog 56 #[.pointer (some ⟨G.r, 0, none⟩), .int .i64 ((b + szS (.ret p e1) - 1 : Nat) : Int), lv, .int .i64 (s.rb : Nat)] w (ExR G w Q lv s ret (bodyI G.P0 (.st b (.ret p e1)) s)) := by
  simp only [flS] at L
  obtain ⟨L1, hN⟩ := L.un
  clear L
  have ek : b + szS (.ret p e1) - 1 = b + szE e1 := by simp only [szS]; omega
  rw [ek]
  obtain ⟨k, hk⟩ : ∃ k, k = b + szE e1 := ⟨_, rfl⟩
  obtain ⟨nd, hnd⟩ : ∃ nd : Nd, nd = ⟨7, rtE b e1, -1, -1, nx, 0, p, ⟨#[]⟩⟩ := ⟨_, rfl⟩
  rw [← hk, ← hnd] at hN
  rw [← hk]
  obtain ⟨ov, O, Hv⟩ := E.H
  have c10 := Hv.c10
  have c17 := Hv.c17
  have rlt := Hv.rlt
  have hnl := Hv.an.nl
  obtain ⟨vb, evb, vlt, hkl, n0, n1, n2, n3, n4, n5, n6, n7⟩ := Hv.an.hv.at hN
  rw [evb] at c10
  have N0 := Nb.mk' E nd
  have HK : Hid (True ∧ _) := ⟨trivial, And.intro hk (And.intro hnd (And.intro hN (And.intro N0 E)))⟩
  clear hk hnd evb hN N0 Hv E ek
  go_enter Tryz.func56, Tryz.ntmps56
  go_upto_region 4 with fail
  obtain ⟨_, hk, hnd, hN, N, E⟩ := HK.out
  obtain ⟨w2, hw2⟩ : ∃ w2, w2 = w.alloc (.cells #[.int .i64 nd.kind, .int .i64 nd.a, .int .i64 nd.b, .int .i64 nd.c, .int .i64 nd.nx, .int .i64 nd.val, .int .i64 nd.pos, .string nd.name] 145) := ⟨_, rfl⟩
  obtain ⟨nb, hnb⟩ : ∃ nb, nb = w.heap.size := ⟨_, rfl⟩
  rw [← hw2, ← hnb] at N
  rw [← hw2, ← hnb]
  have hlvn := N.lvn hnb
  clear hw2 hnb c10 c17 rlt n0 n1 n2 n3 n4 n5 n6 n7 HK ov O vlt E
  have d0 : nd.kind = 7 := by rw [hnd]
  have Bn := N.bk
  have m0 : w2.cell? ⟨nb, 0, none⟩ = some (.int .i64 nd.kind) := Bn.cell (o := 0) (by omega)
  have m1 : w2.cell? ⟨nb, 1, none⟩ = some (.int .i64 nd.a) := Bn.cell (o := 1) (by omega)
  have m2 : w2.cell? ⟨nb, 2, none⟩ = some (.int .i64 nd.b) := Bn.cell (o := 2) (by omega)
  have m3 : w2.cell? ⟨nb, 3, none⟩ = some (.int .i64 nd.c) := Bn.cell (o := 3) (by omega)
  have m4 : w2.cell? ⟨nb, 4, none⟩ = some (.int .i64 nd.nx) := Bn.cell (o := 4) (by omega)
  have m5 : w2.cell? ⟨nb, 5, none⟩ = some (.int .i64 nd.val) := Bn.cell (o := 5) (by omega)
  have m6 : w2.cell? ⟨nb, 6, none⟩ = some (.int .i64 nd.pos) := Bn.cell (o := 6) (by omega)
  rw [d0] at m0
  have nbl := Bn.lt
  clear d0 Bn
  simp only [WtS] at W
  obtain ⟨W1, W2⟩ := W
  have q := I e1 he w2 Q s b _ nd.a li lr lv N.e2 hf L1 (by rw [hnd]) W1
  have HF : Hid (True ∧ _) := ⟨trivial, And.intro N (And.intro hnd (And.intro hk W2))⟩
  clear N hnd hk W1 W2 I hN L1 he hf
  go_wp2_with fail
  refine q.mono ?_
  rintro z w3 ⟨v1, rfl, h⟩
  clear q m0 m1 m2 m3 m4 m5 m6 nbl
  obtain ⟨_, N, hnd, hk, W2⟩ := HF.out
  rcases h with h | h
  · obtain ⟨t1, g1, S1, l1⟩ := h.ls N.e2
    obtain ⟨ov, O, Hv⟩ := S1.ml.1
    have c17 := Hv.c17
    have rlt := Hv.rlt
    have HM : Hid (True ∧ _) := ⟨trivial, And.intro g1 S1⟩
    clear N hnd hk W2 g1 S1 l1 h Hv
    go_wp2_with fail
    go_ret2
    obtain ⟨_, N, hnd, hk, W2⟩ := HF.out
    obtain ⟨_, g1, S1⟩ := HM.out
    refine ⟨true, v1, rfl, N.exf ?_⟩
    simp only [bodyI]
    refine ExF.call g1 (.inr (.inl ⟨rfl, t1, EvI.ret _, ?_⟩))
    have e1 : duT (tyA G.P0 (rtN b e1)) = duT ret ∧ drT (tyA G.P0 (rtN b e1)) = drT ret := by
      unfold duT drT
      by_cases h : 2 ≤ ret
      · rw [if_pos h, if_pos h, if_pos (W2.2 h), if_pos (W2.2 h)]; exact ⟨rfl, rfl⟩
      · rw [if_neg h, if_neg h, if_neg (fun x => h (W2.1 x)), if_neg (fun x => h (W2.1 x))]; exact ⟨rfl, rfl⟩
    rw [← e1.1, ← e1.2]
    exact S1
  · obtain ⟨en, he, c17, rlt⟩ := h.c17
    have yy : (en == 0) = false := by simpa using he
    have HD : Hid (True ∧ _) := ⟨trivial, h⟩
    clear h he N hnd hk W2
    go_wp2_with fail
    go_ret2
    obtain ⟨_, N, hnd, hk, W2⟩ := HF.out
    refine ⟨false, v1, rfl, N.exf ?_⟩
    simp only [bodyI]
    exact ExF.dead (HD.out.2.dl lv)
end Go.Proofs.Qxb6500277aGreat
