/- The code generator: expr, un, len, new, idx. -/
import Derived.Test.Qxb6500277aGreatGE9
namespace Go.Proofs.Qxb6500277aGreat
open Go Go.RowKit

set_option maxRecDepth 100000 in
set_option maxHeartbeats 2000000 in
theorem expr_un {G : Ge} {n : Nat} (I : ExG G n) (kk p : Int) (e : Exp) (hn : szE e ≤ n) (ht : TyE e) {w : World} {P : Nat → Prop} {B : Gb} {b : Nat} {nx x : Int} (h : GX w G.g P G.hd B) (hc : G.Cv w P) (L : Lie G.ns b (flE b nx (.un kk p e))) (hx : x = rtE b (.un kk p e)) (W : WtE G.P0 G.li G.lr b (.un kk p e)) (hl : B.code.length + nE (.un kk p e) ≤ 40000) : Calls Tryz.prog 192 #[.pointer (some ⟨G.g, 0, none⟩), .int .i64 x] w (EmR w G.g P G.hd (addE G.P0 B b (.un kk p e))) := by
  rw [rtE_nat] at hx
  subst hx
  simp only [flE] at L
  obtain ⟨L1, hN⟩ := L.un
  clear L
  simp only [WtE] at W
  simp only [nE] at hl
  obtain ⟨k, hk⟩ : ∃ k, k = b + szE e := ⟨_, rfl⟩
  rw [← hk] at hN
  have hke : b + szE (.un kk p e) - 1 = k := by rw [hk]; simp only [szE]; omega
  rw [hke]
  have hkl : k < G.ns.length := (List.getElem?_eq_some_iff.1 hN).1
  have qN := nodeG h hc hN
  obtain ⟨nd, hnd⟩ : ∃ nd : Nd, nd = ⟨19, rtE b e, -1, -1, nx, kk, p, ⟨#[]⟩⟩ := ⟨_, rfl⟩
  rw [← hnd] at qN hN
  have Hnd : Hid _ := And.intro hnd (And.intro hk hke)
  clear hnd hke hk
  go_enter Tryz.func192, Tryz.ntmps192
  go_wp2_with fail
  refine qN.mono ?_
  rintro v w1 ⟨rfl, f1⟩
  have N := Nw.mk' h hc f1 nd
  clear qN f1
  unfold ndV
  go_upto_region 1 with fail
  obtain ⟨nb, hnb⟩ : ∃ nb, nb = w1.heap.size := ⟨_, rfl⟩
  obtain ⟨w2, hw2⟩ : ∃ w2, w2 = w1.alloc (.cells #[.int .i64 nd.kind, .int .i64 nd.a, .int .i64 nd.b, .int .i64 nd.c, .int .i64 nd.nx, .int .i64 nd.val, .int .i64 nd.pos, .string nd.name] 145) := ⟨_, rfl⟩
  rw [← hw2, ← hnb] at N
  rw [← hw2, ← hnb]
  clear hw2 hnb h hc w1
  have d0 : nd.kind = 19 := by rw [Hnd.out.1]
  have d1 : nd.a = rtE b e := by rw [Hnd.out.1]
  have d5 : nd.val = kk := by rw [Hnd.out.1]
  have E := N.em
  have m0 : w2.cell? ⟨nb, 0, none⟩ = some (.int .i64 nd.kind) := N.bk.cell (by omega)
  have hnl := N.bk.lt
  rw [d0] at m0
  have m1 : w2.cell? ⟨nb, 1, none⟩ = some (.int .i64 nd.a) := (N.b E).cell (by omega)
  rw [d1] at m1
  have hnl_w2 := (N.b E).lt
  have q := I e hn ht w2 _ B b (-1) (rtE b e) E.1 (N.c E) L1 rfl W.1 (by first | omega | (simp only [addE_len]; omega))
  go_wp2_with fail
  refine q.mono ?_
  rintro v w3 ⟨rfl, hE⟩
  clear q
  have E3 := E.then (e := .returned (.tuple #[])) ⟨rfl, hE⟩
  clear hE
  have m5 : w3.cell? ⟨nb, 5, none⟩ = some (.int .i64 nd.val) := (N.b E3).cell (by omega)
  rw [d5] at m5
  have hnl_w3 := (N.b E3).lt
  by_cases h39 : kk = 39
  · have z : (kk == 39) = true := by simpa using h39
    have q := opF E3.1 14 (by omega) (by rw [addE_len]; omega)
    go_wp2_with fail
    refine q.mono ?_
    rintro v w4 ⟨rfl, hE⟩
    clear q
    have E4 := E3.then (e := .returned (.tuple #[])) ⟨rfl, hE⟩
    clear hE
    go_wp2_with fail
    go_end0
    exact N.done (by simpa [addE, cE, fxE, h39] using E4)
  · have z : (kk == 39) = false := by simpa using h39
    have q := opF E3.1 13 (by omega) (by rw [addE_len]; omega)
    go_wp2_with fail
    refine q.mono ?_
    rintro v w4 ⟨rfl, hE⟩
    clear q
    have E4 := E3.then (e := .returned (.tuple #[])) ⟨rfl, hE⟩
    clear hE
    go_wp2_with fail
    go_end0
    exact N.done (by simpa [addE, cE, fxE, h39] using E4)
set_option maxRecDepth 100000 in
set_option maxHeartbeats 2000000 in
theorem expr_len {G : Ge} {n : Nat} (I : ExG G n) (p : Int) (e : Exp) (hn : szE e ≤ n) (ht : TyE e) {w : World} {P : Nat → Prop} {B : Gb} {b : Nat} {nx x : Int} (h : GX w G.g P G.hd B) (hc : G.Cv w P) (L : Lie G.ns b (flE b nx (.len p e))) (hx : x = rtE b (.len p e)) (W : WtE G.P0 G.li G.lr b (.len p e)) (hl : B.code.length + nE (.len p e) ≤ 40000) : Calls Tryz.prog 192 #[.pointer (some ⟨G.g, 0, none⟩), .int .i64 x] w (EmR w G.g P G.hd (addE G.P0 B b (.len p e))) := by
  rw [rtE_nat] at hx
  subst hx
  simp only [flE] at L
  obtain ⟨L1, hN⟩ := L.un
  clear L
  simp only [WtE] at W
  simp only [nE] at hl
  obtain ⟨k, hk⟩ : ∃ k, k = b + szE e := ⟨_, rfl⟩
  rw [← hk] at hN
  have hke : b + szE (.len p e) - 1 = k := by rw [hk]; simp only [szE]; omega
  rw [hke]
  have hkl : k < G.ns.length := (List.getElem?_eq_some_iff.1 hN).1
  have qN := nodeG h hc hN
  obtain ⟨nd, hnd⟩ : ∃ nd : Nd, nd = ⟨16, rtE b e, -1, -1, nx, 0, p, ⟨#[]⟩⟩ := ⟨_, rfl⟩
  rw [← hnd] at qN hN
  have Hnd : Hid _ := And.intro hnd (And.intro hk hke)
  clear hnd hke hk
  go_enter Tryz.func192, Tryz.ntmps192
  go_wp2_with fail
  refine qN.mono ?_
  rintro v w1 ⟨rfl, f1⟩
  have N := Nw.mk' h hc f1 nd
  clear qN f1
  unfold ndV
  go_upto_region 1 with fail
  obtain ⟨nb, hnb⟩ : ∃ nb, nb = w1.heap.size := ⟨_, rfl⟩
  obtain ⟨w2, hw2⟩ : ∃ w2, w2 = w1.alloc (.cells #[.int .i64 nd.kind, .int .i64 nd.a, .int .i64 nd.b, .int .i64 nd.c, .int .i64 nd.nx, .int .i64 nd.val, .int .i64 nd.pos, .string nd.name] 145) := ⟨_, rfl⟩
  rw [← hw2, ← hnb] at N
  rw [← hw2, ← hnb]
  clear hw2 hnb h hc w1
  have d0 : nd.kind = 16 := by rw [Hnd.out.1]
  have d1 : nd.a = rtE b e := by rw [Hnd.out.1]
  have E := N.em
  have m0 : w2.cell? ⟨nb, 0, none⟩ = some (.int .i64 nd.kind) := N.bk.cell (by omega)
  have hnl := N.bk.lt
  rw [d0] at m0
  have m1 : w2.cell? ⟨nb, 1, none⟩ = some (.int .i64 nd.a) := (N.b E).cell (by omega)
  rw [d1] at m1
  have hnl_w2 := (N.b E).lt
  have q := I e hn ht w2 _ B b (-1) (rtE b e) E.1 (N.c E) L1 rfl W.1 (by first | omega | (simp only [addE_len]; omega))
  go_wp2_with fail
  refine q.mono ?_
  rintro v w3 ⟨rfl, hE⟩
  clear q
  have E3 := E.then (e := .returned (.tuple #[])) ⟨rfl, hE⟩
  clear hE
  have q := opF E3.1 34 (by omega) (by rw [addE_len]; omega)
  go_wp2_with fail
  refine q.mono ?_
  rintro v w4 ⟨rfl, hE⟩
  clear q
  have E4 := E3.then (e := .returned (.tuple #[])) ⟨rfl, hE⟩
  clear hE
  go_wp2_with fail
  go_end0
  exact N.done (by simpa [addE, cE, fxE] using E4)
set_option maxRecDepth 100000 in
set_option maxHeartbeats 2000000 in
theorem expr_new {G : Ge} {n : Nat} (I : ExG G n) (t p : Int) (e : Exp) (hn : szE e ≤ n) (ht : TyE e) (ht8 : 0 ≤ t ∧ t < 8) {w : World} {P : Nat → Prop} {B : Gb} {b : Nat} {nx x : Int} (h : GX w G.g P G.hd B) (hc : G.Cv w P) (L : Lie G.ns b (flE b nx (.new t p e))) (hx : x = rtE b (.new t p e)) (W : WtE G.P0 G.li G.lr b (.new t p e)) (hl : B.code.length + nE (.new t p e) ≤ 40000) : Calls Tryz.prog 192 #[.pointer (some ⟨G.g, 0, none⟩), .int .i64 x] w (EmR w G.g P G.hd (addE G.P0 B b (.new t p e))) := by
  rw [rtE_nat] at hx
  subst hx
  simp only [flE] at L
  obtain ⟨L1, hN⟩ := L.un
  clear L
  simp only [WtE] at W
  simp only [nE] at hl
  obtain ⟨k, hk⟩ : ∃ k, k = b + szE e := ⟨_, rfl⟩
  rw [← hk] at hN
  have hke : b + szE (.new t p e) - 1 = k := by rw [hk]; simp only [szE]; omega
  rw [hke]
  have hkl : k < G.ns.length := (List.getElem?_eq_some_iff.1 hN).1
  have qN := nodeG h hc hN
  obtain ⟨nd, hnd⟩ : ∃ nd : Nd, nd = ⟨15, rtE b e, -1, -1, nx, t, p, ⟨#[]⟩⟩ := ⟨_, rfl⟩
  rw [← hnd] at qN hN
  have Hnd : Hid _ := And.intro hnd (And.intro hk hke)
  clear hnd hke hk
  go_enter Tryz.func192, Tryz.ntmps192
  go_wp2_with fail
  refine qN.mono ?_
  rintro v w1 ⟨rfl, f1⟩
  have N := Nw.mk' h hc f1 nd
  clear qN f1
  unfold ndV
  go_upto_region 1 with fail
  obtain ⟨nb, hnb⟩ : ∃ nb, nb = w1.heap.size := ⟨_, rfl⟩
  obtain ⟨w2, hw2⟩ : ∃ w2, w2 = w1.alloc (.cells #[.int .i64 nd.kind, .int .i64 nd.a, .int .i64 nd.b, .int .i64 nd.c, .int .i64 nd.nx, .int .i64 nd.val, .int .i64 nd.pos, .string nd.name] 145) := ⟨_, rfl⟩
  rw [← hw2, ← hnb] at N
  rw [← hw2, ← hnb]
  clear hw2 hnb h hc w1
  have d0 : nd.kind = 15 := by rw [Hnd.out.1]
  have d1 : nd.a = rtE b e := by rw [Hnd.out.1]
  have d5 : nd.val = t := by rw [Hnd.out.1]
  have E := N.em
  have m0 : w2.cell? ⟨nb, 0, none⟩ = some (.int .i64 nd.kind) := N.bk.cell (by omega)
  have hnl := N.bk.lt
  rw [d0] at m0
  have m1 : w2.cell? ⟨nb, 1, none⟩ = some (.int .i64 nd.a) := (N.b E).cell (by omega)
  rw [d1] at m1
  have hnl_w2 := (N.b E).lt
  have q := I e hn ht w2 _ B b (-1) (rtE b e) E.1 (N.c E) L1 rfl W.1 (by first | omega | (simp only [addE_len]; omega))
  go_wp2_with fail
  refine q.mono ?_
  rintro v w3 ⟨rfl, hE⟩
  clear q
  have E3 := E.then (e := .returned (.tuple #[])) ⟨rfl, hE⟩
  clear hE
  have m5 : w3.cell? ⟨nb, 5, none⟩ = some (.int .i64 nd.val) := (N.b E3).cell (by omega)
  rw [d5] at m5
  have hnl_w3 := (N.b E3).lt
  have qc := classF (t - 2) 28 29 w3
  go_wp2_with fail
  refine qc.mono ?_
  rintro v _ ⟨rfl, rfl⟩
  clear qc
  have q := opF E3.1 (clsO (t - 2) 28 29) (by unfold clsO; split <;> omega) (by rw [addE_len]; omega)
  go_wp2_with fail
  refine q.mono ?_
  rintro v w4 ⟨rfl, hE⟩
  clear q
  have E4 := E3.then (e := .returned (.tuple #[])) ⟨rfl, hE⟩
  clear hE
  go_wp2_with fail
  go_end0
  exact N.done (by simpa [addE, cE, fxE] using E4)
set_option maxRecDepth 100000 in
set_option maxHeartbeats 2000000 in
theorem expr_idx {G : Ge} {n : Nat} (I : ExG G n) (p : Int) (e i : Exp) (hn : szE e ≤ n) (ht : TyE e) (hn2 : szE i ≤ n) (ht2 : TyE i) {w : World} {P : Nat → Prop} {B : Gb} {b : Nat} {nx x : Int} (h : GX w G.g P G.hd B) (hc : G.Cv w P) (L : Lie G.ns b (flE b nx (.idx p e i))) (hx : x = rtE b (.idx p e i)) (W : WtE G.P0 G.li G.lr b (.idx p e i)) (hl : B.code.length + nE (.idx p e i) ≤ 40000) : Calls Tryz.prog 192 #[.pointer (some ⟨G.g, 0, none⟩), .int .i64 x] w (EmR w G.g P G.hd (addE G.P0 B b (.idx p e i))) := by
  rw [rtE_nat] at hx
  subst hx
  simp only [flE] at L
  obtain ⟨L1, L2, hN⟩ := L.two
  clear L
  simp only [WtE] at W
  simp only [nE] at hl
  obtain ⟨k, hk⟩ : ∃ k, k = b + szE e + szE i := ⟨_, rfl⟩
  rw [← hk] at hN
  have hke : b + szE (.idx p e i) - 1 = k := by rw [hk]; simp only [szE]; omega
  rw [hke]
  have hkl : k < G.ns.length := (List.getElem?_eq_some_iff.1 hN).1
  have qN := nodeG h hc hN
  obtain ⟨nd, hnd⟩ : ∃ nd : Nd, nd = ⟨14, rtE b e, rtE (b + szE e) i, -1, nx, 0, p, ⟨#[]⟩⟩ := ⟨_, rfl⟩
  rw [← hnd] at qN hN
  have Hnd : Hid _ := And.intro hnd (And.intro hk hke)
  clear hnd hke hk
  go_enter Tryz.func192, Tryz.ntmps192
  go_wp2_with fail
  refine qN.mono ?_
  rintro v w1 ⟨rfl, f1⟩
  have N := Nw.mk' h hc f1 nd
  clear qN f1
  unfold ndV
  go_upto_region 1 with fail
  obtain ⟨nb, hnb⟩ : ∃ nb, nb = w1.heap.size := ⟨_, rfl⟩
  obtain ⟨w2, hw2⟩ : ∃ w2, w2 = w1.alloc (.cells #[.int .i64 nd.kind, .int .i64 nd.a, .int .i64 nd.b, .int .i64 nd.c, .int .i64 nd.nx, .int .i64 nd.val, .int .i64 nd.pos, .string nd.name] 145) := ⟨_, rfl⟩
  rw [← hw2, ← hnb] at N
  rw [← hw2, ← hnb]
  clear hw2 hnb h hc w1
  have d0 : nd.kind = 14 := by rw [Hnd.out.1]
  have d1 : nd.a = rtE b e := by rw [Hnd.out.1]
  have d2 : nd.b = rtE (b + szE e) i := by rw [Hnd.out.1]
  have E := N.em
  have m0 : w2.cell? ⟨nb, 0, none⟩ = some (.int .i64 nd.kind) := N.bk.cell (by omega)
  have hnl := N.bk.lt
  rw [d0] at m0
  have m1 : w2.cell? ⟨nb, 1, none⟩ = some (.int .i64 nd.a) := (N.b E).cell (by omega)
  rw [d1] at m1
  have hnl_w2 := (N.b E).lt
  have q := I e hn ht w2 _ B b (-1) (rtE b e) E.1 (N.c E) L1 rfl W.1 (by first | omega | (simp only [addE_len]; omega))
  go_wp2_with fail
  refine q.mono ?_
  rintro v w3 ⟨rfl, hE⟩
  clear q
  have E3 := E.then (e := .returned (.tuple #[])) ⟨rfl, hE⟩
  clear hE
  have m2 : w3.cell? ⟨nb, 2, none⟩ = some (.int .i64 nd.b) := (N.b E3).cell (by omega)
  rw [d2] at m2
  have hnl_w3 := (N.b E3).lt
  have q := I i hn2 ht2 w3 _ _ (b + szE e) (-1) (rtE (b + szE e) i) E3.1 (N.c E3) L2 rfl W.2.1 (by first | omega | (simp only [addE_len]; omega))
  go_wp2_with fail
  refine q.mono ?_
  rintro v w4 ⟨rfl, hE⟩
  clear q
  have E4 := E3.then (e := .returned (.tuple #[])) ⟨rfl, hE⟩
  clear hE
  obtain ⟨_, r6, r7, _, _, hgl⟩ := GX.regs E4.1
  obtain ⟨tb, t1, t2, t3⟩ := ILV.at (N.c E4).an.ht (i := k) (by rw [(N.c E4).tl]; exact hkl)
  rw [t1, (N.c E4).tl] at r6
  have htk : G.P0.ty.getD k (-1) = tyA G.P0 k := rfl
  rw [htk] at t3
  have hnl2 := (N.c E4).an.nl
  have hki : (k : Int) < G.ns.length := by omega
  have qc := classF (tyA G.P0 k) 30 31 w4
  clear t1 htk
  go_wp2_with fail
  refine qc.mono ?_
  rintro v _ ⟨rfl, rfl⟩
  clear qc
  have q := opF E4.1 (clsO (tyA G.P0 k) 30 31) (by unfold clsO; split <;> omega) (by simp only [addE_len]; omega)
  go_wp2_with fail
  refine q.mono ?_
  rintro v w5 ⟨rfl, hE⟩
  clear q
  have E5 := E4.then (e := .returned (.tuple #[])) ⟨rfl, hE⟩
  clear hE
  go_wp2_with fail
  go_end0
  have hkb := Hnd.out.2.1
  rw [hkb] at E5
  exact N.done (by simpa [addE, cE, fxE, cE_len] using E5)
end Go.Proofs.Qxb6500277aGreat
