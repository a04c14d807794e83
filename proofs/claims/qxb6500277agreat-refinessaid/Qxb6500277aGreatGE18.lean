/- The code generator: expr, if, while. -/
import Derived.Test.Qxb6500277aGreatGE17
namespace Go.Proofs.Qxb6500277aGreat
open Go Go.RowKit

set_option maxRecDepth 100000 in
set_option maxHeartbeats 2000000 in
theorem stmt_iff {G : Ge} (o : G.Ok) {ret : Int} {n : Nat} (I : BkG G ret n) (p bp : Int) (e : Exp) (ss : Stms) (ht : TyE e) (hn : szSs ss ≤ n) (hts : TySs ss) {w : World} {P : Nat → Prop} {B : Gb} {b : Nat} {nx x : Int} (h : GX w G.g P G.hd B) (hc : G.Cv w P) (L : Lie G.ns b (flS b nx (.iff p e bp ss))) (hx : x = rtS b (.iff p e bp ss)) (W : WtS G.P0 G.li G.lr ret b (.iff p e bp ss)) (hl : B.code.length + nS (.iff p e bp ss) ≤ 39000) : Calls Tryz.prog 152 #[.pointer (some ⟨G.g, 0, none⟩), .int .i64 x] w (EmR w G.g P G.hd (addS G.P0 B b (.iff p e bp ss))) := by
  rw [rtS_nat] at hx
  subst hx
  simp only [flS] at L
  obtain ⟨L1, L2, hN⟩ := L.eb
  obtain ⟨L3, hB⟩ := L2.blk
  clear L L2
  simp only [WtS] at W
  simp only [nS] at hl
  obtain ⟨k, hk⟩ : ∃ k, k = b + szE e + (szSs ss + 1) := ⟨_, rfl⟩
  rw [← hk] at hN
  have hke : b + szS (.iff p e bp ss) - 1 = k := by rw [hk]; simp only [szS]; omega
  rw [hke]
  have hkl : k < G.ns.length := (List.getElem?_eq_some_iff.1 hN).1
  have qN := nodeG h hc hN
  obtain ⟨nd, hnd⟩ : ∃ nd : Nd, nd = ⟨5, rtE b e, ((b + szE e + szSs ss : Nat) : Int), -1, nx, 0, p, ⟨#[]⟩⟩ := ⟨_, rfl⟩
  rw [← hnd] at qN hN
  have Hnd : Hid _ := And.intro hnd (And.intro hk hke)
  clear hnd hke hk
  go_enter Tryz.func152, Tryz.ntmps152
  go_wp2_with fail
  refine qN.mono ?_
  rintro v w1 ⟨rfl, f1⟩
  have N := Nw.mk' h hc f1 nd
  clear qN f1
  unfold ndV
  go_upto_region 1 with fail
  obtain ⟨nb, hnb⟩ : ∃ nb, nb = w1.heap.size := ⟨_, rfl⟩
  obtain ⟨w2, hw2⟩ : ∃ w2, w2 = w1.alloc (.cells #[.int .i64 nd.kind, .int .i64 nd.a, .int .i64 nd.b, .int .i64 nd.c, .int .i64 nd.nx, .int .i64 nd.val, .int .i64 nd.pos, .string nd.name] 145) := ⟨_, rfl⟩
  rw [← hw2, ← hnb] at N
  rw [← hw2, ← hnb]
  clear hw2 hnb h hc w1
  have d0 : nd.kind = 5 := by rw [Hnd.out.1]
  have d1 : nd.a = rtE b e := by rw [Hnd.out.1]
  have d3 : nd.c = -1 := by rw [Hnd.out.1]
  obtain ⟨kb, hkb⟩ : ∃ kb, kb = b + szE e + szSs ss := ⟨_, rfl⟩
  have d2 : nd.b = ((kb : Nat) : Int) := by rw [Hnd.out.1, hkb]
  rw [← hkb] at hB
  have Hkb : Hid _ := hkb
  clear hkb
  have E := N.em
  have m0 : w2.cell? ⟨nb, 0, none⟩ = some (.int .i64 nd.kind) := N.bk.cell (by omega)
  have hnl := N.bk.lt
  rw [d0] at m0
  have m1 : w2.cell? ⟨nb, 1, none⟩ = some (.int .i64 nd.a) := (N.b E).cell (by omega)
  rw [d1] at m1
  have hnl_w2 := (N.b E).lt
  have q := exprG o e ht E.1 (N.c E) L1 rfl W.1 (by first | omega | (simp only [addE_len]; omega))
  go_wp2_with fail
  refine q.mono ?_
  rintro v w3 ⟨rfl, hE⟩
  clear q
  have E3 := E.then (e := .returned (.tuple #[])) ⟨rfl, hE⟩
  clear hE
  have q := aheadF E3.1 22 (by omega) (by simp only [addE_len]; omega)
  go_wp2_with fail
  refine q.mono ?_
  rintro v w4 ⟨rfl, hE⟩
  clear q
  have E4 := E3.then (e := .returned (.tuple #[])) ⟨rfl, hE⟩
  clear hE
  have E4 : Em w2 P G.g G.hd w4 (addJ (addE G.P0 B b e) 22) := E4
  have m2 : w4.cell? ⟨nb, 2, none⟩ = some (.int .i64 nd.b) := (N.b E4).cell (by omega)
  rw [d2] at m2
  have hnl_w4 := (N.b E4).lt
  have q := I ss hn hts w4 _ _ _ _ _ E4.1 (N.c E4) L3 hB W.2.2 (by simp only [addJ_len, addE_len]; omega)
  go_wp2_with fail
  refine q.mono ?_
  rintro v w5 ⟨rfl, hE⟩
  clear q
  have E5 := E4.then (e := .returned (.tuple #[])) ⟨rfl, hE⟩
  clear hE
  have m3 : w5.cell? ⟨nb, 3, none⟩ = some (.int .i64 nd.c) := (N.b E5).cell (by omega)
  rw [d3] at m3
  have hnl_w5 := (N.b E5).lt
  have q := landF E5.1 (l := B.holes) (x := (addE G.P0 B b e).code.length + 1) rfl (by simp only [addJ_len, addE_len, addSs_len]; omega) (by simp only [addJ_len, addE_len, addSs_len]; omega)
  go_wp2_with fail
  refine q.mono ?_
  rintro v w6 ⟨rfl, hE⟩
  clear q
  have E6 := E5.then (e := .returned (.tuple #[])) ⟨rfl, hE⟩
  clear hE
  go_wp2_with fail
  go_end0
  have key := iff_eq G.P0 B b p bp e ss _ rfl
  rw [← key]
  exact N.done E6
set_option maxRecDepth 100000 in
set_option maxHeartbeats 2000000 in
theorem stmt_whl {G : Ge} (o : G.Ok) {ret : Int} {n : Nat} (I : BkG G ret n) (p bp : Int) (e : Exp) (ss : Stms) (ht : TyE e) (hn : szSs ss ≤ n) (hts : TySs ss) {w : World} {P : Nat → Prop} {B : Gb} {b : Nat} {nx x : Int} (h : GX w G.g P G.hd B) (hc : G.Cv w P) (L : Lie G.ns b (flS b nx (.whl p e bp ss))) (hx : x = rtS b (.whl p e bp ss)) (W : WtS G.P0 G.li G.lr ret b (.whl p e bp ss)) (hl : B.code.length + nS (.whl p e bp ss) ≤ 39000) : Calls Tryz.prog 152 #[.pointer (some ⟨G.g, 0, none⟩), .int .i64 x] w (EmR w G.g P G.hd (addS G.P0 B b (.whl p e bp ss))) := by
  rw [rtS_nat] at hx
  subst hx
  simp only [flS] at L
  obtain ⟨L1, L2, hN⟩ := L.eb
  obtain ⟨L3, hB⟩ := L2.blk
  clear L L2
  simp only [WtS] at W
  simp only [nS] at hl
  obtain ⟨k, hk⟩ : ∃ k, k = b + szE e + (szSs ss + 1) := ⟨_, rfl⟩
  rw [← hk] at hN
  have hke : b + szS (.whl p e bp ss) - 1 = k := by rw [hk]; simp only [szS]; omega
  rw [hke]
  have hkl : k < G.ns.length := (List.getElem?_eq_some_iff.1 hN).1
  have qN := nodeG h hc hN
  obtain ⟨nd, hnd⟩ : ∃ nd : Nd, nd = ⟨6, rtE b e, ((b + szE e + szSs ss : Nat) : Int), -1, nx, 0, p, ⟨#[]⟩⟩ := ⟨_, rfl⟩
  rw [← hnd] at qN hN
  have Hnd : Hid _ := And.intro hnd (And.intro hk hke)
  clear hnd hke hk
  go_enter Tryz.func152, Tryz.ntmps152
  go_wp2_with fail
  refine qN.mono ?_
  rintro v w1 ⟨rfl, f1⟩
  have N := Nw.mk' h hc f1 nd
  clear qN f1
  unfold ndV
  go_upto_region 1 with fail
  obtain ⟨nb, hnb⟩ : ∃ nb, nb = w1.heap.size := ⟨_, rfl⟩
  obtain ⟨w2, hw2⟩ : ∃ w2, w2 = w1.alloc (.cells #[.int .i64 nd.kind, .int .i64 nd.a, .int .i64 nd.b, .int .i64 nd.c, .int .i64 nd.nx, .int .i64 nd.val, .int .i64 nd.pos, .string nd.name] 145) := ⟨_, rfl⟩
  rw [← hw2, ← hnb] at N
  rw [← hw2, ← hnb]
  clear hw2 hnb h hc w1
  have d0 : nd.kind = 6 := by rw [Hnd.out.1]
  have d1 : nd.a = rtE b e := by rw [Hnd.out.1]
  obtain ⟨kb, hkb⟩ : ∃ kb, kb = b + szE e + szSs ss := ⟨_, rfl⟩
  have d2 : nd.b = ((kb : Nat) : Int) := by rw [Hnd.out.1, hkb]
  rw [← hkb] at hB
  have Hkb : Hid _ := hkb
  clear hkb
  have E := N.em
  have m0 : w2.cell? ⟨nb, 0, none⟩ = some (.int .i64 nd.kind) := N.bk.cell (by omega)
  have hnl := N.bk.lt
  rw [d0] at m0
  have q := hereF E.1
  go_wp2_with fail
  refine q.mono ?_
  rintro v wz ⟨rfl, hwz⟩
  subst wz
  clear q
  have m1 : w2.cell? ⟨nb, 1, none⟩ = some (.int .i64 nd.a) := (N.b E).cell (by omega)
  rw [d1] at m1
  have hnl_w2 := (N.b E).lt
  have q := exprG o e ht E.1 (N.c E) L1 rfl W.1 (by first | omega | (simp only [addE_len]; omega))
  go_wp2_with fail
  refine q.mono ?_
  rintro v w3 ⟨rfl, hE⟩
  clear q
  have E3 := E.then (e := .returned (.tuple #[])) ⟨rfl, hE⟩
  clear hE
  have q := aheadF E3.1 22 (by omega) (by simp only [addE_len]; omega)
  go_wp2_with fail
  refine q.mono ?_
  rintro v w4 ⟨rfl, hE⟩
  clear q
  have E4 := E3.then (e := .returned (.tuple #[])) ⟨rfl, hE⟩
  clear hE
  have E4 : Em w2 P G.g G.hd w4 (addJ (addE G.P0 B b e) 22) := E4
  have m2 : w4.cell? ⟨nb, 2, none⟩ = some (.int .i64 nd.b) := (N.b E4).cell (by omega)
  rw [d2] at m2
  have hnl_w4 := (N.b E4).lt
  have q := I ss hn hts w4 _ _ _ _ _ E4.1 (N.c E4) L3 hB W.2.2 (by simp only [addJ_len, addE_len]; omega)
  go_wp2_with fail
  refine q.mono ?_
  rintro v w5 ⟨rfl, hE⟩
  clear q
  have E5 := E4.then (e := .returned (.tuple #[])) ⟨rfl, hE⟩
  clear hE
  have q := backF E5.1 21 B.code.length (by omega) (by omega) (by simp only [addJ_len, addE_len, addSs_len]; omega)
  go_wp2_with fail
  refine q.mono ?_
  rintro v w6 ⟨rfl, hE⟩
  clear q
  have E6 := E5.then (e := .returned (.tuple #[])) ⟨rfl, hE⟩
  clear hE
  have q := landF E6.1 (l := B.holes) (x := (addE G.P0 B b e).code.length + 1) rfl (by simp only [List.length_append, addJ_len, addE_len, addSs_len]; omega) (by simp only [List.length_append, addJ_len, addE_len, addSs_len, u16b, List.length_cons, List.length_nil]; omega)
  go_wp2_with fail
  refine q.mono ?_
  rintro v w7 ⟨rfl, hE⟩
  clear q
  have E7 := E6.then (e := .returned (.tuple #[])) ⟨rfl, hE⟩
  clear hE
  go_wp2_with fail
  go_end0
  have key := whl_eq G.P0 B b p bp e ss _ rfl
  rw [← key]
  exact N.done E7
set_option maxRecDepth 100000 in
set_option maxHeartbeats 2000000 in
theorem stmt_ife {G : Ge} (o : G.Ok) {ret : Int} {n : Nat} (I : BkG G ret n) (p bp cp : Int) (e : Exp) (ss cs : Stms) (ht : TyE e) (hn : szSs ss ≤ n) (hts : TySs ss) (hn2 : szSs cs ≤ n) (hts2 : TySs cs) {w : World} {P : Nat → Prop} {B : Gb} {b : Nat} {nx x : Int} (h : GX w G.g P G.hd B) (hc : G.Cv w P) (L : Lie G.ns b (flS b nx (.ife p e bp ss cp cs))) (hx : x = rtS b (.ife p e bp ss cp cs)) (W : WtS G.P0 G.li G.lr ret b (.ife p e bp ss cp cs)) (hl : B.code.length + nS (.ife p e bp ss cp cs) ≤ 39000) : Calls Tryz.prog 152 #[.pointer (some ⟨G.g, 0, none⟩), .int .i64 x] w (EmR w G.g P G.hd (addS G.P0 B b (.ife p e bp ss cp cs))) := by
  rw [rtS_nat] at hx
  subst hx
  simp only [flS] at L
  obtain ⟨L1, L2, L4, hN⟩ := L.ebb
  obtain ⟨L3, hB⟩ := L2.blk
  obtain ⟨L5, hC⟩ := L4.blk
  clear L L2 L4
  simp only [WtS] at W
  simp only [nS] at hl
  obtain ⟨k, hk⟩ : ∃ k, k = b + szE e + (szSs ss + 1) + (szSs cs + 1) := ⟨_, rfl⟩
  rw [← hk] at hN
  have hke : b + szS (.ife p e bp ss cp cs) - 1 = k := by rw [hk]; simp only [szS]; omega
  rw [hke]
  have hkl : k < G.ns.length := (List.getElem?_eq_some_iff.1 hN).1
  have qN := nodeG h hc hN
  obtain ⟨nd, hnd⟩ : ∃ nd : Nd, nd = ⟨5, rtE b e, ((b + szE e + szSs ss : Nat) : Int), ((b + szE e + (szSs ss + 1) + szSs cs : Nat) : Int), nx, 0, p, ⟨#[]⟩⟩ := ⟨_, rfl⟩
  rw [← hnd] at qN hN
  have Hnd : Hid _ := And.intro hnd (And.intro hk hke)
  clear hnd hke hk
  go_enter Tryz.func152, Tryz.ntmps152
  go_wp2_with fail
  refine qN.mono ?_
  rintro v w1 ⟨rfl, f1⟩
  have N := Nw.mk' h hc f1 nd
  clear qN f1
  unfold ndV
  go_upto_region 1 with fail
  obtain ⟨nb, hnb⟩ : ∃ nb, nb = w1.heap.size := ⟨_, rfl⟩
  obtain ⟨w2, hw2⟩ : ∃ w2, w2 = w1.alloc (.cells #[.int .i64 nd.kind, .int .i64 nd.a, .int .i64 nd.b, .int .i64 nd.c, .int .i64 nd.nx, .int .i64 nd.val, .int .i64 nd.pos, .string nd.name] 145) := ⟨_, rfl⟩
  rw [← hw2, ← hnb] at N
  rw [← hw2, ← hnb]
  clear hw2 hnb h hc w1
  have d0 : nd.kind = 5 := by rw [Hnd.out.1]
  have d1 : nd.a = rtE b e := by rw [Hnd.out.1]
  obtain ⟨kb, hkb⟩ : ∃ kb, kb = b + szE e + szSs ss := ⟨_, rfl⟩
  have d2 : nd.b = ((kb : Nat) : Int) := by rw [Hnd.out.1, hkb]
  rw [← hkb] at hB
  have Hkb : Hid _ := hkb
  clear hkb
  obtain ⟨kc, hkc⟩ : ∃ kc, kc = b + szE e + (szSs ss + 1) + szSs cs := ⟨_, rfl⟩
  have d3 : nd.c = ((kc : Nat) : Int) := by rw [Hnd.out.1, hkc]
  rw [← hkc] at hC
  have Hkc : Hid _ := hkc
  clear hkc
  have E := N.em
  have m0 : w2.cell? ⟨nb, 0, none⟩ = some (.int .i64 nd.kind) := N.bk.cell (by omega)
  have hnl := N.bk.lt
  rw [d0] at m0
  have m1 : w2.cell? ⟨nb, 1, none⟩ = some (.int .i64 nd.a) := (N.b E).cell (by omega)
  rw [d1] at m1
  have hnl_w2 := (N.b E).lt
  have q := exprG o e ht E.1 (N.c E) L1 rfl W.1 (by first | omega | (simp only [addE_len]; omega))
  go_wp2_with fail
  refine q.mono ?_
  rintro v w3 ⟨rfl, hE⟩
  clear q
  have E3 := E.then (e := .returned (.tuple #[])) ⟨rfl, hE⟩
  clear hE
  have q := aheadF E3.1 22 (by omega) (by simp only [addE_len]; omega)
  go_wp2_with fail
  refine q.mono ?_
  rintro v w4 ⟨rfl, hE⟩
  clear q
  have E4 := E3.then (e := .returned (.tuple #[])) ⟨rfl, hE⟩
  clear hE
  have E4 : Em w2 P G.g G.hd w4 (addJ (addE G.P0 B b e) 22) := E4
  have m2 : w4.cell? ⟨nb, 2, none⟩ = some (.int .i64 nd.b) := (N.b E4).cell (by omega)
  rw [d2] at m2
  have hnl_w4 := (N.b E4).lt
  have q := I ss hn hts w4 _ _ _ _ _ E4.1 (N.c E4) L3 hB W.2.2.1 (by simp only [addJ_len, addE_len]; omega)
  go_wp2_with fail
  refine q.mono ?_
  rintro v w5 ⟨rfl, hE⟩
  clear q
  have E5 := E4.then (e := .returned (.tuple #[])) ⟨rfl, hE⟩
  clear hE
  have m3 : w5.cell? ⟨nb, 3, none⟩ = some (.int .i64 nd.c) := (N.b E5).cell (by omega)
  rw [d3] at m3
  have hnl_w5 := (N.b E5).lt
  have q := overF E5.1 (l := B.holes) (x := (addE G.P0 B b e).code.length + 1) rfl (by simp only [addJ_len, addE_len, addSs_len]; omega) (by simp only [addJ_len, addE_len, addSs_len]; omega)
  go_wp2_with fail
  refine q.mono ?_
  rintro v w6 ⟨rfl, hE⟩
  clear q
  have E6 := E5.then (e := .returned (.tuple #[])) ⟨rfl, hE⟩
  clear hE
  have m3 : w6.cell? ⟨nb, 3, none⟩ = some (.int .i64 nd.c) := (N.b E6).cell (by omega)
  rw [d3] at m3
  have hnl_w6 := (N.b E6).lt
  obtain ⟨B3, hB3⟩ : ∃ B3, B3 = addSs G.P0 (addJ (addE G.P0 B b e) 22) (b + szE e) ss := ⟨_, rfl⟩
  rw [← hB3] at E6
  obtain ⟨B4, hB4⟩ : ∃ B4 : Gb, B4 = { B3 with code := fillL (B3.code ++ (21 :: u16b 0)) ((addE G.P0 B b e).code.length + 1) (B3.code.length + 3), holes := B.holes ++ [((B3.code.length + 1 : Nat) : Int)] } := ⟨_, rfl⟩
  rw [← hB4] at E6
  have hB3l : B3.code.length = B.code.length + nE e + 3 + nSs ss := by rw [hB3, addSs_len, addJ_len, addE_len]
  have hB4l : B4.code.length = B.code.length + nE e + 3 + nSs ss + 3 := by rw [hB4]; show (fillL _ _ _).length = _; rw [fillL_len, List.length_append, hB3l]; rfl
  have hB4h : B4.holes = B.holes ++ [((B3.code.length + 1 : Nat) : Int)] := by rw [hB4]
  have HB : Hid _ := And.intro hB3 (And.intro hB4 (And.intro hB3l (And.intro hB4l hB4h)))
  clear hB3 hB4 hB3l hB4l hB4h
  have q := I cs hn2 hts2 w6 _ _ _ _ _ E6.1 (N.c E6) L5 hC W.2.2.2 (by rw [HB.out.2.2.2.1]; omega)
  go_wp2_with fail
  refine q.mono ?_
  rintro v w7 ⟨rfl, hE⟩
  clear q
  have E7 := E6.then (e := .returned (.tuple #[])) ⟨rfl, hE⟩
  clear hE
  have q := landF E7.1 (l := B.holes) (x := B3.code.length + 1) HB.out.2.2.2.2 (by rw [addSs_len, HB.out.2.2.1, HB.out.2.2.2.1]; omega) (by rw [addSs_len, HB.out.2.2.2.1]; omega)
  go_wp2_with fail
  refine q.mono ?_
  rintro v w8 ⟨rfl, hE⟩
  clear q
  have E8 := E7.then (e := .returned (.tuple #[])) ⟨rfl, hE⟩
  clear hE
  go_wp2_with fail
  go_end0
  have key := ife_eq G.P0 B b p bp cp e ss cs B3 B4 _ HB.out.1 HB.out.2.1 rfl
  rw [← key]
  exact N.done E8
end Go.Proofs.Qxb6500277aGreat
