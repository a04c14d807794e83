/- The code generator: expr, vd, prt, ret, exp. -/
import Derived.Test.Qxb6500277aGreatGE16
namespace Go.Proofs.Qxb6500277aGreat
open Go Go.RowKit

set_option maxRecDepth 100000 in
set_option maxHeartbeats 2000000 in
theorem stmt_vd {G : Ge} (o : G.Ok) {ret : Int} (s : ByteArray) (p t : Int) (e : Exp) (ht : TyE e) {w : World} {P : Nat → Prop} {B : Gb} {b : Nat} {nx x : Int} (h : GX w G.g P G.hd B) (hc : G.Cv w P) (L : Lie G.ns b (flS b nx (.vd s p t e))) (hx : x = rtS b (.vd s p t e)) (W : WtS G.P0 G.li G.lr ret b (.vd s p t e)) (hl : B.code.length + nS (.vd s p t e) ≤ 39000) : Calls Tryz.prog 152 #[.pointer (some ⟨G.g, 0, none⟩), .int .i64 x] w (EmR w G.g P G.hd (addS G.P0 B b (.vd s p t e))) := by
  rw [rtS_nat] at hx
  subst hx
  simp only [flS] at L
  obtain ⟨L1, hN⟩ := L.un
  clear L
  simp only [WtS] at W
  simp only [nS] at hl
  obtain ⟨k, hk⟩ : ∃ k, k = b + szE e := ⟨_, rfl⟩
  rw [← hk] at hN
  have hke : b + szS (.vd s p t e) - 1 = k := by rw [hk]; simp only [szS]; omega
  rw [hke]
  have hkl : k < G.ns.length := (List.getElem?_eq_some_iff.1 hN).1
  have qN := nodeG h hc hN
  obtain ⟨nd, hnd⟩ : ∃ nd : Nd, nd = ⟨3, rtE b e, -1, -1, nx, t, p, s⟩ := ⟨_, rfl⟩
  rw [← hnd] at qN hN
  have Hnd : Hid _ := And.intro hnd (And.intro hk hke)
  clear hnd hke hk
  go_enter Tryz.func152, Tryz.ntmps152
  go_wp2_with fail
  refine qN.mono ?_
  rintro v w1 ⟨rfl, f1⟩
  have N := Nw.mk' h hc f1 nd
  clear qN f1
  unfold ndV
  go_upto_region 1 with fail
  obtain ⟨nb, hnb⟩ : ∃ nb, nb = w1.heap.size := ⟨_, rfl⟩
  obtain ⟨w2, hw2⟩ : ∃ w2, w2 = w1.alloc (.cells #[.int .i64 nd.kind, .int .i64 nd.a, .int .i64 nd.b, .int .i64 nd.c, .int .i64 nd.nx, .int .i64 nd.val, .int .i64 nd.pos, .string nd.name] 145) := ⟨_, rfl⟩
  rw [← hw2, ← hnb] at N
  rw [← hw2, ← hnb]
  clear hw2 hnb h hc w1
  have d0 : nd.kind = 3 := by rw [Hnd.out.1]
  have d1 : nd.a = rtE b e := by rw [Hnd.out.1]
  have d5 : nd.val = t := by rw [Hnd.out.1]
  have E := N.em
  have m0 : w2.cell? ⟨nb, 0, none⟩ = some (.int .i64 nd.kind) := N.bk.cell (by omega)
  have hnl := N.bk.lt
  rw [d0] at m0
  have m1 : w2.cell? ⟨nb, 1, none⟩ = some (.int .i64 nd.a) := (N.b E).cell (by omega)
  rw [d1] at m1
  have hnl_w2 := (N.b E).lt
  have q := exprG o e ht E.1 (N.c E) L1 rfl W.1 (by first | omega | (simp only [addE_len]; omega))
  go_wp2_with fail
  refine q.mono ?_
  rintro v w3 ⟨rfl, hE⟩
  clear q
  have E3 := E.then (e := .returned (.tuple #[])) ⟨rfl, hE⟩
  clear hE
  have m5 : w3.cell? ⟨nb, 5, none⟩ = some (.int .i64 nd.val) := (N.b E3).cell (by omega)
  rw [d5] at m5
  have hnl_w3 := (N.b E3).lt
  have hr : rfA G.P0 k < 256 := by
    have h1 := o.li
    have h2 := o.lr
    have W3 := W.2.2
    rw [← Hnd.out.2.1] at W3
    unfold slotOk at W3
    split at W3 <;> omega
  have W' : Hid _ := W
  clear W
  have q := storeG E3.1 (N.c E3) hkl t hr (by rw [addE_len]; omega)
  go_wp2_with fail
  refine q.mono ?_
  rintro v w4 ⟨rfl, hE⟩
  clear q
  have E4 := E3.then (e := .returned (.tuple #[])) ⟨rfl, hE⟩
  clear hE
  go_wp2_with fail
  go_end0
  rw [Hnd.out.2.1] at E4
  exact N.done (by simpa [addS, addE, cS, fxS] using E4)
set_option maxRecDepth 100000 in
set_option maxHeartbeats 2000000 in
theorem stmt_prt {G : Ge} (o : G.Ok) {ret : Int} (p : Int) (e : Exp) (ht : TyE e) {w : World} {P : Nat → Prop} {B : Gb} {b : Nat} {nx x : Int} (h : GX w G.g P G.hd B) (hc : G.Cv w P) (L : Lie G.ns b (flS b nx (.prt p e))) (hx : x = rtS b (.prt p e)) (W : WtS G.P0 G.li G.lr ret b (.prt p e)) (hl : B.code.length + nS (.prt p e) ≤ 39000) : Calls Tryz.prog 152 #[.pointer (some ⟨G.g, 0, none⟩), .int .i64 x] w (EmR w G.g P G.hd (addS G.P0 B b (.prt p e))) := by
  rw [rtS_nat] at hx
  subst hx
  simp only [flS] at L
  obtain ⟨L1, hN⟩ := L.un
  clear L
  simp only [WtS] at W
  simp only [nS] at hl
  obtain ⟨k, hk⟩ : ∃ k, k = b + szE e := ⟨_, rfl⟩
  rw [← hk] at hN
  have hke : b + szS (.prt p e) - 1 = k := by rw [hk]; simp only [szS]; omega
  rw [hke]
  have hkl : k < G.ns.length := (List.getElem?_eq_some_iff.1 hN).1
  have qN := nodeG h hc hN
  obtain ⟨nd, hnd⟩ : ∃ nd : Nd, nd = ⟨8, rtE b e, -1, -1, nx, 0, p, ⟨#[]⟩⟩ := ⟨_, rfl⟩
  rw [← hnd] at qN hN
  have Hnd : Hid _ := And.intro hnd (And.intro hk hke)
  clear hnd hke hk
  go_enter Tryz.func152, Tryz.ntmps152
  go_wp2_with fail
  refine qN.mono ?_
  rintro v w1 ⟨rfl, f1⟩
  have N := Nw.mk' h hc f1 nd
  clear qN f1
  unfold ndV
  go_upto_region 1 with fail
  obtain ⟨nb, hnb⟩ : ∃ nb, nb = w1.heap.size := ⟨_, rfl⟩
  obtain ⟨w2, hw2⟩ : ∃ w2, w2 = w1.alloc (.cells #[.int .i64 nd.kind, .int .i64 nd.a, .int .i64 nd.b, .int .i64 nd.c, .int .i64 nd.nx, .int .i64 nd.val, .int .i64 nd.pos, .string nd.name] 145) := ⟨_, rfl⟩
  rw [← hw2, ← hnb] at N
  rw [← hw2, ← hnb]
  clear hw2 hnb h hc w1
  have d0 : nd.kind = 8 := by rw [Hnd.out.1]
  have d1 : nd.a = rtE b e := by rw [Hnd.out.1]
  have E := N.em
  have m0 : w2.cell? ⟨nb, 0, none⟩ = some (.int .i64 nd.kind) := N.bk.cell (by omega)
  have hnl := N.bk.lt
  rw [d0] at m0
  have m1 : w2.cell? ⟨nb, 1, none⟩ = some (.int .i64 nd.a) := (N.b E).cell (by omega)
  rw [d1] at m1
  have hnl_w2 := (N.b E).lt
  have q := exprG o e ht E.1 (N.c E) L1 rfl W.1 (by first | omega | (simp only [addE_len]; omega))
  go_wp2_with fail
  refine q.mono ?_
  rintro v w3 ⟨rfl, hE⟩
  clear q
  have E3 := E.then (e := .returned (.tuple #[])) ⟨rfl, hE⟩
  clear hE
  have q := opF E3.1 35 (by omega) (by rw [addE_len]; omega)
  go_wp2_with fail
  refine q.mono ?_
  rintro v w4 ⟨rfl, hE⟩
  clear q
  have E4 := E3.then (e := .returned (.tuple #[])) ⟨rfl, hE⟩
  clear hE
  go_wp2_with fail
  go_end0
  exact N.done (by simpa [addS, addE, cS, fxS] using E4)
set_option maxRecDepth 100000 in
set_option maxHeartbeats 2000000 in
theorem stmt_ret {G : Ge} (o : G.Ok) {ret : Int} (p : Int) (e : Exp) (ht : TyE e) {w : World} {P : Nat → Prop} {B : Gb} {b : Nat} {nx x : Int} (h : GX w G.g P G.hd B) (hc : G.Cv w P) (L : Lie G.ns b (flS b nx (.ret p e))) (hx : x = rtS b (.ret p e)) (W : WtS G.P0 G.li G.lr ret b (.ret p e)) (hl : B.code.length + nS (.ret p e) ≤ 39000) : Calls Tryz.prog 152 #[.pointer (some ⟨G.g, 0, none⟩), .int .i64 x] w (EmR w G.g P G.hd (addS G.P0 B b (.ret p e))) := by
  rw [rtS_nat] at hx
  subst hx
  simp only [flS] at L
  obtain ⟨L1, hN⟩ := L.un
  clear L
  simp only [WtS] at W
  simp only [nS] at hl
  obtain ⟨k, hk⟩ : ∃ k, k = b + szE e := ⟨_, rfl⟩
  rw [← hk] at hN
  have hke : b + szS (.ret p e) - 1 = k := by rw [hk]; simp only [szS]; omega
  rw [hke]
  have hkl : k < G.ns.length := (List.getElem?_eq_some_iff.1 hN).1
  have qN := nodeG h hc hN
  obtain ⟨nd, hnd⟩ : ∃ nd : Nd, nd = ⟨7, rtE b e, -1, -1, nx, 0, p, ⟨#[]⟩⟩ := ⟨_, rfl⟩
  rw [← hnd] at qN hN
  have Hnd : Hid _ := And.intro hnd (And.intro hk hke)
  clear hnd hke hk
  go_enter Tryz.func152, Tryz.ntmps152
  go_wp2_with fail
  refine qN.mono ?_
  rintro v w1 ⟨rfl, f1⟩
  have N := Nw.mk' h hc f1 nd
  clear qN f1
  unfold ndV
  go_upto_region 1 with fail
  obtain ⟨nb, hnb⟩ : ∃ nb, nb = w1.heap.size := ⟨_, rfl⟩
  obtain ⟨w2, hw2⟩ : ∃ w2, w2 = w1.alloc (.cells #[.int .i64 nd.kind, .int .i64 nd.a, .int .i64 nd.b, .int .i64 nd.c, .int .i64 nd.nx, .int .i64 nd.val, .int .i64 nd.pos, .string nd.name] 145) := ⟨_, rfl⟩
  rw [← hw2, ← hnb] at N
  rw [← hw2, ← hnb]
  clear hw2 hnb h hc w1
  have d0 : nd.kind = 7 := by rw [Hnd.out.1]
  have d1 : nd.a = rtE b e := by rw [Hnd.out.1]
  have E := N.em
  have m0 : w2.cell? ⟨nb, 0, none⟩ = some (.int .i64 nd.kind) := N.bk.cell (by omega)
  have hnl := N.bk.lt
  rw [d0] at m0
  have m1 : w2.cell? ⟨nb, 1, none⟩ = some (.int .i64 nd.a) := (N.b E).cell (by omega)
  rw [d1] at m1
  have hnl_w2 := (N.b E).lt
  have q := exprG o e ht E.1 (N.c E) L1 rfl W.1 (by first | omega | (simp only [addE_len]; omega))
  go_wp2_with fail
  refine q.mono ?_
  rintro v w3 ⟨rfl, hE⟩
  clear q
  have E3 := E.then (e := .returned (.tuple #[])) ⟨rfl, hE⟩
  clear hE
  clear m1 d0 m0
  have E4 := E3.same ((Fr.refl _ _).drew)
  obtain ⟨ndc, hc1, hc2, hc3, hc4⟩ := L1.root
  clear hc2 hc3 hc4
  obtain ⟨rc, hrc⟩ : ∃ rc, rc = b + szE e - 1 := ⟨_, rfl⟩
  rw [← hrc] at hc1
  have hrl : rc < G.ns.length := (List.getElem?_eq_some_iff.1 hc1).1
  have hrt : rtE b e = (rc : Nat) := by rw [rtE_nat, ← hrc]
  obtain ⟨tb, t1, t2, t3, t4, t5, t6⟩ := N.ty E4 hrl
  have m1 : w3.drew.cell? ⟨nb, 1, none⟩ = some (.int .i64 nd.a) := (N.b E4).cell (by omega)
  rw [d1, hrt] at m1
  have Hrc : Hid _ := And.intro hrc hrt
  clear hrc hc1 hrt d1
  have hnl4 : nb < w3.drew.heap.size := (N.b E4).lt
  have q3 := classF (tyA G.P0 rc) 26 27 w3.drew
  go_upto_region 24 with fail
  refine wp_region_text (by kernel_rfl) (by kernel_rfl) ?_
  go_wp2_with fail
  refine q3.mono ?_
  rintro v w4 ⟨rfl, hw4⟩
  subst w4
  clear q3
  have q4 := opF E4.1 (clsO (tyA G.P0 rc) 26 27) (clsO_lt (by omega) (by omega)) (by rw [addE_len]; omega)
  go_wp2_with fail
  refine ⟨by kernel_rfl, ?_⟩
  go_wp2_with fail
  refine q4.mono ?_
  rintro v w5 ⟨rfl, hE⟩
  have E5 := E4.then (e := .returned (.tuple #[])) ⟨rfl, hE⟩
  clear hE q4
  go_wp2_with fail
  go_end0
  have e9 : rc = rtN b e := by rw [Hrc.out.1]; rfl
  rw [e9] at E5
  exact N.done (by simpa [addS, addE, cS, fxS] using E5)
set_option maxRecDepth 100000 in
set_option maxHeartbeats 2000000 in
theorem stmt_exp {G : Ge} (o : G.Ok) {ret : Int} (e : Exp) (ht : TyE e) {w : World} {P : Nat → Prop} {B : Gb} {b : Nat} {nx x : Int} (h : GX w G.g P G.hd B) (hc : G.Cv w P) (L : Lie G.ns b (flS b nx (.exp e))) (hx : x = rtS b (.exp e)) (W : WtS G.P0 G.li G.lr ret b (.exp e)) (hl : B.code.length + nS (.exp e) ≤ 39000) : Calls Tryz.prog 152 #[.pointer (some ⟨G.g, 0, none⟩), .int .i64 x] w (EmR w G.g P G.hd (addS G.P0 B b (.exp e))) := by
  rw [rtS_nat] at hx
  subst hx
  simp only [flS] at L
  obtain ⟨L1, hN⟩ := L.un
  clear L
  simp only [WtS] at W
  simp only [nS] at hl
  obtain ⟨k, hk⟩ : ∃ k, k = b + szE e := ⟨_, rfl⟩
  rw [← hk] at hN
  have hke : b + szS (.exp e) - 1 = k := by rw [hk]; simp only [szS]; omega
  rw [hke]
  have hkl : k < G.ns.length := (List.getElem?_eq_some_iff.1 hN).1
  have qN := nodeG h hc hN
  obtain ⟨nd, hnd⟩ : ∃ nd : Nd, nd = ⟨9, rtE b e, -1, -1, nx, 0, poE e, ⟨#[]⟩⟩ := ⟨_, rfl⟩
  rw [← hnd] at qN hN
  have Hnd : Hid _ := And.intro hnd (And.intro hk hke)
  clear hnd hke hk
  go_enter Tryz.func152, Tryz.ntmps152
  go_wp2_with fail
  refine qN.mono ?_
  rintro v w1 ⟨rfl, f1⟩
  have N := Nw.mk' h hc f1 nd
  clear qN f1
  unfold ndV
  go_upto_region 1 with fail
  obtain ⟨nb, hnb⟩ : ∃ nb, nb = w1.heap.size := ⟨_, rfl⟩
  obtain ⟨w2, hw2⟩ : ∃ w2, w2 = w1.alloc (.cells #[.int .i64 nd.kind, .int .i64 nd.a, .int .i64 nd.b, .int .i64 nd.c, .int .i64 nd.nx, .int .i64 nd.val, .int .i64 nd.pos, .string nd.name] 145) := ⟨_, rfl⟩
  rw [← hw2, ← hnb] at N
  rw [← hw2, ← hnb]
  clear hw2 hnb h hc w1
  have d0 : nd.kind = 9 := by rw [Hnd.out.1]
  have d1 : nd.a = rtE b e := by rw [Hnd.out.1]
  have E := N.em
  have m0 : w2.cell? ⟨nb, 0, none⟩ = some (.int .i64 nd.kind) := N.bk.cell (by omega)
  have hnl := N.bk.lt
  rw [d0] at m0
  have m1 : w2.cell? ⟨nb, 1, none⟩ = some (.int .i64 nd.a) := (N.b E).cell (by omega)
  rw [d1] at m1
  have hnl_w2 := (N.b E).lt
  have q := exprG o e ht E.1 (N.c E) L1 rfl W (by first | omega | (simp only [addE_len]; omega))
  go_wp2_with fail
  refine q.mono ?_
  rintro v w3 ⟨rfl, hE⟩
  clear q
  have E3 := E.then (e := .returned (.tuple #[])) ⟨rfl, hE⟩
  clear hE
  clear m1 d0 m0
  have E4 := E3.same ((Fr.refl _ _).drew)
  obtain ⟨ndc, hc1, hc2, hc3, hc4⟩ := L1.root
  clear hc2 hc3 hc4
  obtain ⟨rc, hrc⟩ : ∃ rc, rc = b + szE e - 1 := ⟨_, rfl⟩
  rw [← hrc] at hc1
  have hrl : rc < G.ns.length := (List.getElem?_eq_some_iff.1 hc1).1
  have hrt : rtE b e = (rc : Nat) := by rw [rtE_nat, ← hrc]
  obtain ⟨tb, t1, t2, t3, t4, t5, t6⟩ := N.ty E4 hrl
  have m1 : w3.drew.cell? ⟨nb, 1, none⟩ = some (.int .i64 nd.a) := (N.b E4).cell (by omega)
  rw [d1, hrt] at m1
  have Hrc : Hid _ := And.intro hrc hrt
  clear hrc hc1 hrt d1
  have hnl4 : nb < w3.drew.heap.size := (N.b E4).lt
  have q3 := classF (tyA G.P0 rc) 1 6 w3.drew
  go_upto_region 31 with fail
  refine wp_region_text (by kernel_rfl) (by kernel_rfl) ?_
  go_wp2_with fail
  refine q3.mono ?_
  rintro v w4 ⟨rfl, hw4⟩
  subst w4
  clear q3
  have q4 := opF E4.1 (clsO (tyA G.P0 rc) 1 6) (clsO_lt (by omega) (by omega)) (by rw [addE_len]; omega)
  go_wp2_with fail
  refine ⟨by kernel_rfl, ?_⟩
  go_wp2_with fail
  refine q4.mono ?_
  rintro v w5 ⟨rfl, hE⟩
  have E5 := E4.then (e := .returned (.tuple #[])) ⟨rfl, hE⟩
  clear hE q4
  go_wp2_with fail
  go_end0
  have e9 : rc = rtN b e := by rw [Hrc.out.1]; rfl
  rw [e9] at E5
  exact N.done (by simpa [addS, addE, cS, fxS] using E5)
end Go.Proofs.Qxb6500277aGreat
