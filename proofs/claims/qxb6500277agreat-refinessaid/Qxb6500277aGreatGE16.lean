/- The code generator: assign to an element. -/
import Derived.Test.Qxb6500277aGreatGE15
namespace Go.Proofs.Qxb6500277aGreat
open Go Go.RowKit

section
variable {G : Ge} {w : World} {P : Nat → Prop} {B : Gb} {b : Nat} {ret : Int}
set_option maxRecDepth 100000 in
set_option maxHeartbeats 2000000 in
theorem assign_idx (o : G.Ok) (p q : Int) (a i c : Exp) (hta : TyE a) (hti : TyE i) (ht : TyE c) (h : GX w G.g P G.hd B) (hc : G.Cv w P) (L1 : Lie G.ns b (flE b (-1) (.idx q a i))) (L2 : Lie G.ns (b + (szE a + szE i + 1)) (flE (b + (szE a + szE i + 1)) (-1) c)) (W : WtS G.P0 G.li G.lr ret b (.asg p (.idx q a i) c)) (hl : B.code.length + nE a + nE i + nE c + 1 ≤ 39000) {nd : Nd} (d1 : nd.a = ((b + szE a + szE i : Nat) : Int)) (d2 : nd.b = rtE (b + (szE a + szE i + 1)) c) : Calls Tryz.prog 194 #[.pointer (some ⟨G.g, 0, none⟩), ndV nd] w (EmR w G.g P G.hd (addS G.P0 B b (.asg p (.idx q a i) c))) := by
  have N := Nw.mk' h hc (Fr.refl _ w) nd
  simp only [flE] at L1
  obtain ⟨La, Li, hN⟩ := L1.two
  simp only [WtS] at W
  obtain ⟨Wa, Wi, Wc, _, _⟩ := W
  obtain ⟨ndc, hc1, hc2, hc3, hc4⟩ := L2.root
  clear hc2 hc3 hc4
  obtain ⟨rc, hrc⟩ : ∃ rc, rc = b + (szE a + szE i + 1) + szE c - 1 := ⟨_, rfl⟩
  rw [← hrc] at hc1
  have hrl : rc < G.ns.length := (List.getElem?_eq_some_iff.1 hc1).1
  have hrt : rtE (b + (szE a + szE i + 1)) c = (rc : Nat) := by rw [rtE_nat, ← hrc]
  have Hrc : Hid _ := And.intro hrc hrt
  clear hrc hc1
  rw [hrt] at d2
  clear hrt
  obtain ⟨kl, hkl⟩ : ∃ kl, kl = b + szE a + szE i := ⟨_, rfl⟩
  rw [← hkl] at hN d1
  have Hkl : Hid _ := hkl
  clear hkl
  have Hd : Hid _ := And.intro d1 (And.intro d2 h)
  clear d1 d2 L1
  obtain ⟨ndl, hndl⟩ : ∃ ndl : Nd, ndl = ⟨14, rtE b a, rtE (b + szE a) i, -1, -1, 0, q, ⟨#[]⟩⟩ := ⟨_, rfl⟩
  rw [← hndl] at hN
  have Hndl : Hid _ := hndl
  clear hndl
  go_enter Tryz.func194, Tryz.ntmps194
  unfold ndV
  go_upto_region 1 with fail
  obtain ⟨nb, hnb⟩ : ∃ nb, nb = w.heap.size := ⟨_, rfl⟩
  obtain ⟨w2, hw2⟩ : ∃ w2, w2 = w.alloc (.cells #[.int .i64 nd.kind, .int .i64 nd.a, .int .i64 nd.b, .int .i64 nd.c, .int .i64 nd.nx, .int .i64 nd.val, .int .i64 nd.pos, .string nd.name] 145) := ⟨_, rfl⟩
  rw [← hw2, ← hnb] at N
  rw [← hw2, ← hnb]
  clear hw2 hnb
  have E := N.em
  have m1 : w2.cell? ⟨nb, 1, none⟩ = some (.int .i64 nd.a) := N.bk.cell (by omega)
  rw [Hd.out.1] at m1
  have hnl := N.bk.lt
  have q1 := nodeG E.1 (N.c E) hN
  clear E h
  go_wp2_with fail
  refine q1.mono ?_
  rintro v w1 ⟨rfl, f1⟩
  clear q1 m1 hnl
  have N2 := Nw.mk' Hd.out.2.2 hc (N.fr.trans f1 (fun _ _ h => h)) ndl
  have N1 := N.move (f1.alloc (.cells #[.int .i64 ndl.kind, .int .i64 ndl.a, .int .i64 ndl.b, .int .i64 ndl.c, .int .i64 ndl.nx, .int .i64 ndl.val, .int .i64 ndl.pos, .string ndl.name] 145)) Hd.out.2.2
  clear N f1 hc
  unfold ndV
  go_upto_region 2 with fail
  obtain ⟨lb, hlb⟩ : ∃ lb, lb = w1.heap.size := ⟨_, rfl⟩
  obtain ⟨w3, hw3⟩ : ∃ w3, w3 = w1.alloc (.cells #[.int .i64 ndl.kind, .int .i64 ndl.a, .int .i64 ndl.b, .int .i64 ndl.c, .int .i64 ndl.nx, .int .i64 ndl.val, .int .i64 ndl.pos, .string ndl.name] 145) := ⟨_, rfl⟩
  rw [← hw3, ← hlb] at N2
  rw [← hw3] at N1
  rw [← hw3, ← hlb]
  clear hw3 hlb w1 w2
  have E := N1.em
  have l0 : w3.cell? ⟨lb, 0, none⟩ = some (.int .i64 ndl.kind) := N2.bk.cell (by omega)
  have k0 : ndl.kind = 14 := by rw [Hndl.out]
  rw [k0] at l0
  have hll := N2.bk.lt
  have l1 : w3.cell? ⟨lb, 1, none⟩ = some (.int .i64 ndl.a) := N2.bk.cell (by omega)
  have k1 : ndl.a = rtE b a := by rw [Hndl.out]
  have k2 : ndl.b = rtE (b + szE a) i := by rw [Hndl.out]
  rw [k1] at l1
  have q2 := exprG o a hta E.1 (N1.c E) La rfl Wa (by omega)
  go_wp2_with fail
  refine q2.mono ?_
  rintro v w4 ⟨rfl, hE⟩
  have E4 := E.then (e := .returned (.tuple #[])) ⟨rfl, hE⟩
  clear hE q2 l0 l1 hll
  have l2 : w4.cell? ⟨lb, 2, none⟩ = some (.int .i64 ndl.b) := (N2.b E4).cell (by omega)
  rw [k2] at l2
  have hll := (N2.b E4).lt
  have q2 := exprG o i hti E4.1 (N1.c E4) Li rfl Wi (by rw [addE_len]; omega)
  go_wp2_with fail
  refine q2.mono ?_
  rintro v w5 ⟨rfl, hE⟩
  have E5 := E4.then (e := .returned (.tuple #[])) ⟨rfl, hE⟩
  clear hE q2 l2 hll
  have m2 : w5.cell? ⟨nb, 2, none⟩ = some (.int .i64 nd.b) := (N1.b E5).cell (by omega)
  rw [Hd.out.2.1] at m2
  have hnl := (N1.b E5).lt
  have q2 := exprG o c ht E5.1 (N1.c E5) L2 rfl Wc (by rw [addE_len, addE_len]; omega)
  rw [Hrc.out.2] at q2
  go_wp2_with fail
  refine q2.mono ?_
  rintro v w6 ⟨rfl, hE⟩
  have E6 := E5.then (e := .returned (.tuple #[])) ⟨rfl, hE⟩
  clear hE q2 m2 hnl
  have E7 := E6.same ((Fr.refl _ _).drew)
  obtain ⟨tb, t1, t2, t3, t4, t5, t6⟩ := N1.ty E7 hrl
  have m2 : w6.drew.cell? ⟨nb, 2, none⟩ = some (.int .i64 nd.b) := (N1.b E7).cell (by omega)
  rw [Hd.out.2.1] at m2
  have hnl : nb < w6.drew.heap.size := (N1.b E7).lt
  have q3 := classF (tyA G.P0 rc) 32 33 w6.drew
  go_upto_region 8 with fail
  refine wp_region_text (by kernel_rfl) (by kernel_rfl) ?_
  go_wp2_with fail
  refine q3.mono ?_
  rintro v w7 ⟨rfl, hw7⟩
  subst w7
  clear q3
  have q4 := opF E7.1 (clsO (tyA G.P0 rc) 32 33) (clsO_lt (by omega) (by omega)) (by rw [addE_len, addE_len, addE_len]; omega)
  go_wp2_with fail
  refine ⟨by kernel_rfl, ?_⟩
  go_wp2_with fail
  refine q4.mono ?_
  rintro v w8 ⟨rfl, hE⟩
  have E8 := E7.then (e := .returned (.tuple #[])) ⟨rfl, hE⟩
  clear hE q4
  go_wp2_with fail
  go_end0
  have e9 : rc = rtN (b + (szE a + szE i + 1)) c := by rw [Hrc.out.1]; rfl
  rw [e9] at E8
  exact N1.done (by simpa [addS, addE, cS, fxS, szE, cE_len, Nat.add_assoc] using E8)
end
end Go.Proofs.Qxb6500277aGreat
