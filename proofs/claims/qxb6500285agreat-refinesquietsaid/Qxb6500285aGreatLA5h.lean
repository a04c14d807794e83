/- The law: sameHas_any. -/
import Derived.Test.Qxb6500285aGreatLA5
namespace Go.Proofs.Qxb6500285aGreat
open Go Go.RowKit

set_option maxRecDepth 100000 in
set_option maxHeartbeats 16000000 in
theorem sameHas_any {w : World} {A : Ad} {D : Dk} {ns : List In} {g h n : Nat} (L : Law w A (fun _ => False) D ns g h n) (hg : g ≤ 900000000000000000) (hh : h ≤ 9999999999999) (hn : n ≤ 10000000000000) (fr : Int) :
    Calls Tryz.prog 30 #[.pointer (some ⟨A.e, 0, none⟩), .pointer (some ⟨A.m, 0, none⟩), .pointer (some ⟨A.d, 0, none⟩), .int .i64 fr] w (PPost w A D g h n) := by
  have c0 := L.dk.cell (o := 0) (by omega)
  have c1 := L.dk.cell (o := 1) (by omega)
  simp only [dkCell] at c0 c1
  have hdl := L.dk.lt
  go_enter Tryz.func30, Tryz.ntmps30
  go_wp2_with fail
  have ZA : Law (w.alloc (.cells #[.int .i64 0, .int .i64 0, .bool false, .int .i64 0, .int .i64 0, .int .i64 0, .int .i64 0, .int .i64 0, .int .i64 0, .int .i64 0, .int .i64 0] 43)) A (fun c => False ∨ c = w.heap.size) D ns g h n := L.more ((Fr.refl (fun _ => False) w).alloc (.cells #[.int .i64 0, .int .i64 0, .bool false, .int .i64 0, .int .i64 0, .int .i64 0, .int .i64 0, .int .i64 0, .int .i64 0, .int .i64 0, .int .i64 0] 43)) (fun c hc => by simp [hc])
  have hRc := Blk.z11 w
  have LA := L.same (Fr.refl (fun _ => False) w).drew
  have LB' := ZA.same (Fr.refl (fun _ => False) (w.alloc (.cells #[.int .i64 0, .int .i64 0, .bool false, .int .i64 0, .int .i64 0, .int .i64 0, .int .i64 0, .int .i64 0, .int .i64 0, .int .i64 0, .int .i64 0] 43))).drew
  go_cut [10] from 12 (fun t wx => ∃ ta er q o, t = .pointer (some ⟨ta, 0, none⟩) ∧ Sol D.pat D.sub fr er q o ∧ Got w A D ns (g + 300) h n er q (okOf o) noC ta wx)
  case first =>
    refine wp_region_two [0, 1, 2, 3, 4, 5, 6, 7, 8, 9] [10, 11, 12] [11, 10, 12] (by kernel_rfl) (by kernel_rfl) ?_
    simp only [pick, List.filterMap_cons, List.filterMap_nil, List.getElem?_cons_zero, List.getElem?_cons_succ]
    go_wp2_with fail
    refine ⟨?_, ?_⟩
    · go_wp2_with fail
      obtain ⟨a, b, hE⟩ := LA.eng
      refine (hasG hE (by omega) D.pat D.sub fr).mono ?_
      rintro v w1 ⟨⟨er, q, o, rfl, hS⟩, n1, m1, hE1, f1⟩
      have L1 := LA.ofE0 f1 (hE1.le (show _ ≤ g + 300 by omega))
      have F1 : Fr (PW A D) w w1 := ((Fr.refl (PW A D) w).drew).trans f1 (fun c _ hc => .inl hc)
      rw [foundV_no]
      go_wp2_with fail
      refine ⟨by kernel_rfl, ?_⟩
      go_wp2_with fail
      go_meet
      exact ⟨w1.heap.size, er, q, o, rfl, hS, Got.newA L1 F1⟩
    · go_wp2_with fail
      obtain ⟨a, b, hE⟩ := LB'.eng
      refine (hasG hE (by omega) D.pat D.sub fr).mono ?_
      rintro v w1 ⟨⟨er, q, o, rfl, hS⟩, n1, m1, hE1, f1⟩
      have L1 := LB'.ofE0 f1 (hE1.le (show _ ≤ g + 300 by omega))
      have F1 : Fr (PW A D) w w1 := (((Fr.refl (PW A D) w).alloc (.cells #[.int .i64 0, .int .i64 0, .bool false, .int .i64 0, .int .i64 0, .int .i64 0, .int .i64 0, .int .i64 0, .int .i64 0, .int .i64 0, .int .i64 0] 43)).drew).trans f1 (fun c _ hc => .inl hc)
      have hRc1 := (hRc.drew).frame f1 (fun hc => Nat.lt_irrefl _ (L.elt hc))
      have m0 := hRc1.cell (o := 0) (by omega)
      have m1 := hRc1.cell (o := 1) (by omega)
      have m2 := hRc1.cell (o := 2) (by omega)
      have m3 := hRc1.cell (o := 3) (by omega)
      have m4 := hRc1.cell (o := 4) (by omega)
      have m5 := hRc1.cell (o := 5) (by omega)
      have m6 := hRc1.cell (o := 6) (by omega)
      have m7 := hRc1.cell (o := 7) (by omega)
      have m8 := hRc1.cell (o := 8) (by omega)
      have m9 := hRc1.cell (o := 9) (by omega)
      have m10 := hRc1.cell (o := 10) (by omega)
      have zR := hRc1.frozen
      have lR := hRc1.lt
      rw [foundV_no]
      go_wp2_with fail
      refine ⟨by kernel_rfl, ?_⟩
      go_wp2_with fail
      go_meet
      exact ⟨w.heap.size, er, q, o, rfl, hS, Got.newB L1 F1 hRc1⟩
  case rest =>
    obtain ⟨ta, er0, q0, o0, rfl, hS0, hA, hta, L1, F1⟩ := hcut
    have PL : ∀ c, PW A D c → c < w.heap.size := fun c hc => (L.pslo hc).2
    have hdlo := L.dlo
    clear c0 c1
    have e0 := L1.dk.cell (o := 5) (by omega)
    have e1 := L1.dk.cell (o := 6) (by omega)
    have e2 := L1.dk.cell (o := 7) (by omega)
    have e3 := L1.dk.cell (o := 8) (by omega)
    have e4 := L1.dk.cell (o := 9) (by omega)
    have e5 := L1.dk.cell (o := 10) (by omega)
    have e6 := L1.dk.cell (o := 11) (by omega)
    have e7 := L1.dk.cell (o := 12) (by omega)
    have e8 := L1.dk.cell (o := 13) (by omega)
    have e9 := L1.dk.cell (o := 14) (by omega)
    have e10 := L1.dk.cell (o := 15) (by omega)
    have a0 := hA.cell (o := 0) (by omega)
    have a1 := hA.cell (o := 1) (by omega)
    have a2 := hA.cell (o := 2) (by omega)
    have a3 := hA.cell (o := 3) (by omega)
    have a4 := hA.cell (o := 4) (by omega)
    have a5 := hA.cell (o := 5) (by omega)
    have a6 := hA.cell (o := 6) (by omega)
    have a7 := hA.cell (o := 7) (by omega)
    have a8 := hA.cell (o := 8) (by omega)
    have a9 := hA.cell (o := 9) (by omega)
    have a10 := hA.cell (o := 10) (by omega)
    simp only [arr11, get11] at a0 a1 a2 a3 a4 a5 a6 a7 a8 a9 a10
    have zd := L1.dk.frozen
    have hdl1 := L1.dk.lt
    have hal := hA.lt
    have k2 := frA wc A.d (.int .i64 er0) (.int .i64 q0) (.bool (okOf o0)) (.int .i64 (-1)) (.int .i64 (-1)) (.int .i64 (-1)) (.int .i64 (-1)) (.int .i64 (-1)) (.int .i64 (-1)) (.int .i64 (-1)) (.int .i64 (-1))
    have L2 := L1.ofD k2 (ans11 L1.dk (.int .i64 er0) (.int .i64 q0) (.bool (okOf o0)) (.int .i64 (-1)) (.int .i64 (-1)) (.int .i64 (-1)) (.int .i64 (-1)) (.int .i64 (-1)) (.int .i64 (-1)) (.int .i64 (-1)) (.int .i64 (-1))) rfl rfl rfl rfl L1.pt L1.sb L1.kn
    have F2 := F1.trans k2 (fun c _ e => .inr (.inr (.inl e)))
    have hA2 := hA.frame k2 (by omega)
    simp only [noC] at a3 a4 a5 a6 a7 a8 a9 a10
    go_wp2_with fail
    obtain ⟨w2, hw2⟩ : ∃ w2, w2 = (((((((((((wc.setCell ⟨A.d, 5, none⟩ (.int .i64 er0)).setCell ⟨A.d, 6, none⟩ (.int .i64 q0)).setCell ⟨A.d, 7, none⟩ (.bool (okOf o0))).setCell ⟨A.d, 8, none⟩ (.int .i64 (-1))).setCell ⟨A.d, 9, none⟩ (.int .i64 (-1))).setCell ⟨A.d, 10, none⟩ (.int .i64 (-1))).setCell ⟨A.d, 11, none⟩ (.int .i64 (-1))).setCell ⟨A.d, 12, none⟩ (.int .i64 (-1))).setCell ⟨A.d, 13, none⟩ (.int .i64 (-1))).setCell ⟨A.d, 14, none⟩ (.int .i64 (-1))).setCell ⟨A.d, 15, none⟩ (.int .i64 (-1))) := ⟨_, rfl⟩
    rw [← hw2] at L2 F2 hA2 ⊢
    have hz2 := F2.size
    clear hw2 k2 zd e0 e1 e2 e3 e4 e5 e6 e7 e8 e9 e10 a0 a1 a2 a3 a4 a5 a6 a7 a8 a9 a10 hdl1 hal hA L1 F1 ZA hRc LA LB'
    have c0 := L2.dk.cell (o := 0) (by omega)
    have c1 := L2.dk.cell (o := 1) (by omega)
    simp only [dkCell, ansD] at c0 c1
    have hdl2 := L2.dk.lt
    have ZA : Law (w2.alloc (.cells #[.int .i64 0, .int .i64 0, .bool false, .int .i64 0, .int .i64 0, .int .i64 0, .int .i64 0, .int .i64 0, .int .i64 0, .int .i64 0, .int .i64 0] 43)) A (fun c => False ∨ c = w2.heap.size) (ansD D (arr11 (.int .i64 er0) (.int .i64 q0) (.bool (okOf o0)) (.int .i64 (-1)) (.int .i64 (-1)) (.int .i64 (-1)) (.int .i64 (-1)) (.int .i64 (-1)) (.int .i64 (-1)) (.int .i64 (-1)) (.int .i64 (-1)))) ns (g + 300) h n := L2.more ((Fr.refl (fun _ => False) w2).alloc (.cells #[.int .i64 0, .int .i64 0, .bool false, .int .i64 0, .int .i64 0, .int .i64 0, .int .i64 0, .int .i64 0, .int .i64 0, .int .i64 0, .int .i64 0] 43)) (fun c hc => by simp [hc])
    have hRc := Blk.z11 w2
    have LA := L2.same (Fr.refl (fun _ => False) w2).drew
    have LB' := ZA.same (Fr.refl (fun _ => False) (w2.alloc (.cells #[.int .i64 0, .int .i64 0, .bool false, .int .i64 0, .int .i64 0, .int .i64 0, .int .i64 0, .int .i64 0, .int .i64 0, .int .i64 0, .int .i64 0] 43))).drew
    go_cut [11] from 12 (fun t wx => ∃ ta er q o, t = .pointer (some ⟨ta, 0, none⟩) ∧ Sol D.pat D.sub fr er q o ∧ Got w2 A (ansD D (arr11 (.int .i64 er0) (.int .i64 q0) (.bool (okOf o0)) (.int .i64 (-1)) (.int .i64 (-1)) (.int .i64 (-1)) (.int .i64 (-1)) (.int .i64 (-1)) (.int .i64 (-1)) (.int .i64 (-1)) (.int .i64 (-1)))) ns (g + 300) (h + 1) n er q (okOf o) noC ta wx)
    case first =>
      refine wp_region_two [0, 1, 2, 3, 4, 5, 6, 7, 8, 9] [10, 11, 12] [11, 10, 12] (by kernel_rfl) (by kernel_rfl) ?_
      simp only [pick, List.filterMap_cons, List.filterMap_nil, List.getElem?_cons_zero, List.getElem?_cons_succ]
      go_wp2_with fail
      refine ⟨?_, ?_⟩
      · go_wp2_with fail
        refine (hasM LA.me (by omega) (by omega) D.pat D.sub fr).mono ?_
        rintro v w1 ⟨⟨er, q, o, rfl, hS⟩, hM1, f1⟩
        have L1 := LA.ofM f1 hM1
        have F1 : Fr (PW A (ansD D (arr11 (.int .i64 er0) (.int .i64 q0) (.bool (okOf o0)) (.int .i64 (-1)) (.int .i64 (-1)) (.int .i64 (-1)) (.int .i64 (-1)) (.int .i64 (-1)) (.int .i64 (-1)) (.int .i64 (-1)) (.int .i64 (-1))))) w2 w1 := ((Fr.refl (PW A (ansD D (arr11 (.int .i64 er0) (.int .i64 q0) (.bool (okOf o0)) (.int .i64 (-1)) (.int .i64 (-1)) (.int .i64 (-1)) (.int .i64 (-1)) (.int .i64 (-1)) (.int .i64 (-1)) (.int .i64 (-1)) (.int .i64 (-1))))) w2).drew).trans f1 (fun c _ hc => .inr (.inl hc))
        rw [foundV_no]
        go_wp2_with fail
        refine ⟨by kernel_rfl, ?_⟩
        go_wp2_with fail
        go_meet
        exact ⟨w1.heap.size, er, q, o, rfl, hS, Got.newA L1 F1⟩
      · go_wp2_with fail
        refine (hasM LB'.me (by omega) (by omega) D.pat D.sub fr).mono ?_
        rintro v w1 ⟨⟨er, q, o, rfl, hS⟩, hM1, f1⟩
        have L1 := LB'.ofM f1 hM1
        have F1 : Fr (PW A (ansD D (arr11 (.int .i64 er0) (.int .i64 q0) (.bool (okOf o0)) (.int .i64 (-1)) (.int .i64 (-1)) (.int .i64 (-1)) (.int .i64 (-1)) (.int .i64 (-1)) (.int .i64 (-1)) (.int .i64 (-1)) (.int .i64 (-1))))) w2 w1 := (((Fr.refl (PW A (ansD D (arr11 (.int .i64 er0) (.int .i64 q0) (.bool (okOf o0)) (.int .i64 (-1)) (.int .i64 (-1)) (.int .i64 (-1)) (.int .i64 (-1)) (.int .i64 (-1)) (.int .i64 (-1)) (.int .i64 (-1)) (.int .i64 (-1))))) w2).alloc (.cells #[.int .i64 0, .int .i64 0, .bool false, .int .i64 0, .int .i64 0, .int .i64 0, .int .i64 0, .int .i64 0, .int .i64 0, .int .i64 0, .int .i64 0] 43)).drew).trans f1 (fun c _ hc => .inr (.inl hc))
        have hRc1 := (hRc.drew).frame f1 (fun hc => Nat.lt_irrefl _ ((fun {c} (hc : A.mo c) => L2.lt (.inr (.inr (.inl hc)))) hc))
        have m0 := hRc1.cell (o := 0) (by omega)
        have m1 := hRc1.cell (o := 1) (by omega)
        have m2 := hRc1.cell (o := 2) (by omega)
        have m3 := hRc1.cell (o := 3) (by omega)
        have m4 := hRc1.cell (o := 4) (by omega)
        have m5 := hRc1.cell (o := 5) (by omega)
        have m6 := hRc1.cell (o := 6) (by omega)
        have m7 := hRc1.cell (o := 7) (by omega)
        have m8 := hRc1.cell (o := 8) (by omega)
        have m9 := hRc1.cell (o := 9) (by omega)
        have m10 := hRc1.cell (o := 10) (by omega)
        have zR := hRc1.frozen
        have lR := hRc1.lt
        rw [foundV_no]
        go_wp2_with fail
        refine ⟨by kernel_rfl, ?_⟩
        go_wp2_with fail
        go_meet
        exact ⟨w2.heap.size, er, q, o, rfl, hS, Got.newB L1 F1 hRc1⟩
    case rest =>
      obtain ⟨tb, er, q, o, rfl, hS, hB, htb, L3, F3⟩ := hcut
      obtain ⟨rfl, rfl, rfl⟩ := hS0.det hS
      have hA3 := hA2.frame F3 (fun hc => by have := PL _ hc; omega)
      clear c0 c1 hA2 L2 ZA hRc LA LB'
      have a0 := hA3.cell (o := 0) (by omega)
      have a1 := hA3.cell (o := 1) (by omega)
      have a2 := hA3.cell (o := 2) (by omega)
      have a3 := hA3.cell (o := 3) (by omega)
      have a4 := hA3.cell (o := 4) (by omega)
      have a5 := hA3.cell (o := 5) (by omega)
      have a6 := hA3.cell (o := 6) (by omega)
      have a7 := hA3.cell (o := 7) (by omega)
      have a8 := hA3.cell (o := 8) (by omega)
      have a9 := hA3.cell (o := 9) (by omega)
      have a10 := hA3.cell (o := 10) (by omega)
      have b0 := hB.cell (o := 0) (by omega)
      have b1 := hB.cell (o := 1) (by omega)
      have b2 := hB.cell (o := 2) (by omega)
      have b3 := hB.cell (o := 3) (by omega)
      have b4 := hB.cell (o := 4) (by omega)
      have b5 := hB.cell (o := 5) (by omega)
      have b6 := hB.cell (o := 6) (by omega)
      have b7 := hB.cell (o := 7) (by omega)
      have b8 := hB.cell (o := 8) (by omega)
      have b9 := hB.cell (o := 9) (by omega)
      have b10 := hB.cell (o := 10) (by omega)
      simp only [arr11, get11] at a0 a1 a2 a3 a4 a5 a6 a7 a8 a9 a10 b0 b1 b2 b3 b4 b5 b6 b7 b8 b9 b10
      have hal := hA3.lt
      have hbl := hB.lt
      go_wp2_with fail
      refine (sameFound_any er0 q0 (okOf o0) noC _).mono ?_
      rintro v w4 ⟨rfl, f4⟩
      have L4 := L3.same f4
      have hA4 := hA3.frame f4 (fun h => h)
      have F4 := (F2.trans F3 (fun _ _ h => h)).trans f4 (fun _ _ h => h.elim)
      clear a0 a1 a2 a3 a4 a5 a6 a7 a8 a9 a10 b0 b1 b2 b3 b4 b5 b6 b7 b8 b9 b10 hal hbl hB
      have a0 := hA4.cell (o := 0) (by omega)
      simp only [arr11, get11] at a0
      have hal := hA4.lt
      have L4d := L4.same (Fr.refl (fun _ => False) w4).drew
      have F4d := F4.drew
      have hA4d := hA4.drew
      go_wp2_with fail
      refine wp_region_two [0, 2] [1, 3, 4, 5] [3, 1, 4, 5] (by kernel_rfl) (by kernel_rfl) ?_
      simp only [pick, List.filterMap_cons, List.filterMap_nil, List.getElem?_cons_zero, List.getElem?_cons_succ]
      go_wp2_with fail
      refine ⟨?_, ?_⟩
      all_goals
        go_wp2_with fail
        refine (L4d.again (by omega)).mono ?_
        rintro v w5 hAg
        obtain ⟨rfl, _, _, f5, D', L5, _⟩ := L4d.ag hAg
        have hA5 := hA4d.frame f5 (fun hc => by
          rcases hc with hc | hc
          · omega
          · have := PL ta (.inr (.inr (.inr hc))); omega)
        have a5 := hA5.cell (o := 0) (by omega)
        simp only [arr11, get11] at a5
        have hal5 := hA5.lt
        go_wp2_with fail
        refine ⟨by kernel_rfl, ?_⟩
        go_wp2_with fail
        refine bodyPost_ret (v := .tuple #[.bool true, .int .i64 er0]) (by simp [results, Tryz.results30, go_sem]) rfl ?_
        exact ⟨⟨_, rfl⟩, ⟨D', [], L5.le (by omega) (by omega) (by omega)⟩, F4d.trans f5 (fun _ _ h => .inr (.inr h))⟩
end Go.Proofs.Qxb6500285aGreat
