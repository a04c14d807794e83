/- The law: SameFind. -/
import Derived.Test.Qxb6500283aGreatLB2p
import Derived.Test.Qxb6500283aGreatText2
import Derived.Deep.Cut
namespace Go.Proofs.Qxb6500283aGreat
open Go Go.RowKit

/-- An answer in a block of its own. -/
structure Got (w : World) (A : Fa) (B : Ma) (d : Nat) (D : Dk) (G K : Nat) (er q : Int) (ok : Bool) (c : Cp) (ta : Nat) (wx : World) : Prop where
  blk : Blk wx ta 11 (arr11 (.int .i64 er) (.int .i64 q) (.bool ok) (.int .i64 (c 0)) (.int .i64 (c 1)) (.int .i64 (c 2)) (.int .i64 (c 3)) (.int .i64 (c 4)) (.int .i64 (c 5)) (.int .i64 (c 6)) (.int .i64 (c 7)))
  lo : w.heap.size ≤ ta
  law : Law wx A B d (fun _ => False) D G K
  fr : Fr (PW A B d D) w wx
section
variable {w w1 : World} {A : Fa} {B : Ma} {d : Nat} {D : Dk} {G K : Nat} {er q : Int} {ok : Bool} {c : Cp} {f : Nat → Value}
theorem Got.newA (L1 : Law w1 A B d (fun _ => False) D G K) (F1 : Fr (PW A B d D) w w1) : Got w A B d D G K er q ok c w1.heap.size (w1.alloc (.cells #[.int .i64 er, .int .i64 q, .bool ok, .int .i64 (c 0), .int .i64 (c 1), .int .i64 (c 2), .int .i64 (c 3), .int .i64 (c 4), .int .i64 (c 5), .int .i64 (c 6), .int .i64 (c 7)] 66)) :=
  ⟨new11 w1 (.int .i64 er) (.int .i64 q) (.bool ok) (.int .i64 (c 0)) (.int .i64 (c 1)) (.int .i64 (c 2)) (.int .i64 (c 3)) (.int .i64 (c 4)) (.int .i64 (c 5)) (.int .i64 (c 6)) (.int .i64 (c 7)), F1.size, L1.same ((Fr.refl (fun _ => False) w1).alloc _), F1.alloc _⟩
theorem Got.newB (L1 : Law w1 A B d (fun c => False ∨ c = w.heap.size) D G K) (F1 : Fr (PW A B d D) w w1) (hR : Blk w1 w.heap.size 11 f) : Got w A B d D G K er q ok c w.heap.size (((((((((((w1.setCell ⟨w.heap.size, 0, none⟩ (.int .i64 er)).setCell ⟨w.heap.size, 1, none⟩ (.int .i64 q)).setCell ⟨w.heap.size, 2, none⟩ (.bool ok)).setCell ⟨w.heap.size, 3, none⟩ (.int .i64 (c 0))).setCell ⟨w.heap.size, 4, none⟩ (.int .i64 (c 1))).setCell ⟨w.heap.size, 5, none⟩ (.int .i64 (c 2))).setCell ⟨w.heap.size, 6, none⟩ (.int .i64 (c 3))).setCell ⟨w.heap.size, 7, none⟩ (.int .i64 (c 4))).setCell ⟨w.heap.size, 8, none⟩ (.int .i64 (c 5))).setCell ⟨w.heap.size, 9, none⟩ (.int .i64 (c 6))).setCell ⟨w.heap.size, 10, none⟩ (.int .i64 (c 7))) :=
  ⟨cells11 hR (.int .i64 er) (.int .i64 q) (.bool ok) (.int .i64 (c 0)) (.int .i64 (c 1)) (.int .i64 (c 2)) (.int .i64 (c 3)) (.int .i64 (c 4)) (.int .i64 (c 5)) (.int .i64 (c 6)) (.int .i64 (c 7)), Nat.le_refl _, (L1.wrY ((fr11 w1 w.heap.size (.int .i64 er) (.int .i64 q) (.bool ok) (.int .i64 (c 0)) (.int .i64 (c 1)) (.int .i64 (c 2)) (.int .i64 (c 3)) (.int .i64 (c 4)) (.int .i64 (c 5)) (.int .i64 (c 6)) (.int .i64 (c 7))).mono (fun _ _ e => .inr e))).drop (fun _ h => h.elim), F1.trans (fr11 w1 w.heap.size (.int .i64 er) (.int .i64 q) (.bool ok) (.int .i64 (c 0)) (.int .i64 (c 1)) (.int .i64 (c 2)) (.int .i64 (c 3)) (.int .i64 (c 4)) (.int .i64 (c 5)) (.int .i64 (c 6)) (.int .i64 (c 7))) (fun c hl e => by omega)⟩
end
set_option maxRecDepth 100000 in
set_option maxHeartbeats 16000000 in
theorem sameFind_any {w : World} {A : Fa} {B : Ma} {d : Nat} {D : Dk} {G K : Nat} (L : Law w A B d (fun _ => False) D G K) (hG : G ≤ 700000000000000000) (hK : K ≤ 800000000000000000) (p : Option Addr) :
    Calls Tryz.prog 33 #[.agg #[.pointer p], .pointer (some ⟨A.fb, 0, none⟩), .pointer (some ⟨B.mb, 0, none⟩), .pointer (some ⟨d, 0, none⟩)] w (PPost w A B d D G K) := by
  have f0 := (Fr.refl (fun _ => False) w).alloc (.cells #[.pointer p] 31)
  have hb := bx1 w p
  have L0 := L.same f0
  have F0 : Fr (PW A B d D) w _ := f0.mono (fun _ _ h => h.elim)
  have PL : ∀ c, PW A B d D c → c < w.heap.size := fun c hc => L.pwlt hc
  obtain ⟨w0, hw0⟩ : ∃ w0, w0 = w.alloc (.cells #[.pointer p] 31) := ⟨_, rfl⟩
  have hz0 : w.heap.size < w0.heap.size := by rw [hw0]; simp
  go_enter Tryz.func33, Tryz.ntmps33
  go_wp2_with fail
  rw [← hw0] at f0 hb L0 F0 ⊢
  clear hw0 f0
  obtain ⟨c0, c1, hdl⟩ := L0.regs
  have ZA : Law (w0.alloc (.cells #[.int .i64 0, .int .i64 0, .bool false, .int .i64 0, .int .i64 0, .int .i64 0, .int .i64 0, .int .i64 0, .int .i64 0, .int .i64 0, .int .i64 0] 66)) A B d (fun c => False ∨ c = w0.heap.size) D G K := L0.more ((Fr.refl (fun _ => False) w0).alloc (.cells #[.int .i64 0, .int .i64 0, .bool false, .int .i64 0, .int .i64 0, .int .i64 0, .int .i64 0, .int .i64 0, .int .i64 0, .int .i64 0, .int .i64 0] 66)) (fun c hc => by simp [hc])
  have hRc := Blk.z11 w0
  have LA := L0.same (Fr.refl (fun _ => False) w0).drew
  have LB' := ZA.same (Fr.refl (fun _ => False) (w0.alloc (.cells #[.int .i64 0, .int .i64 0, .bool false, .int .i64 0, .int .i64 0, .int .i64 0, .int .i64 0, .int .i64 0, .int .i64 0, .int .i64 0, .int .i64 0] 66))).drew
  go_cut [9] from 12 (fun t wx => ∃ ta er q o, t = .pointer (some ⟨ta, 0, none⟩) ∧ Sol D.pat D.sub 0 er q o ∧ Got w0 A B d D (G + 300) K er q (okOf o) (cpOf o) ta wx)
  case first =>
    refine wp_region_two [0, 1, 2, 3, 4, 5, 6, 7, 8] [9, 10, 11] [10, 9, 11] (by kernel_rfl) (by kernel_rfl) ?_
    simp only [pick, List.filterMap_cons, List.filterMap_nil, List.getElem?_cons_zero, List.getElem?_cons_succ]
    go_wp2_with fail
    refine ⟨?_, ?_⟩
    · go_wp2_with fail
      obtain ⟨fc, fp, hF⟩ := LA.fnd
      refine (findF hF hG D.pat D.sub).mono ?_
      rintro v w1 ⟨⟨er, q, o, rfl, hS⟩, hF1, f1⟩
      have LQ := LA.real0 f1 ⟨_, _, hF1⟩
      have F1 : Fr (PW A B d D) w0 w1 := ((Fr.refl (PW A B d D) w0).drew).trans f1 (fun c _ hc => hc.elim .inl (fun h => .inr (.inl h)))
      unfold foundV
      go_wp2_with fail
      refine ⟨by kernel_rfl, ?_⟩
      go_wp2_with fail
      go_meet
      exact ⟨w1.heap.size, er, q, o, rfl, hS, Got.newA LQ F1⟩
    · go_wp2_with fail
      obtain ⟨fc, fp, hF⟩ := LB'.fnd
      refine (findF hF hG D.pat D.sub).mono ?_
      rintro v w1 ⟨⟨er, q, o, rfl, hS⟩, hF1, f1⟩
      have LQ := LB'.real0 f1 ⟨_, _, hF1⟩
      have F1 : Fr (PW A B d D) w0 w1 := (((Fr.refl (PW A B d D) w0).alloc (.cells #[.int .i64 0, .int .i64 0, .bool false, .int .i64 0, .int .i64 0, .int .i64 0, .int .i64 0, .int .i64 0, .int .i64 0, .int .i64 0, .int .i64 0] 66)).drew).trans f1 (fun c _ hc => hc.elim .inl (fun h => .inr (.inl h)))
      have hRc1 := (hRc.drew).frame f1 (fun hc => Nat.lt_irrefl _ (L0.lt (hc.elim .inl (fun h => .inr (.inl h)))))
      have m0 := hRc1.cell (o := 0) (by omega)
      have m1 := hRc1.cell (o := 1) (by omega)
      have m2 := hRc1.cell (o := 2) (by omega)
      have m3 := hRc1.cell (o := 3) (by omega)
      have m4 := hRc1.cell (o := 4) (by omega)
      have m5 := hRc1.cell (o := 5) (by omega)
      have m6 := hRc1.cell (o := 6) (by omega)
      have m7 := hRc1.cell (o := 7) (by omega)
      have m8 := hRc1.cell (o := 8) (by omega)
      have m9 := hRc1.cell (o := 9) (by omega)
      have m10 := hRc1.cell (o := 10) (by omega)
      have zR := hRc1.frozen
      have lR := hRc1.lt
      unfold foundV
      go_wp2_with fail
      refine ⟨by kernel_rfl, ?_⟩
      go_wp2_with fail
      go_meet
      exact ⟨w0.heap.size, er, q, o, rfl, hS, Got.newB LQ F1 hRc1⟩
  case rest =>
    obtain ⟨ta, er0, q0, o0, rfl, hS0, hA, hta, L1, F1⟩ := hcut
    have hb1 := hb.frame F1 (fun hc => by have := PL _ hc; omega)
    have hz1 := F1.size
    have FF1 := F0.trans F1 (fun _ _ h => h)
    obtain ⟨w2, hw2⟩ : ∃ w2, w2 = wc := ⟨_, rfl⟩
    rw [← hw2] at hA L1 F1 hb1 hz1 FF1 ⊢
    clear hw2 c0 c1 hdl ZA hRc LA LB' hb L0 F0 F1
    obtain ⟨c0, c1, hdl⟩ := L1.regs
    go_wp2_with fail
    have ZA : Law (w2.alloc (.cells #[.int .i64 0, .int .i64 0, .bool false, .int .i64 0, .int .i64 0, .int .i64 0, .int .i64 0, .int .i64 0, .int .i64 0, .int .i64 0, .int .i64 0] 66)) A B d (fun c => False ∨ c = w2.heap.size) D (G + 300) K := L1.more ((Fr.refl (fun _ => False) w2).alloc (.cells #[.int .i64 0, .int .i64 0, .bool false, .int .i64 0, .int .i64 0, .int .i64 0, .int .i64 0, .int .i64 0, .int .i64 0, .int .i64 0, .int .i64 0] 66)) (fun c hc => by simp [hc])
    have hRc := Blk.z11 w2
    have LA := L1.same (Fr.refl (fun _ => False) w2).drew
    have LB' := ZA.same (Fr.refl (fun _ => False) (w2.alloc (.cells #[.int .i64 0, .int .i64 0, .bool false, .int .i64 0, .int .i64 0, .int .i64 0, .int .i64 0, .int .i64 0, .int .i64 0, .int .i64 0, .int .i64 0] 66))).drew
    go_cut [10] from 22 (fun t wx => ∃ ta er q o, t = .pointer (some ⟨ta, 0, none⟩) ∧ Sol D.pat D.sub 0 er q o ∧ Got w2 A B d D (G + 300) (K + 1) er q (okOf o) (cpOf o) ta wx)
    case first =>
      refine wp_region_two [0, 1, 2, 3, 4, 5, 6, 7, 8] [9, 10, 11] [10, 9, 11] (by kernel_rfl) (by kernel_rfl) ?_
      simp only [pick, List.filterMap_cons, List.filterMap_nil, List.getElem?_cons_zero, List.getElem?_cons_succ]
      go_wp2_with fail
      refine ⟨?_, ?_⟩
      · go_wp2_with fail
        refine (findM LA.md (by omega) D.pat D.sub).mono ?_
        rintro v w1 ⟨⟨er, q, o, rfl, hS⟩, hM1, f1⟩
        have LQ := LA.model f1 hM1
        have F1 : Fr (PW A B d D) w2 w1 := ((Fr.refl (PW A B d D) w2).drew).trans f1 (fun c _ hc => .inr (.inr (.inl hc)))
        unfold foundV
        go_wp2_with fail
        refine ⟨by kernel_rfl, ?_⟩
        go_wp2_with fail
        go_meet
        exact ⟨w1.heap.size, er, q, o, rfl, hS, Got.newA LQ F1⟩
      · go_wp2_with fail
        refine (findM LB'.md (by omega) D.pat D.sub).mono ?_
        rintro v w1 ⟨⟨er, q, o, rfl, hS⟩, hM1, f1⟩
        have LQ := LB'.model f1 hM1
        have F1 : Fr (PW A B d D) w2 w1 := (((Fr.refl (PW A B d D) w2).alloc (.cells #[.int .i64 0, .int .i64 0, .bool false, .int .i64 0, .int .i64 0, .int .i64 0, .int .i64 0, .int .i64 0, .int .i64 0, .int .i64 0, .int .i64 0] 66)).drew).trans f1 (fun c _ hc => .inr (.inr (.inl hc)))
        have hRc1 := (hRc.drew).frame f1 (fun hc => Nat.lt_irrefl _ (L1.lt (.inr (.inr (.inr (.inl hc))))))
        have m0 := hRc1.cell (o := 0) (by omega)
        have m1 := hRc1.cell (o := 1) (by omega)
        have m2 := hRc1.cell (o := 2) (by omega)
        have m3 := hRc1.cell (o := 3) (by omega)
        have m4 := hRc1.cell (o := 4) (by omega)
        have m5 := hRc1.cell (o := 5) (by omega)
        have m6 := hRc1.cell (o := 6) (by omega)
        have m7 := hRc1.cell (o := 7) (by omega)
        have m8 := hRc1.cell (o := 8) (by omega)
        have m9 := hRc1.cell (o := 9) (by omega)
        have m10 := hRc1.cell (o := 10) (by omega)
        have zR := hRc1.frozen
        have lR := hRc1.lt
        unfold foundV
        go_wp2_with fail
        refine ⟨by kernel_rfl, ?_⟩
        go_wp2_with fail
        go_meet
        exact ⟨w2.heap.size, er, q, o, rfl, hS, Got.newB LQ F1 hRc1⟩
    case rest =>
      obtain ⟨tb, er, q, o, rfl, hS, hB, htb, L3, F3⟩ := hcut
      obtain ⟨rfl, rfl, rfl⟩ := hS0.det hS
      have hA3 := hA.frame F3 (fun hc => by have := PL _ hc; omega)
      have hb3 := hb1.frame F3 (fun hc => by have := PL _ hc; omega)
      have FF3 := FF1.trans F3 (fun _ _ h => h)
      clear c0 c1 hdl ZA hRc LA LB' hA hb1 FF1 F3 L1
      have a0 := hA3.cell (o := 0) (by omega)
      have a1 := hA3.cell (o := 1) (by omega)
      have a2 := hA3.cell (o := 2) (by omega)
      have a3 := hA3.cell (o := 3) (by omega)
      have a4 := hA3.cell (o := 4) (by omega)
      have a5 := hA3.cell (o := 5) (by omega)
      have a6 := hA3.cell (o := 6) (by omega)
      have a7 := hA3.cell (o := 7) (by omega)
      have a8 := hA3.cell (o := 8) (by omega)
      have a9 := hA3.cell (o := 9) (by omega)
      have a10 := hA3.cell (o := 10) (by omega)
      have b0 := hB.cell (o := 0) (by omega)
      have b1 := hB.cell (o := 1) (by omega)
      have b2 := hB.cell (o := 2) (by omega)
      have b3 := hB.cell (o := 3) (by omega)
      have b4 := hB.cell (o := 4) (by omega)
      have b5 := hB.cell (o := 5) (by omega)
      have b6 := hB.cell (o := 6) (by omega)
      have b7 := hB.cell (o := 7) (by omega)
      have b8 := hB.cell (o := 8) (by omega)
      have b9 := hB.cell (o := 9) (by omega)
      have b10 := hB.cell (o := 10) (by omega)
      simp only [arr11, get11] at a0 a1 a2 a3 a4 a5 a6 a7 a8 a9 a10 b0 b1 b2 b3 b4 b5 b6 b7 b8 b9 b10
      have hal := hA3.lt
      have hbl := hB.lt
      go_wp2_with fail
      refine (sameFnd_any er0 q0 (okOf o0) (cpOf o0) _).mono ?_
      rintro v w4 ⟨rfl, f4⟩
      have L4 := L3.same f4
      have hB4 := hB.frame f4 (fun h => h)
      have hb4 := hb3.frame f4 (fun h => h)
      have F4 := FF3.trans f4 (fun _ _ h => h.elim)
      clear a0 a1 a2 a3 a4 a5 a6 a7 a8 a9 a10 b0 b1 b2 b3 b4 b5 b6 b7 b8 b9 b10 hal hbl hB hA3 L3 hb3 FF3 f4
      have b0 := hB4.cell (o := 0) (by omega)
      have b2 := hB4.cell (o := 2) (by omega)
      simp only [arr11, get11] at b0 b2
      have hbl := hB4.lt
      have x0 := hb4.cell (o := 0) (by omega)
      have xl := hb4.lt
      generalize okOf o0 = ok at *
      cases ok
      all_goals
        go_wp2_with fail
        refine (dfaFirst_any p _ _ _).mono ?_
        rintro v w5 ⟨rfl, f5⟩
        have L5 := L4.same f5
        have F5 := F4.trans f5 (fun _ _ h => h.elim)
        go_wp2_with fail
        refine L5.again.mono ?_
        rintro v w6 ⟨rfl, ⟨D', hc, L6⟩, f6⟩
        have F6 := F5.trans f6 (fun c _ h => .inr (.inr (.inr h)))
        go_wp2_with fail
        refine bodyPost_ret (v := .bool true) (by simp [results, Tryz.results33, go_sem]) rfl ?_
        exact ⟨rfl, ⟨_, L6.le (by omega) (by omega)⟩, F6⟩
end Go.Proofs.Qxb6500283aGreat
