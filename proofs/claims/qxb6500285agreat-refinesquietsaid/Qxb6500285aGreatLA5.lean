/- The law: sameMatch_any. -/
import Derived.Test.Qxb6500285aGreatE2
import Derived.Test.Qxb6500285aGreatE3
import Derived.Test.Qxb6500285aGreatE7
import Derived.Test.Qxb6500285aGreatLA4
import Derived.Test.Qxb6500285aGreatText2
import Derived.Deep.Cut
namespace Go.Proofs.Qxb6500285aGreat
open Go Go.RowKit

def ansD (D : Dk) (f : Nat → Value) : Dk := { D with an := f }
def arr11 (v0 v1 v2 v3 v4 v5 v6 v7 v8 v9 v10 : Value) : Nat → Value := fun o => (#[v0, v1, v2, v3, v4, v5, v6, v7, v8, v9, v10] : Array Value).getD o undef
theorem ans11 {w : World} {d : Nat} {D : Dk} (h : Blk w d 23 (dkCell D)) (v0 v1 v2 v3 v4 v5 v6 v7 v8 v9 v10 : Value) : Blk (((((((((((w.setCell ⟨d, 5, none⟩ v0).setCell ⟨d, 6, none⟩ v1).setCell ⟨d, 7, none⟩ v2).setCell ⟨d, 8, none⟩ v3).setCell ⟨d, 9, none⟩ v4).setCell ⟨d, 10, none⟩ v5).setCell ⟨d, 11, none⟩ v6).setCell ⟨d, 12, none⟩ v7).setCell ⟨d, 13, none⟩ v8).setCell ⟨d, 14, none⟩ v9).setCell ⟨d, 15, none⟩ v10) d 23 (dkCell (ansD D (arr11 v0 v1 v2 v3 v4 v5 v6 v7 v8 v9 v10))) :=
  (((((((((((h.set 5 v0).set 6 v1).set 7 v2).set 8 v3).set 9 v4).set 10 v5).set 11 v6).set 12 v7).set 13 v8).set 14 v9).set 15 v10).congr fun o ho => by
    rcases lt23 ho with rfl | rfl | rfl | rfl | rfl | rfl | rfl | rfl | rfl | rfl | rfl | rfl | rfl | rfl | rfl | rfl | rfl | rfl | rfl | rfl | rfl | rfl | rfl <;> simp [upd, dkCell, ansD, arr11]
theorem frA (w : World) (d : Nat) (v0 v1 v2 v3 v4 v5 v6 v7 v8 v9 v10 : Value) : Fr (fun c => c = d) w (((((((((((w.setCell ⟨d, 5, none⟩ v0).setCell ⟨d, 6, none⟩ v1).setCell ⟨d, 7, none⟩ v2).setCell ⟨d, 8, none⟩ v3).setCell ⟨d, 9, none⟩ v4).setCell ⟨d, 10, none⟩ v5).setCell ⟨d, 11, none⟩ v6).setCell ⟨d, 12, none⟩ v7).setCell ⟨d, 13, none⟩ v8).setCell ⟨d, 14, none⟩ v9).setCell ⟨d, 15, none⟩ v10) :=
  ((((((((((((Fr.refl (fun c => c = d) w).setC d 5 v0 (fun _ => rfl)).setC d 6 v1 (fun _ => rfl)).setC d 7 v2 (fun _ => rfl)).setC d 8 v3 (fun _ => rfl)).setC d 9 v4 (fun _ => rfl)).setC d 10 v5 (fun _ => rfl)).setC d 11 v6 (fun _ => rfl)).setC d 12 v7 (fun _ => rfl)).setC d 13 v8 (fun _ => rfl)).setC d 14 v9 (fun _ => rfl)).setC d 15 v10 (fun _ => rfl))
section
variable {w w' : World} {A : Ad} {Y : Nat → Prop} {D : Dk} {ns : List In} {g h n : Nat}
theorem Law.more {Y' : Nat → Prop} (L : Law w A Y D ns g h n) (k : Fr (fun _ => False) w w') (hY : ∀ c, Y' c → w.heap.size ≤ c ∧ c < w'.heap.size) : Law w' A (fun c => Y c ∨ Y' c) D ns g h n := by
  obtain ⟨a, b, hE⟩ := L.eng
  exact L.ofE (k.mono (fun _ _ h => h.elim)) (hE.step k (fun _ h => h.elim) (fun c hc => hc.imp id (hY c))) (fun c hc => (hY c hc).1)
theorem Law.wrY (L : Law w A Y D ns g h n) (k : Fr Y w w') : Law w' A Y D ns g h n :=
  L.step k (fun c hc => .inr (.inr (.inr (.inr hc)))) (fun hc => by have := L.far _ (.inr hc); omega) (fun hc => by have := L.far _ (.inr hc); have := L.mlt (c := A.m) (.inl rfl); omega) (fun c hb hc => L.yl c hc hb) (L.me.frame k (fun c hm hc => by have := L.mlt hm; have := L.far c (.inr hc); omega))
end
/-- What a step that plays leaves. -/
def PW (A : Ad) (D : Dk) (c : Nat) : Prop := A.eo c ∨ A.mo c ∨ c = A.d ∨ isBlk D.lx c
def PPost (w : World) (A : Ad) (D : Dk) (g h n : Nat) (v : Ending) (w' : World) : Prop :=
  (∃ er : Int, v = .returned (.tuple #[.bool true, .int .i64 er])) ∧ (∃ D' ns', Law w' A (fun _ => False) D' ns' (g + 300) (h + 2) (n + 1)) ∧ Fr (PW A D) w w'
theorem Law.elo {w : World} {A : Ad} {Y : Nat → Prop} {D : Dk} {ns : List In} {g h n : Nat} (L : Law w A Y D ns g h n) {c : Nat} (hc : A.eo c) : A.lo ≤ c := by
  obtain ⟨a, b, hE⟩ := L.eng
  have h1 := hE.ap
  have h2 := L.ord
  unfold Ad.eo EO SAt pOwn mOwn at hc
  omega
theorem Law.mlo {w : World} {A : Ad} {Y : Nat → Prop} {D : Dk} {ns : List In} {g h n : Nat} (L : Law w A Y D ns g h n) {c : Nat} (hc : A.mo c) : A.lo ≤ c := by
  obtain ⟨a, b, hE⟩ := L.eng
  have h1 := hE.ap
  have h2 := L.ord
  have := L.mlt hc
  omega
theorem Law.dlo {w : World} {A : Ad} {Y : Nat → Prop} {D : Dk} {ns : List In} {g h n : Nat} (L : Law w A Y D ns g h n) : A.lo ≤ A.d := by
  have := L.mlo (c := A.m) (.inl rfl)
  have := L.ord
  omega
theorem Law.pslo {w : World} {A : Ad} {Y : Nat → Prop} {D : Dk} {ns : List In} {g h n : Nat} (L : Law w A Y D ns g h n) {c : Nat} (hc : PW A D c) : A.lo ≤ c ∧ c < w.heap.size := by
  rcases hc with hc | hc | hc | hc
  · exact ⟨L.elo hc, L.elt hc⟩
  · exact ⟨L.mlo hc, L.lt (.inr (.inr (.inl hc)))⟩
  · have := L.dlo; have := L.lt (c := A.d) (.inl rfl); omega
  · have := L.dlo; have := L.far c (.inl (.inl hc)); exact ⟨by omega, L.lt (.inr (.inr (.inr (.inl (.inl hc)))))⟩
/-- An answer in a block of its own. -/
structure Got (w : World) (A : Ad) (D : Dk) (ns : List In) (g h n : Nat) (er q : Int) (ok : Bool) (c : Cp) (ta : Nat) (wx : World) : Prop where
  blk : Blk wx ta 11 (arr11 (.int .i64 er) (.int .i64 q) (.bool ok) (.int .i64 (c 0)) (.int .i64 (c 1)) (.int .i64 (c 2)) (.int .i64 (c 3)) (.int .i64 (c 4)) (.int .i64 (c 5)) (.int .i64 (c 6)) (.int .i64 (c 7)))
  lo : w.heap.size ≤ ta
  law : Law wx A (fun _ => False) D ns g h n
  fr : Fr (PW A D) w wx
section
variable {w w1 : World} {A : Ad} {D : Dk} {ns : List In} {g h n : Nat} {er q : Int} {ok : Bool} {c : Cp} {f : Nat → Value}
theorem Got.newA (L1 : Law w1 A (fun _ => False) D ns g h n) (F1 : Fr (PW A D) w w1) : Got w A D ns g h n er q ok c w1.heap.size (w1.alloc (.cells #[.int .i64 er, .int .i64 q, .bool ok, .int .i64 (c 0), .int .i64 (c 1), .int .i64 (c 2), .int .i64 (c 3), .int .i64 (c 4), .int .i64 (c 5), .int .i64 (c 6), .int .i64 (c 7)] 43)) :=
  ⟨fnd11 w1 er q ok c, F1.size, L1.same ((Fr.refl (fun _ => False) w1).alloc _), F1.alloc _⟩
theorem Got.newB (L1 : Law w1 A (fun c => False ∨ c = w.heap.size) D ns g h n) (F1 : Fr (PW A D) w w1) (hR : Blk w1 w.heap.size 11 f) : Got w A D ns g h n er q ok c w.heap.size (((((((((((w1.setCell ⟨w.heap.size, 0, none⟩ (.int .i64 er)).setCell ⟨w.heap.size, 1, none⟩ (.int .i64 q)).setCell ⟨w.heap.size, 2, none⟩ (.bool ok)).setCell ⟨w.heap.size, 3, none⟩ (.int .i64 (c 0))).setCell ⟨w.heap.size, 4, none⟩ (.int .i64 (c 1))).setCell ⟨w.heap.size, 5, none⟩ (.int .i64 (c 2))).setCell ⟨w.heap.size, 6, none⟩ (.int .i64 (c 3))).setCell ⟨w.heap.size, 7, none⟩ (.int .i64 (c 4))).setCell ⟨w.heap.size, 8, none⟩ (.int .i64 (c 5))).setCell ⟨w.heap.size, 9, none⟩ (.int .i64 (c 6))).setCell ⟨w.heap.size, 10, none⟩ (.int .i64 (c 7))) :=
  ⟨cells11 hR (.int .i64 er) (.int .i64 q) (.bool ok) (.int .i64 (c 0)) (.int .i64 (c 1)) (.int .i64 (c 2)) (.int .i64 (c 3)) (.int .i64 (c 4)) (.int .i64 (c 5)) (.int .i64 (c 6)) (.int .i64 (c 7)), Nat.le_refl _, (L1.wrY ((fr11 w1 w.heap.size (.int .i64 er) (.int .i64 q) (.bool ok) (.int .i64 (c 0)) (.int .i64 (c 1)) (.int .i64 (c 2)) (.int .i64 (c 3)) (.int .i64 (c 4)) (.int .i64 (c 5)) (.int .i64 (c 6)) (.int .i64 (c 7))).mono (fun _ _ e => .inr e))).drop, F1.trans (fr11 w1 w.heap.size (.int .i64 er) (.int .i64 q) (.bool ok) (.int .i64 (c 0)) (.int .i64 (c 1)) (.int .i64 (c 2)) (.int .i64 (c 3)) (.int .i64 (c 4)) (.int .i64 (c 5)) (.int .i64 (c 6)) (.int .i64 (c 7))) (fun c hl e => by omega)⟩
end
set_option maxRecDepth 100000 in
set_option maxHeartbeats 16000000 in
theorem sameMatch_any {w : World} {A : Ad} {D : Dk} {ns : List In} {g h n : Nat} (L : Law w A (fun _ => False) D ns g h n) (hh : h ≤ 9999999999999) (hn : n ≤ 10000000000000) (fr : Int) :
    Calls Tryz.prog 29 #[.pointer (some ⟨A.e, 0, none⟩), .pointer (some ⟨A.m, 0, none⟩), .pointer (some ⟨A.d, 0, none⟩), .int .i64 fr] w (PPost w A D g h n) := by
  have c0 := L.dk.cell (o := 0) (by omega)
  have c1 := L.dk.cell (o := 1) (by omega)
  simp only [dkCell] at c0 c1
  have hdl := L.dk.lt
  go_enter Tryz.func29, Tryz.ntmps29
  go_wp2_with fail
  have ZA : Law (w.alloc (.cells #[.int .i64 0, .int .i64 0, .bool false, .int .i64 0, .int .i64 0, .int .i64 0, .int .i64 0, .int .i64 0, .int .i64 0, .int .i64 0, .int .i64 0] 43)) A (fun c => False ∨ c = w.heap.size) D ns g h n := L.more ((Fr.refl (fun _ => False) w).alloc (.cells #[.int .i64 0, .int .i64 0, .bool false, .int .i64 0, .int .i64 0, .int .i64 0, .int .i64 0, .int .i64 0, .int .i64 0, .int .i64 0, .int .i64 0] 43)) (fun c hc => by simp [hc])
  have hRc := Blk.z11 w
  have LA := L.same (Fr.refl (fun _ => False) w).drew
  have LB' := ZA.same (Fr.refl (fun _ => False) (w.alloc (.cells #[.int .i64 0, .int .i64 0, .bool false, .int .i64 0, .int .i64 0, .int .i64 0, .int .i64 0, .int .i64 0, .int .i64 0, .int .i64 0, .int .i64 0] 43))).drew
  go_cut [10] from 12 (fun t wx => ∃ ta er q o, t = .pointer (some ⟨ta, 0, none⟩) ∧ Sol D.pat D.sub fr er q o ∧ Got w A D ns (g + 300) h n er q (okOf o) (cpOf o) ta wx)
  case first =>
    refine wp_region_two [0, 1, 2, 3, 4, 5, 6, 7, 8, 9] [10, 11, 12] [11, 10, 12] (by kernel_rfl) (by kernel_rfl) ?_
    simp only [pick, List.filterMap_cons, List.filterMap_nil, List.getElem?_cons_zero, List.getElem?_cons_succ]
    go_wp2_with fail
    refine ⟨?_, ?_⟩
    · go_wp2_with fail
      obtain ⟨a, b, hE⟩ := LA.eng
      refine (matchG hE D.pat D.sub fr).mono ?_
      rintro v w1 ⟨⟨er, q, o, rfl, hS⟩, n1, m1, hE1, f1⟩
      have L1 := LA.ofE0 f1 (hE1.le (show _ ≤ g + 300 by omega))
      have F1 : Fr (PW A D) w w1 := ((Fr.refl (PW A D) w).drew).trans f1 (fun c _ hc => .inl hc)
      unfold foundV
      go_wp2_with fail
      refine ⟨by kernel_rfl, ?_⟩
      go_wp2_with fail
      go_meet
      exact ⟨w1.heap.size, er, q, o, rfl, hS, Got.newA L1 F1⟩
    · go_wp2_with fail
      obtain ⟨a, b, hE⟩ := LB'.eng
      refine (matchG hE D.pat D.sub fr).mono ?_
      rintro v w1 ⟨⟨er, q, o, rfl, hS⟩, n1, m1, hE1, f1⟩
      have L1 := LB'.ofE0 f1 (hE1.le (show _ ≤ g + 300 by omega))
      have F1 : Fr (PW A D) w w1 := (((Fr.refl (PW A D) w).alloc (.cells #[.int .i64 0, .int .i64 0, .bool false, .int .i64 0, .int .i64 0, .int .i64 0, .int .i64 0, .int .i64 0, .int .i64 0, .int .i64 0, .int .i64 0] 43)).drew).trans f1 (fun c _ hc => .inl hc)
      have hRc1 := (hRc.drew).frame f1 (fun hc => Nat.lt_irrefl _ (L.elt hc))
      have m0 := hRc1.cell (o := 0) (by omega)
      have m1 := hRc1.cell (o := 1) (by omega)
      have m2 := hRc1.cell (o := 2) (by omega)
      have m3 := hRc1.cell (o := 3) (by omega)
      have m4 := hRc1.cell (o := 4) (by omega)
      have m5 := hRc1.cell (o := 5) (by omega)
      have m6 := hRc1.cell (o := 6) (by omega)
      have m7 := hRc1.cell (o := 7) (by omega)
      have m8 := hRc1.cell (o := 8) (by omega)
      have m9 := hRc1.cell (o := 9) (by omega)
      have m10 := hRc1.cell (o := 10) (by omega)
      have zR := hRc1.frozen
      have lR := hRc1.lt
      unfold foundV
      go_wp2_with fail
      refine ⟨by kernel_rfl, ?_⟩
      go_wp2_with fail
      go_meet
      exact ⟨w.heap.size, er, q, o, rfl, hS, Got.newB L1 F1 hRc1⟩
  case rest =>
    obtain ⟨ta, er0, q0, o0, rfl, hS0, hA, hta, L1, F1⟩ := hcut
    have PL : ∀ c, PW A D c → c < w.heap.size := fun c hc => (L.pslo hc).2
    have hdlo := L.dlo
    clear c0 c1
    have e0 := L1.dk.cell (o := 5) (by omega)
    have e1 := L1.dk.cell (o := 6) (by omega)
    have e2 := L1.dk.cell (o := 7) (by omega)
    have e3 := L1.dk.cell (o := 8) (by omega)
    have e4 := L1.dk.cell (o := 9) (by omega)
    have e5 := L1.dk.cell (o := 10) (by omega)
    have e6 := L1.dk.cell (o := 11) (by omega)
    have e7 := L1.dk.cell (o := 12) (by omega)
    have e8 := L1.dk.cell (o := 13) (by omega)
    have e9 := L1.dk.cell (o := 14) (by omega)
    have e10 := L1.dk.cell (o := 15) (by omega)
    have a0 := hA.cell (o := 0) (by omega)
    have a1 := hA.cell (o := 1) (by omega)
    have a2 := hA.cell (o := 2) (by omega)
    have a3 := hA.cell (o := 3) (by omega)
    have a4 := hA.cell (o := 4) (by omega)
    have a5 := hA.cell (o := 5) (by omega)
    have a6 := hA.cell (o := 6) (by omega)
    have a7 := hA.cell (o := 7) (by omega)
    have a8 := hA.cell (o := 8) (by omega)
    have a9 := hA.cell (o := 9) (by omega)
    have a10 := hA.cell (o := 10) (by omega)
    simp only [arr11, get11] at a0 a1 a2 a3 a4 a5 a6 a7 a8 a9 a10
    have zd := L1.dk.frozen
    have hdl1 := L1.dk.lt
    have hal := hA.lt
    have k2 := frA wc A.d (.int .i64 er0) (.int .i64 q0) (.bool (okOf o0)) (.int .i64 (cpOf o0 0)) (.int .i64 (cpOf o0 1)) (.int .i64 (cpOf o0 2)) (.int .i64 (cpOf o0 3)) (.int .i64 (cpOf o0 4)) (.int .i64 (cpOf o0 5)) (.int .i64 (cpOf o0 6)) (.int .i64 (cpOf o0 7))
    have L2 := L1.ofD k2 (ans11 L1.dk (.int .i64 er0) (.int .i64 q0) (.bool (okOf o0)) (.int .i64 (cpOf o0 0)) (.int .i64 (cpOf o0 1)) (.int .i64 (cpOf o0 2)) (.int .i64 (cpOf o0 3)) (.int .i64 (cpOf o0 4)) (.int .i64 (cpOf o0 5)) (.int .i64 (cpOf o0 6)) (.int .i64 (cpOf o0 7))) rfl rfl rfl rfl L1.pt L1.sb L1.kn
    have F2 := F1.trans k2 (fun c _ e => .inr (.inr (.inl e)))
    have hA2 := hA.frame k2 (by omega)
    skip
    go_wp2_with fail
    obtain ⟨w2, hw2⟩ : ∃ w2, w2 = (((((((((((wc.setCell ⟨A.d, 5, none⟩ (.int .i64 er0)).setCell ⟨A.d, 6, none⟩ (.int .i64 q0)).setCell ⟨A.d, 7, none⟩ (.bool (okOf o0))).setCell ⟨A.d, 8, none⟩ (.int .i64 (cpOf o0 0))).setCell ⟨A.d, 9, none⟩ (.int .i64 (cpOf o0 1))).setCell ⟨A.d, 10, none⟩ (.int .i64 (cpOf o0 2))).setCell ⟨A.d, 11, none⟩ (.int .i64 (cpOf o0 3))).setCell ⟨A.d, 12, none⟩ (.int .i64 (cpOf o0 4))).setCell ⟨A.d, 13, none⟩ (.int .i64 (cpOf o0 5))).setCell ⟨A.d, 14, none⟩ (.int .i64 (cpOf o0 6))).setCell ⟨A.d, 15, none⟩ (.int .i64 (cpOf o0 7))) := ⟨_, rfl⟩
    rw [← hw2] at L2 F2 hA2 ⊢
    have hz2 := F2.size
    clear hw2 k2 zd e0 e1 e2 e3 e4 e5 e6 e7 e8 e9 e10 a0 a1 a2 a3 a4 a5 a6 a7 a8 a9 a10 hdl1 hal hA L1 F1 ZA hRc LA LB'
    have c0 := L2.dk.cell (o := 0) (by omega)
    have c1 := L2.dk.cell (o := 1) (by omega)
    simp only [dkCell, ansD] at c0 c1
    have hdl2 := L2.dk.lt
    have ZA : Law (w2.alloc (.cells #[.int .i64 0, .int .i64 0, .bool false, .int .i64 0, .int .i64 0, .int .i64 0, .int .i64 0, .int .i64 0, .int .i64 0, .int .i64 0, .int .i64 0] 43)) A (fun c => False ∨ c = w2.heap.size) (ansD D (arr11 (.int .i64 er0) (.int .i64 q0) (.bool (okOf o0)) (.int .i64 (cpOf o0 0)) (.int .i64 (cpOf o0 1)) (.int .i64 (cpOf o0 2)) (.int .i64 (cpOf o0 3)) (.int .i64 (cpOf o0 4)) (.int .i64 (cpOf o0 5)) (.int .i64 (cpOf o0 6)) (.int .i64 (cpOf o0 7)))) ns (g + 300) h n := L2.more ((Fr.refl (fun _ => False) w2).alloc (.cells #[.int .i64 0, .int .i64 0, .bool false, .int .i64 0, .int .i64 0, .int .i64 0, .int .i64 0, .int .i64 0, .int .i64 0, .int .i64 0, .int .i64 0] 43)) (fun c hc => by simp [hc])
    have hRc := Blk.z11 w2
    have LA := L2.same (Fr.refl (fun _ => False) w2).drew
    have LB' := ZA.same (Fr.refl (fun _ => False) (w2.alloc (.cells #[.int .i64 0, .int .i64 0, .bool false, .int .i64 0, .int .i64 0, .int .i64 0, .int .i64 0, .int .i64 0, .int .i64 0, .int .i64 0, .int .i64 0] 43))).drew
    go_cut [11] from 12 (fun t wx => ∃ ta er q o, t = .pointer (some ⟨ta, 0, none⟩) ∧ Sol D.pat D.sub fr er q o ∧ Got w2 A (ansD D (arr11 (.int .i64 er0) (.int .i64 q0) (.bool (okOf o0)) (.int .i64 (cpOf o0 0)) (.int .i64 (cpOf o0 1)) (.int .i64 (cpOf o0 2)) (.int .i64 (cpOf o0 3)) (.int .i64 (cpOf o0 4)) (.int .i64 (cpOf o0 5)) (.int .i64 (cpOf o0 6)) (.int .i64 (cpOf o0 7)))) ns (g + 300) (h + 1) n er q (okOf o) (cpOf o) ta wx)
    case first =>
      refine wp_region_two [0, 1, 2, 3, 4, 5, 6, 7, 8, 9] [10, 11, 12] [11, 10, 12] (by kernel_rfl) (by kernel_rfl) ?_
      simp only [pick, List.filterMap_cons, List.filterMap_nil, List.getElem?_cons_zero, List.getElem?_cons_succ]
      go_wp2_with fail
      refine ⟨?_, ?_⟩
      · go_wp2_with fail
        refine (matchM LA.me (by omega) (by omega) D.pat D.sub fr).mono ?_
        rintro v w1 ⟨⟨er, q, o, rfl, hS⟩, hM1, f1⟩
        have L1 := LA.ofM f1 hM1
        have F1 : Fr (PW A (ansD D (arr11 (.int .i64 er0) (.int .i64 q0) (.bool (okOf o0)) (.int .i64 (cpOf o0 0)) (.int .i64 (cpOf o0 1)) (.int .i64 (cpOf o0 2)) (.int .i64 (cpOf o0 3)) (.int .i64 (cpOf o0 4)) (.int .i64 (cpOf o0 5)) (.int .i64 (cpOf o0 6)) (.int .i64 (cpOf o0 7))))) w2 w1 := ((Fr.refl (PW A (ansD D (arr11 (.int .i64 er0) (.int .i64 q0) (.bool (okOf o0)) (.int .i64 (cpOf o0 0)) (.int .i64 (cpOf o0 1)) (.int .i64 (cpOf o0 2)) (.int .i64 (cpOf o0 3)) (.int .i64 (cpOf o0 4)) (.int .i64 (cpOf o0 5)) (.int .i64 (cpOf o0 6)) (.int .i64 (cpOf o0 7))))) w2).drew).trans f1 (fun c _ hc => .inr (.inl hc))
        unfold foundV
        go_wp2_with fail
        refine ⟨by kernel_rfl, ?_⟩
        go_wp2_with fail
        go_meet
        exact ⟨w1.heap.size, er, q, o, rfl, hS, Got.newA L1 F1⟩
      · go_wp2_with fail
        refine (matchM LB'.me (by omega) (by omega) D.pat D.sub fr).mono ?_
        rintro v w1 ⟨⟨er, q, o, rfl, hS⟩, hM1, f1⟩
        have L1 := LB'.ofM f1 hM1
        have F1 : Fr (PW A (ansD D (arr11 (.int .i64 er0) (.int .i64 q0) (.bool (okOf o0)) (.int .i64 (cpOf o0 0)) (.int .i64 (cpOf o0 1)) (.int .i64 (cpOf o0 2)) (.int .i64 (cpOf o0 3)) (.int .i64 (cpOf o0 4)) (.int .i64 (cpOf o0 5)) (.int .i64 (cpOf o0 6)) (.int .i64 (cpOf o0 7))))) w2 w1 := (((Fr.refl (PW A (ansD D (arr11 (.int .i64 er0) (.int .i64 q0) (.bool (okOf o0)) (.int .i64 (cpOf o0 0)) (.int .i64 (cpOf o0 1)) (.int .i64 (cpOf o0 2)) (.int .i64 (cpOf o0 3)) (.int .i64 (cpOf o0 4)) (.int .i64 (cpOf o0 5)) (.int .i64 (cpOf o0 6)) (.int .i64 (cpOf o0 7))))) w2).alloc (.cells #[.int .i64 0, .int .i64 0, .bool false, .int .i64 0, .int .i64 0, .int .i64 0, .int .i64 0, .int .i64 0, .int .i64 0, .int .i64 0, .int .i64 0] 43)).drew).trans f1 (fun c _ hc => .inr (.inl hc))
        have hRc1 := (hRc.drew).frame f1 (fun hc => Nat.lt_irrefl _ ((fun {c} (hc : A.mo c) => L2.lt (.inr (.inr (.inl hc)))) hc))
        have m0 := hRc1.cell (o := 0) (by omega)
        have m1 := hRc1.cell (o := 1) (by omega)
        have m2 := hRc1.cell (o := 2) (by omega)
        have m3 := hRc1.cell (o := 3) (by omega)
        have m4 := hRc1.cell (o := 4) (by omega)
        have m5 := hRc1.cell (o := 5) (by omega)
        have m6 := hRc1.cell (o := 6) (by omega)
        have m7 := hRc1.cell (o := 7) (by omega)
        have m8 := hRc1.cell (o := 8) (by omega)
        have m9 := hRc1.cell (o := 9) (by omega)
        have m10 := hRc1.cell (o := 10) (by omega)
        have zR := hRc1.frozen
        have lR := hRc1.lt
        unfold foundV
        go_wp2_with fail
        refine ⟨by kernel_rfl, ?_⟩
        go_wp2_with fail
        go_meet
        exact ⟨w2.heap.size, er, q, o, rfl, hS, Got.newB L1 F1 hRc1⟩
    case rest =>
      obtain ⟨tb, er, q, o, rfl, hS, hB, htb, L3, F3⟩ := hcut
      obtain ⟨rfl, rfl, rfl⟩ := hS0.det hS
      have hA3 := hA2.frame F3 (fun hc => by have := PL _ hc; omega)
      clear c0 c1 hA2 L2 ZA hRc LA LB'
      have a0 := hA3.cell (o := 0) (by omega)
      have a1 := hA3.cell (o := 1) (by omega)
      have a2 := hA3.cell (o := 2) (by omega)
      have a3 := hA3.cell (o := 3) (by omega)
      have a4 := hA3.cell (o := 4) (by omega)
      have a5 := hA3.cell (o := 5) (by omega)
      have a6 := hA3.cell (o := 6) (by omega)
      have a7 := hA3.cell (o := 7) (by omega)
      have a8 := hA3.cell (o := 8) (by omega)
      have a9 := hA3.cell (o := 9) (by omega)
      have a10 := hA3.cell (o := 10) (by omega)
      have b0 := hB.cell (o := 0) (by omega)
      have b1 := hB.cell (o := 1) (by omega)
      have b2 := hB.cell (o := 2) (by omega)
      have b3 := hB.cell (o := 3) (by omega)
      have b4 := hB.cell (o := 4) (by omega)
      have b5 := hB.cell (o := 5) (by omega)
      have b6 := hB.cell (o := 6) (by omega)
      have b7 := hB.cell (o := 7) (by omega)
      have b8 := hB.cell (o := 8) (by omega)
      have b9 := hB.cell (o := 9) (by omega)
      have b10 := hB.cell (o := 10) (by omega)
      simp only [arr11, get11] at a0 a1 a2 a3 a4 a5 a6 a7 a8 a9 a10 b0 b1 b2 b3 b4 b5 b6 b7 b8 b9 b10
      have hal := hA3.lt
      have hbl := hB.lt
      go_wp2_with fail
      refine (sameFound_any er0 q0 (okOf o0) (cpOf o0) _).mono ?_
      rintro v w4 ⟨rfl, f4⟩
      have L4 := L3.same f4
      have hA4 := hA3.frame f4 (fun h => h)
      have F4 := (F2.trans F3 (fun _ _ h => h)).trans f4 (fun _ _ h => h.elim)
      clear a0 a1 a2 a3 a4 a5 a6 a7 a8 a9 a10 b0 b1 b2 b3 b4 b5 b6 b7 b8 b9 b10 hal hbl hB
      have a0 := hA4.cell (o := 0) (by omega)
      simp only [arr11, get11] at a0
      have hal := hA4.lt
      have L4d := L4.same (Fr.refl (fun _ => False) w4).drew
      have F4d := F4.drew
      have hA4d := hA4.drew
      go_wp2_with fail
      refine wp_region_two [0, 2] [1, 3, 4, 5] [3, 1, 4, 5] (by kernel_rfl) (by kernel_rfl) ?_
      simp only [pick, List.filterMap_cons, List.filterMap_nil, List.getElem?_cons_zero, List.getElem?_cons_succ]
      go_wp2_with fail
      refine ⟨?_, ?_⟩
      all_goals
        go_wp2_with fail
        refine (L4d.again (by omega)).mono ?_
        rintro v w5 hAg
        obtain ⟨rfl, _, _, f5, D', L5, _⟩ := L4d.ag hAg
        have hA5 := hA4d.frame f5 (fun hc => by
          rcases hc with hc | hc
          · omega
          · have := PL ta (.inr (.inr (.inr hc))); omega)
        have a5 := hA5.cell (o := 0) (by omega)
        simp only [arr11, get11] at a5
        have hal5 := hA5.lt
        go_wp2_with fail
        refine ⟨by kernel_rfl, ?_⟩
        go_wp2_with fail
        refine bodyPost_ret (v := .tuple #[.bool true, .int .i64 er0]) (by simp [results, Tryz.results29, go_sem]) rfl ?_
        exact ⟨⟨_, rfl⟩, ⟨D', [], L5.le (by omega) (by omega) (by omega)⟩, F4d.trans f5 (fun _ _ h => .inr (.inr h))⟩
end Go.Proofs.Qxb6500285aGreat
