/- The law: SameCode. -/
import Derived.Test.Qxb6500285aGreatE4
import Derived.Test.Qxb6500285aGreatLA5
namespace Go.Proofs.Qxb6500285aGreat
open Go Go.RowKit

/-- A program that means f, run by the abstract machine from 0. -/
theorem runCode {w : World} {p : List In} {pb cap : Nat} (hok : OkProg p) (hp : PAt w pb p) (s : ByteArray) (f : Wf) (hf : ∀ m a : Nat, a + m ≤ s.size + 1 → runFrom p s m a = leftG f m a) :
    Calls Tryz.prog 41 #[.slice (some ⟨pb, 0, none⟩) p.length cap, .string s, .int .i64 0] w fun v w' => v = .returned (foundV (lfE s 0) 0 (okOf (lfO s 0 f)) (cpOf (lfO s 0 f))) ∧ Fr (fun _ => False) w w' := by
  unfold lfE lfO
  by_cases h1 : 256 < s.size
  · rw [if_pos h1, if_pos h1]
    exact run_long p pb cap s 0 h1
  · rw [if_neg h1, if_neg h1, if_neg (by omega), if_neg (by omega)]
    refine (run_main p pb cap hok hp s (by omega) 0 (by omega)).mono ?_
    rintro v w' ⟨rfl, k⟩
    refine ⟨?_, k⟩
    have e1 : runFrom p s (s.size + 1 - 0) 0 = runS p s 0 := rfl
    rw [show ((0 : Int).toNat) = 0 from rfl, ← hf (s.size + 1 - 0) 0 (by omega), e1]
    cases runS p s 0 <;> rfl
theorem lfE0 : lfE ⟨#[]⟩ 0 = 0 := by
  unfold lfE
  rw [if_neg (by decide), if_neg (by decide)]
theorem CodeS.sol {p : ByteArray} {er q er' q' : Int} {code : List In} {o : Option Cp} (h : CodeS p er q code) (h' : Sol p ⟨#[]⟩ 0 er' q' o) : er' = er ∧ q' = q := by
  have hz : ¬ 256 < (⟨#[]⟩ : ByteArray).size := by decide
  cases h with
  | long h1 =>
    have := h'.det (.long (.inl h1))
    exact ⟨this.1, this.2.1⟩
  | err h1 h2 h3 =>
    have := h'.det (.err h1 (by decide) h2 h3)
    exact ⟨this.1, this.2.1⟩
  | ok h1 h2 h3 h4 h5 h6 h7 =>
    have := h'.det (.ok h1 (by decide) h2 h3 h4 h5)
    rw [lfE0] at this
    exact ⟨this.1, this.2.1⟩
theorem CodeS.cases {p : ByteArray} {er q : Int} {code : List In} (h : CodeS p er q code) : (er ≠ 0 ∧ code = []) ∨ (er = 0 ∧ q = 0 ∧ OkProg code ∧ ∃ gW : ByteArray → Wf, (∀ (s : ByteArray) (m a : Nat), a + m ≤ s.size + 1 → runFrom code s m a = leftG (gW s) m a) ∧ ∀ s fr er' q' o, Sol p s fr er' q' o → er' = lfE s fr ∧ q' = 0 ∧ o = lfO s fr (gW s)) := by
  cases h with
  | long h1 => exact .inl ⟨by decide, rfl⟩
  | err h1 h2 h3 => exact .inl ⟨coreO_err h2 h3, rfl⟩
  | @ok ns y g r _ h1 h2 h3 h4 h5 h6 h7 =>
    refine .inr ⟨rfl, rfl, h6, fun s => wy s r, h7, fun s fr er' q' o hS => ?_⟩
    by_cases hs : 256 < s.size
    · have := hS.det (.long (.inr hs))
      exact ⟨by unfold lfE; rw [if_pos hs]; exact this.1, this.2.1, by unfold lfO; rw [if_pos hs]; exact this.2.2⟩
    · exact hS.det (.ok h1 (by omega) h2 h3 h4 h5)
def codeD (D : Dk) (a b : Value) : Dk := { D with lx := a, lm := b }
theorem dkCell_code (D : Dk) (a b : Value) : ∀ o, o < 23 → upd (upd (dkCell D) 16 a) 17 b o = dkCell (codeD D a b) o := by
  intro o ho
  rcases lt23 ho with rfl | rfl | rfl | rfl | rfl | rfl | rfl | rfl | rfl | rfl | rfl | rfl | rfl | rfl | rfl | rfl | rfl | rfl | rfl | rfl | rfl | rfl | rfl <;> simp [dkCell, upd, codeD]
section
variable {w w' : World} {A : Ad} {Y : Nat → Prop} {D : Dk} {ns : List In} {g h n : Nat}
theorem Law.code {pv cv : Value} {code : List In} (L : Law w A Y D ns g h n) (k : Fr (fun c => c = A.d) w w') (hd : Blk w' A.d 23 (dkCell (codeD D pv cv))) (hp : LVi w' pv code) (hc : LVi w' cv code) (hl : code.length ≤ 64) (hY : ∀ c, isBlk pv c → Y c) (hcv : ∀ c, isBlk cv c → w.heap.size ≤ c) : Law w' A (fun _ => False) (codeD D pv cv) code g h n := by
  obtain ⟨a, b, hE⟩ := L.eng
  have dl := L.lt (c := A.d) (.inl rfl)
  have hLd : ∀ c, LB D c → ¬ c = A.d := fun c hb e => by have := L.far c (.inl hb); omega
  refine ⟨⟨a, b, hE.step k (fun c hc => .inl (.inl hc)) ?_⟩, L.me.frame k (fun c hc e => by have := L.mlt hc; omega), hd, L.bx.frame k (by have := L.ord; have := L.me.ap; omega), hp, hc, hl, L.old.frame k (fun i hi c hc => hLd c (.inr (.inr ⟨i, hi, hc⟩))), ?_, ?_, fun _ h => h.elim, L.ord, L.nb, L.pt, L.sb, L.kn⟩
  · rintro c (h1 | h1 | h1 | (h1 | h1 | h1) | h1)
    · exact .inl (.inl h1)
    · exact .inl (.inr (.inl h1))
    · exact .inl (.inr (.inr (.inl h1)))
    · exact .inl (.inr (.inr (.inr (.inr (hY c h1)))))
    · exact .inr ⟨hcv c h1, hc.lt h1⟩
    · exact .inl (.inr (.inr (.inr (.inl (.inr (.inr h1))))))
    · exact h1.elim
  · rintro c ((h1 | h1 | h1) | h1)
    · exact L.far c (.inr (hY c h1))
    · have := hcv c h1; omega
    · exact L.far c (.inl (.inr (.inr h1)))
    · exact h1.elim
  · intro c h1 i hi h2
    exact L.yl c (hY c h1) (.inr (.inr ⟨i, hi, h2⟩))
end
/-- An answer in a block of its own. -/
structure GotY (w : World) (A : Ad) (Y : Nat → Prop) (D : Dk) (ns : List In) (g h n : Nat) (er q : Int) (ok : Bool) (c : Cp) (ta : Nat) (wx : World) : Prop where
  blk : Blk wx ta 11 (arr11 (.int .i64 er) (.int .i64 q) (.bool ok) (.int .i64 (c 0)) (.int .i64 (c 1)) (.int .i64 (c 2)) (.int .i64 (c 3)) (.int .i64 (c 4)) (.int .i64 (c 5)) (.int .i64 (c 6)) (.int .i64 (c 7)))
  lo : w.heap.size ≤ ta
  law : Law wx A Y D ns g h n
  fr : Fr (PW A D) w wx
section
variable {w w1 : World} {A : Ad} {Y : Nat → Prop} {D : Dk} {ns : List In} {g h n : Nat} {er q : Int} {ok : Bool} {c : Cp} {f : Nat → Value}
theorem Law.left {Z : Nat → Prop} (L : Law w A (fun c => Y c ∨ Z c) D ns g h n) : Law w A Y D ns g h n := by
  obtain ⟨a, b, hE⟩ := L.eng
  exact ⟨⟨a, b, hE.sub (fun c hc => by
    rcases hc with hc | hc | hc | hc | hc
    · exact .inl hc
    · exact .inr (.inl hc)
    · exact .inr (.inr (.inl hc))
    · exact .inr (.inr (.inr (.inl hc)))
    · exact .inr (.inr (.inr (.inr (.inl hc)))))⟩, L.me, L.dk, L.bx, L.lx, L.lm, L.hl, L.old, fun c hc => L.far c (hc.imp id .inl), L.ap, fun c h => L.yl c (.inl h), L.ord, L.nb, L.pt, L.sb, L.kn⟩
theorem GotY.newA (L1 : Law w1 A Y D ns g h n) (F1 : Fr (PW A D) w w1) : GotY w A Y D ns g h n er q ok c w1.heap.size (w1.alloc (.cells #[.int .i64 er, .int .i64 q, .bool ok, .int .i64 (c 0), .int .i64 (c 1), .int .i64 (c 2), .int .i64 (c 3), .int .i64 (c 4), .int .i64 (c 5), .int .i64 (c 6), .int .i64 (c 7)] 43)) :=
  ⟨fnd11 w1 er q ok c, F1.size, L1.same ((Fr.refl (fun _ => False) w1).alloc _), F1.alloc _⟩
theorem GotY.newB (L1 : Law w1 A (fun c => Y c ∨ c = w.heap.size) D ns g h n) (F1 : Fr (PW A D) w w1) (hR : Blk w1 w.heap.size 11 f) : GotY w A Y D ns g h n er q ok c w.heap.size (((((((((((w1.setCell ⟨w.heap.size, 0, none⟩ (.int .i64 er)).setCell ⟨w.heap.size, 1, none⟩ (.int .i64 q)).setCell ⟨w.heap.size, 2, none⟩ (.bool ok)).setCell ⟨w.heap.size, 3, none⟩ (.int .i64 (c 0))).setCell ⟨w.heap.size, 4, none⟩ (.int .i64 (c 1))).setCell ⟨w.heap.size, 5, none⟩ (.int .i64 (c 2))).setCell ⟨w.heap.size, 6, none⟩ (.int .i64 (c 3))).setCell ⟨w.heap.size, 7, none⟩ (.int .i64 (c 4))).setCell ⟨w.heap.size, 8, none⟩ (.int .i64 (c 5))).setCell ⟨w.heap.size, 9, none⟩ (.int .i64 (c 6))).setCell ⟨w.heap.size, 10, none⟩ (.int .i64 (c 7))) :=
  ⟨cells11 hR (.int .i64 er) (.int .i64 q) (.bool ok) (.int .i64 (c 0)) (.int .i64 (c 1)) (.int .i64 (c 2)) (.int .i64 (c 3)) (.int .i64 (c 4)) (.int .i64 (c 5)) (.int .i64 (c 6)) (.int .i64 (c 7)), Nat.le_refl _, (L1.wrY ((fr11 w1 w.heap.size (.int .i64 er) (.int .i64 q) (.bool ok) (.int .i64 (c 0)) (.int .i64 (c 1)) (.int .i64 (c 2)) (.int .i64 (c 3)) (.int .i64 (c 4)) (.int .i64 (c 5)) (.int .i64 (c 6)) (.int .i64 (c 7))).mono (fun _ _ e => .inr e))).left, F1.trans (fr11 w1 w.heap.size (.int .i64 er) (.int .i64 q) (.bool ok) (.int .i64 (c 0)) (.int .i64 (c 1)) (.int .i64 (c 2)) (.int .i64 (c 3)) (.int .i64 (c 4)) (.int .i64 (c 5)) (.int .i64 (c 6)) (.int .i64 (c 7))) (fun c hl e => by omega)⟩
end
set_option maxRecDepth 100000 in
set_option maxHeartbeats 16000000 in
theorem sameCode_any {w : World} {A : Ad} {D : Dk} {ns : List In} {g h n : Nat} (L : Law w A (fun _ => False) D ns g h n) (hh : h ≤ 9999999999998) (hn : n ≤ 10000000000000) :
    Calls Tryz.prog 31 #[.pointer (some ⟨A.e, 0, none⟩), .pointer (some ⟨A.m, 0, none⟩), .pointer (some ⟨A.d, 0, none⟩)] w (PPost w A D g h n) := by
  have c0 := L.dk.cell (o := 0) (by omega)
  simp only [dkCell] at c0
  have hdl := L.dk.lt
  obtain ⟨a, b, hE⟩ := L.eng
  go_enter Tryz.func31, Tryz.ntmps31
  go_wp2_with fail
  refine (codeG hE D.pat).mono ?_
  rintro v w1 ⟨er, q, pv, code, rfl, hC, hv1, hfr, n1, m1, hE1, f1⟩
  have L1 := L.ofE f1 hE1 hfr
  have F1 : Fr (PW A D) w w1 := f1.mono (fun c _ hc => .inl hc)
  have hz1 := f1.size
  have hdl1 := L1.dk.lt
  clear c0
  have c0 := L1.dk.cell (o := 0) (by omega)
  simp only [dkCell] at c0
  go_wp2_with fail
  refine (matchM L1.me (by omega) (by omega) D.pat ⟨#[]⟩ 0).mono ?_
  rintro v w2 ⟨⟨er2, q2, o, rfl, hS⟩, hM2, f2⟩
  obtain ⟨rfl, rfl⟩ := hC.sol hS
  have L2 := L1.ofM f2 hM2
  have F2 := F1.trans f2 (fun c _ hc => .inr (.inl hc))
  have hz2 := f2.size
  have hv2 := hv1.frame f2 (fun c hc hm => by have := L1.mlt hm; have := hfr c hc; omega)
  have kA := (Fr.refl (fun _ => False) w2).alloc (.cells #[.int .i64 er2, .int .i64 q2, .bool (okOf o), .int .i64 (cpOf o 0), .int .i64 (cpOf o 1), .int .i64 (cpOf o 2), .int .i64 (cpOf o 3), .int .i64 (cpOf o 4), .int .i64 (cpOf o 5), .int .i64 (cpOf o 6), .int .i64 (cpOf o 7)] 43)
  have L3 := L2.same kA
  have F3 := F2.trans kA (fun _ _ h => h.elim)
  have hv3 := hv2.frame kA (fun _ _ h => h)
  have hdl3 := L3.dk.lt
  unfold foundV
  rcases hC.cases with ⟨hne, rfl⟩ | ⟨rfl, rfl, hok, gW, hrun, hmean⟩
  · have hpv : pv = .slice none 0 0 := by
      rcases hv1 with ⟨e1, _⟩ | ⟨_, _, _, _, _, hp⟩
      · exact e1
      · simp at hp
    subst hpv
    have t1 : (er2 != 0) = true := by simpa using hne
    go_wp2_with fail
    refine (L3.again hn).mono ?_
    rintro v w4 hA
    obtain ⟨rfl, _, _, F4, D', L4, _⟩ := L3.ag hA
    go_wp2_with fail
    refine bodyPost_ret (v := .tuple #[.bool true, .int .i64 er2]) (by simp [results, Tryz.results31, go_sem]) rfl ?_
    exact ⟨⟨_, rfl⟩, ⟨D', [], (L4.drop).le (by omega) (by omega) (by omega)⟩, F3.trans F4 (fun _ _ h => .inr (.inr h))⟩
  · have hlen : code.length ≤ 64 := hok.max
    have hpos := hok.pos
    rcases hv3 with ⟨_, e0⟩ | ⟨pb, fp, rfl, hpb, hpf, _⟩
    · rw [e0] at hpos; simp at hpos
    have c1 := L3.dk.cell (o := 1) (by omega)
    simp only [dkCell] at c1
    have hP3 : PAt _ pb code := hpf.at hpb (Nat.le_refl _)
    go_wp2_with fail
    refine (progok_any code pb code.length hP3 (by omega)).mono ?_
    rintro v w4 ⟨rfl, f4⟩
    rw [progOK_of hok]
    have L4 := L3.same f4
    have F4 := F3.trans f4 (fun _ _ h => h.elim)
    have hpb4 := hpb.frame f4 (fun h => h)
    have hP4 : PAt _ pb code := hpf.at hpb4 (Nat.le_refl _)
    clear c1
    have c1 := L4.dk.cell (o := 1) (by omega)
    simp only [dkCell] at c1
    have hdl4 := L4.dk.lt
    have PL : ∀ c, PW A D c → c < w.heap.size := fun c hc => (L.pslo hc).2
    have hpw : w.heap.size ≤ pb := hfr pb ⟨_, _, rfl⟩
    go_wp2_with fail
    refine (runCode hok hP4 D.sub (gW D.sub) (hrun D.sub)).mono ?_
    rintro v w5 ⟨rfl, f5⟩
    obtain ⟨e5, he5⟩ : ∃ e5, e5 = lfE D.sub 0 := ⟨_, rfl⟩
    obtain ⟨o5, ho5⟩ : ∃ o5, o5 = lfO D.sub 0 (gW D.sub) := ⟨_, rfl⟩
    rw [← he5, ← ho5]
    have He5 : Hid _ := he5
    have Ho5 : Hid _ := ho5
    clear he5 ho5
    have hA := fnd11 w5 e5 0 (okOf o5) (cpOf o5)
    have kA5 := (Fr.refl (fun _ => False) w5).alloc (.cells #[.int .i64 e5, .int .i64 0, .bool (okOf o5), .int .i64 (cpOf o5 0), .int .i64 (cpOf o5 1), .int .i64 (cpOf o5 2), .int .i64 (cpOf o5 3), .int .i64 (cpOf o5 4), .int .i64 (cpOf o5 5), .int .i64 (cpOf o5 6), .int .i64 (cpOf o5 7)] 43)
    have k5 := f5.trans kA5 (fun _ _ h => h)
    have L6 := L4.same k5
    have F6 := F4.trans k5 (fun _ _ h => h.elim)
    have hpb6 := hpb4.frame k5 (fun h => h)
    have hw5 := (F4.trans f5 (fun _ _ h => h.elim)).size
    unfold foundV
    go_wp2_with fail
    obtain ⟨w6, hw6⟩ : ∃ w6, w6 = w5.alloc (.cells #[.int .i64 e5, .int .i64 0, .bool (okOf o5), .int .i64 (cpOf o5 0), .int .i64 (cpOf o5 1), .int .i64 (cpOf o5 2), .int .i64 (cpOf o5 3), .int .i64 (cpOf o5 4), .int .i64 (cpOf o5 5), .int .i64 (cpOf o5 6), .int .i64 (cpOf o5 7)] 43) := ⟨_, rfl⟩
    rw [← hw6] at hA L6 F6 hpb6 ⊢
    have hz6 := F6.size
    clear hw6 kA5 k5 f5 f4 F4 L4 hpb4 hP4 hpb hP3 L3 F3 kA c1 c0 L2 F2 F1 hE1 L1
    have c0 := L6.dk.cell (o := 0) (by omega)
    have c1 := L6.dk.cell (o := 1) (by omega)
    simp only [dkCell] at c0 c1
    have hdl6 := L6.dk.lt
    have hdw := L.lt (c := A.d) (.inl rfl)
    have ZA : Law (w6.alloc (.cells #[.int .i64 0, .int .i64 0, .bool false, .int .i64 0, .int .i64 0, .int .i64 0, .int .i64 0, .int .i64 0, .int .i64 0, .int .i64 0, .int .i64 0] 43)) A (fun c => (False ∨ isBlk (.slice (some ⟨pb, 0, none⟩) code.length code.length) c) ∨ c = w6.heap.size) D ns g (h + 1) n := L6.more ((Fr.refl (fun _ => False) w6).alloc (.cells #[.int .i64 0, .int .i64 0, .bool false, .int .i64 0, .int .i64 0, .int .i64 0, .int .i64 0, .int .i64 0, .int .i64 0, .int .i64 0, .int .i64 0] 43)) (fun c hc => by simp [hc])
    have hRc := Blk.z11 w6
    have LA := L6.same (Fr.refl (fun _ => False) w6).drew
    have LB' := ZA.same (Fr.refl (fun _ => False) (w6.alloc (.cells #[.int .i64 0, .int .i64 0, .bool false, .int .i64 0, .int .i64 0, .int .i64 0, .int .i64 0, .int .i64 0, .int .i64 0, .int .i64 0, .int .i64 0] 43))).drew
    go_cut [13] from 14 (fun t wx => ∃ ta er q o, t = .pointer (some ⟨ta, 0, none⟩) ∧ Sol D.pat D.sub 0 er q o ∧ GotY w6 A (fun c => False ∨ isBlk (.slice (some ⟨pb, 0, none⟩) code.length code.length) c) D ns g (h + 2) n er q (okOf o) (cpOf o) ta wx)
    case first =>
      refine wp_region_two [0, 1, 2, 3, 4, 5, 6, 7, 8] [9, 10, 11] [10, 9, 11] (by kernel_rfl) (by kernel_rfl) ?_
      simp only [pick, List.filterMap_cons, List.filterMap_nil, List.getElem?_cons_zero, List.getElem?_cons_succ]
      go_wp2_with fail
      refine ⟨?_, ?_⟩
      · go_wp2_with fail
        refine (matchM LA.me (by omega) (by omega) D.pat D.sub 0).mono ?_
        rintro v w1 ⟨⟨er, q, o, rfl, hS⟩, hM1, f1⟩
        have L1 := LA.ofM f1 hM1
        have F1 : Fr (PW A D) w6 w1 := ((Fr.refl (PW A D) w6).drew).trans f1 (fun c _ hc => .inr (.inl hc))
        unfold foundV
        go_wp2_with fail
        refine ⟨by kernel_rfl, ?_⟩
        go_wp2_with fail
        go_meet
        exact ⟨w1.heap.size, er, q, o, rfl, hS, GotY.newA L1 F1⟩
      · go_wp2_with fail
        refine (matchM LB'.me (by omega) (by omega) D.pat D.sub 0).mono ?_
        rintro v w1 ⟨⟨er, q, o, rfl, hS⟩, hM1, f1⟩
        have L1 := LB'.ofM f1 hM1
        have F1 : Fr (PW A D) w6 w1 := (((Fr.refl (PW A D) w6).alloc (.cells #[.int .i64 0, .int .i64 0, .bool false, .int .i64 0, .int .i64 0, .int .i64 0, .int .i64 0, .int .i64 0, .int .i64 0, .int .i64 0, .int .i64 0] 43)).drew).trans f1 (fun c _ hc => .inr (.inl hc))
        have hRc1 := (hRc.drew).frame f1 (fun hc => Nat.lt_irrefl _ ((fun {c} (hc : A.mo c) => L6.lt (.inr (.inr (.inl hc)))) hc))
        have m0 := hRc1.cell (o := 0) (by omega)
        have m1 := hRc1.cell (o := 1) (by omega)
        have m2 := hRc1.cell (o := 2) (by omega)
        have m3 := hRc1.cell (o := 3) (by omega)
        have m4 := hRc1.cell (o := 4) (by omega)
        have m5 := hRc1.cell (o := 5) (by omega)
        have m6 := hRc1.cell (o := 6) (by omega)
        have m7 := hRc1.cell (o := 7) (by omega)
        have m8 := hRc1.cell (o := 8) (by omega)
        have m9 := hRc1.cell (o := 9) (by omega)
        have m10 := hRc1.cell (o := 10) (by omega)
        have zR := hRc1.frozen
        have lR := hRc1.lt
        unfold foundV
        go_wp2_with fail
        refine ⟨by kernel_rfl, ?_⟩
        go_wp2_with fail
        go_meet
        exact ⟨w6.heap.size, er, q, o, rfl, hS, GotY.newB L1 F1 hRc1⟩
    case rest =>
      obtain ⟨tb, er, q, o, rfl, hS2, hB, htb, L7, F7⟩ := hcut
      obtain ⟨e7, q7, o7⟩ := hmean _ _ _ _ _ hS2
      rw [← He5.out] at e7
      rw [← Ho5.out] at o7
      subst e7 q7 o7
      have hA7 := hA.frame F7 (fun hc => by have := PL _ hc; omega)
      have hpb7 := hpb6.frame F7 (fun hc => by have := PL _ hc; omega)
      clear c0 c1 hA L6 ZA hRc LA LB' hpb6
      have a0 := hA7.cell (o := 0) (by omega)
      have a1 := hA7.cell (o := 1) (by omega)
      have a2 := hA7.cell (o := 2) (by omega)
      have a3 := hA7.cell (o := 3) (by omega)
      have a4 := hA7.cell (o := 4) (by omega)
      have a5 := hA7.cell (o := 5) (by omega)
      have a6 := hA7.cell (o := 6) (by omega)
      have a7 := hA7.cell (o := 7) (by omega)
      have a8 := hA7.cell (o := 8) (by omega)
      have a9 := hA7.cell (o := 9) (by omega)
      have a10 := hA7.cell (o := 10) (by omega)
      have b0 := hB.cell (o := 0) (by omega)
      have b1 := hB.cell (o := 1) (by omega)
      have b2 := hB.cell (o := 2) (by omega)
      have b3 := hB.cell (o := 3) (by omega)
      have b4 := hB.cell (o := 4) (by omega)
      have b5 := hB.cell (o := 5) (by omega)
      have b6 := hB.cell (o := 6) (by omega)
      have b7 := hB.cell (o := 7) (by omega)
      have b8 := hB.cell (o := 8) (by omega)
      have b9 := hB.cell (o := 9) (by omega)
      have b10 := hB.cell (o := 10) (by omega)
      simp only [arr11, get11] at a0 a1 a2 a3 a4 a5 a6 a7 a8 a9 a10 b0 b1 b2 b3 b4 b5 b6 b7 b8 b9 b10
      have hal := hA7.lt
      have hbl := hB.lt
      go_wp2_with fail
      refine (sameFound_any er 0 (okOf o) (cpOf o) _).mono ?_
      rintro v w8 ⟨rfl, f8⟩
      have L8 := L7.same f8
      have F8 := (F6.trans F7 (fun _ _ h => h)).trans f8 (fun _ _ h => h.elim)
      have hpb8 := hpb7.frame f8 (fun h => h)
      clear a0 a1 a2 a3 a4 a5 a6 a7 a8 a9 a10 b0 b1 b2 b3 b4 b5 b6 b7 b8 b9 b10 hal hbl hB hA7
      go_wp2_with fail
      refine (L8.again (by omega)).mono ?_
      rintro v w9 hAg
      obtain ⟨rfl, _, _, f9, D', L9, _⟩ := L8.ag hAg
      have F9 := F8.trans f9 (fun _ _ h => .inr (.inr h))
      have hpb9 := hpb8.frame f9 (fun hc => by have := PL pb (.inr (.inr hc)); omega)
      have d16 := L9.dk.cell (o := 16) (by omega)
      have d17 := L9.dk.cell (o := 17) (by omega)
      have zd := L9.dk.frozen
      have hdl9 := L9.dk.lt
      have hd10 := L9.dk.set 16 (.slice (some ⟨pb, 0, none⟩) code.length code.length)
      have k10 := (Fr.refl (fun c => c = A.d) w9).setC A.d 16 (.slice (some ⟨pb, 0, none⟩) code.length code.length) (fun _ => rfl)
      have hpb10 := hpb9.frame k10 (by omega)
      have hCA : CodeAt (w9.setCell ⟨A.d, 16, none⟩ (.slice (some ⟨pb, 0, none⟩) code.length code.length)) (.slice (some ⟨pb, 0, none⟩) code.length code.length) code := .inr ⟨pb, _, fp, rfl, Nat.le_refl _, hpb10, hpf⟩
      go_wp2_with fail
      refine (copyProg_any hCA (by omega)).mono ?_
      rintro v w10 ⟨rfl, f10, hs10, fc, hc10, hcf⟩
      simp only [World.size_setCell] at hc10 hs10 ⊢
      have hd11 := hd10.frame f10 (fun h => h)
      have e17 := hd11.cell (o := 17) (by omega)
      have z11 := hd11.frozen
      have hdl11 := hd11.lt
      have hd12 := (hd11.set 17 (.slice (some ⟨w9.heap.size, 0, none⟩) code.length code.length)).congr (dkCell_code D' (.slice (some ⟨pb, 0, none⟩) code.length code.length) (.slice (some ⟨w9.heap.size, 0, none⟩) code.length code.length))
      have k11 := (Fr.refl (fun c => c = A.d) w10).setC A.d 17 (.slice (some ⟨w9.heap.size, 0, none⟩) code.length code.length) (fun _ => rfl)
      have k12 := (k10.trans f10 (fun _ _ h => h.elim)).trans k11 (fun _ _ h => h)
      have hp12 := (hpb10.frame f10 (fun h => h)).frame k11 (by omega)
      have hc12 := hc10.frame k11 (by omega)
      have L12 := L9.code k12 hd12 (.inr ⟨pb, fp, rfl, hp12, hpf, hpos⟩) (.inr ⟨w9.heap.size, fc, rfl, hc12, hcf, hpos⟩) hlen (fun c hc => .inr hc) (fun c hc => by rw [isBlk_one hc]; exact Nat.le_refl _)
      go_wp2_with fail
      refine bodyPost_ret (v := .tuple #[.bool true, .int .i64 0]) (by simp [results, Tryz.results31, go_sem]) rfl ?_
      exact ⟨⟨_, rfl⟩, ⟨_, _, L12.le (by omega) (by omega) (by omega)⟩, F9.trans k12 (fun _ _ h => .inr (.inr (.inl h)))⟩
end Go.Proofs.Qxb6500285aGreat
