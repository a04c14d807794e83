/- The real machine: Run. -/
import Derived.Test.Qxb6500277aGreatVR35
import Derived.Test.Qxb6500277aGreatMake
namespace Go.Proofs.Qxb6500277aGreat
open Go Go.RowKit

def RunQ (w : World) (A : Va) (C : List Nat) (I : List Int) (fuel : Int) (cv iv : Value) (e : Ending) (w' : World) : Prop :=
  ∃ k, RunR C I (X1 C fuel) k ∧ ∃ S' st' G' nf' cv' iv' ov', e = .returned (resV 0 0 (itV C I k (X1 C fuel)).1.en (itV C I k (X1 C fuel)).1.rt ov' (itV C I k (X1 C fuel)).1.fuel) ∧
    RX w' A C I { (itV C I k (X1 C fuel)).1 with out := [] } S' st' G' nf' cv' iv' nilS ∧ Rel S' (itV C I k (X1 C fuel)).2 ∧ KiX w' ov' (itV C I k (X1 C fuel)).1.out ∧
    (∀ b, isB ov' b → w.heap.size ≤ b ∧ ¬ isB cv' b ∧ ¬ isB iv' b) ∧ Fr (VQ A cv iv) w w' ∧ (∀ b, isB cv' b → w.heap.size ≤ b ∨ isB cv b) ∧ (∀ b, isB iv' b → w.heap.size ≤ b ∨ isB iv b)
def gm (V : Vs) : Nat := if V.en = 0 then mu V + 1 else 0
/-- The run under way. -/
structure RunI (w0 w : World) (A : Va) (C : List Nat) (I : List Int) (X : Vs × MS) (cv iv cv1 iv1 : Value) (j : Nat) (S : HS) (st : Nat → Int) (G : Gx) (nf : Nat) (ov : Value) : Prop where
  rx : RX w A C I (itV C I j X).1 S st G nf cv1 iv1 ov
  rel : Rel S (itV C I j X).2
  good : ∀ i, i < j → GoodX C I (itV C I i X)
  ok : POk C I (itV C I j X).1 (itV C I j X).2
  go : (itV C I j X).1.en = 0 → (itV C I j X).1.fs ≠ [] ∧ (itV C I j X).1.fuel ≤ 9223372036854775807
  fr : Fr (VQ A cv iv) w0 w
  ob : ∀ b, isB ov b → w0.heap.size < b
  box : Blk w w0.heap.size 6 z6
  am : A.m < w0.heap.size ∧ A.h < w0.heap.size
section
variable {w w' w0 : World} {A : Va} {C C' : List Nat} {I I' : List Int} {V V' : Vs} {S S' : HS} {M M' : MS} {st st' : Nat → Int} {G : Gx} {nf : Nat} {cv iv ov cv1 iv1 : Value} {X : Vs × MS} {j : Nat} {e : Ending}
theorem RX.frame {F : Nat → Prop} (H : RX w A C I V S st G nf cv iv ov) (k : Fr F w w') (hF : ∀ b, F b → b ≠ A.m ∧ b ≠ A.h ∧ ¬ isB cv b ∧ ¬ isB iv b ∧ ¬ isB ov b) : RX w' A C I V S st G nf cv iv ov :=
  ⟨H.blk.frame k (fun h => (hF _ h).1 rfl), H.hm.frame k (fun h => (hF _ h).2.1 rfl), H.lay, H.nfe, H.code.frame k (fun b hb h => (hF b h).2.2.1 hb), H.inp.frame k (fun b hb h => (hF b h).2.2.2.1 hb), H.out.frame k (fun b hb h => (hF b h).2.2.2.2 hb), H.mh, H.cd, H.id, H.od, H.cl, H.cb, H.il, H.s48⟩
theorem MInv.ofRel {S : HS} {M : MS} (h : Rel S M) : MInv M := h.2
theorem RunI.step (H : RunI w0 w A C I X cv iv cv1 iv1 j S st G nf ov) (h0 : (itV C I j X).1.en = 0) : Calls Tryz.prog 72 #[.pointer (some ⟨A.m, 0, none⟩)] w fun e w' => e = .returned (.tuple #[]) ∧ ∃ S' st' G' nf' ov', RunI w0 w' A C I X cv iv cv1 iv1 (j + 1) S' st' G' nf' ov' ∧ gm (itV C I (j + 1) X).1 < gm (itV C I j X).1 := by
  refine (stepF H.rx H.rel H.ok (H.go h0).1 (H.go h0).2).mono ?_
  rintro e w1 ⟨rfl, S', ov', ⟨st', G', nf', h1⟩, h2, h3, h4⟩
  have hf := step_fine H.ok h0 (H.go h0).1 H.rx.cl h2.2
  have hw := H.fr.size
  refine ⟨rfl, S', st', G', nf', ov', ⟨h1, h2, ?_, hf.ok, fun he => ⟨(hf.go he).1, fuel_mu H.ok (hf.go he).2 (H.go h0).2⟩, ?_, ?_, ?_, H.am⟩, ?_⟩
  · intro i hi
    by_cases hij : i < j
    · exact H.good i hij
    · obtain rfl : i = j := by omega
      exact ⟨h0, H.ok, (H.go h0).1, (H.go h0).2⟩
  · exact H.fr.trans h3 (fun b hb h => by
      rcases h with h | h
      · exact .inl h
      · have := H.ob b h; omega)
  · intro b hb
    rcases h4 b hb with h | h
    · have := H.box.lt; omega
    · exact H.ob b h
  · refine H.box.frame h3 (fun h => ?_)
    rcases h with (h | h) | h
    · have := H.am; omega
    · have := H.am; omega
    · exact Nat.lt_irrefl _ (H.ob _ h)
  · unfold gm
    rw [if_pos h0]
    show (if (stepV C I (itV C I j X).1 (itV C I j X).2).1.en = 0 then mu (stepV C I (itV C I j X).1 (itV C I j X).2).1 + 1 else 0) < _
    split
    · rename_i he
      have := (hf.go he).2
      omega
    · omega
set_option maxRecDepth 100000 in
set_option maxHeartbeats 2000000 in
theorem runF (H : RX w A C' I' V S st G nf cv iv nilS) (hR : Rel S M) {xv yv : Value} (hx : BRd w xv C) (hy : KiAt w yv I) (hC : C.length ≤ 4096) (hI : I.length ≤ 128) (hcb : ∀ i, byteAt C i < 256)
    (hxd : ∀ b, isB xv b → ¬ VQ A cv iv b) (hyd : ∀ b, isB yv b → ¬ VQ A cv iv b) (fuel : Int) (hfu : fuel ≤ 9223372036854775807) :
    Calls Tryz.prog 48 #[.pointer (some ⟨A.m, 0, none⟩), xv, yv, .int .i64 fuel] w (RunQ w A C I fuel cv iv) := by
  have k0 := (Fr.refl (fun _ => False) w).alloc box6
  have hB := box6_blk w
  have Ha := H.same k0
  have hxa := hx.frame k0 (fun _ _ h => h)
  have hya := hy.frame k0 (fun _ _ h => h)
  have hRs := resetF Ha hR hxa hya hC hI hcb hxd hyd fuel
  have hsz : (w.alloc box6).heap.size = w.heap.size + 1 := by simp [World.size_alloc]
  obtain ⟨xa, xc, exv, hxc⟩ := hx.sl
  obtain ⟨ya, yc, eyv, hyc⟩ := hy.sl
  rw [exv, eyv] at hRs ⊢
  have hA : A.m < w.heap.size ∧ A.h < w.heap.size := ⟨H.lt, HM.lt H.hm⟩
  have hcl0 : ¬ isB cv w.heap.size := fun h => Nat.lt_irrefl _ (H.code.bk h)
  have hil0 : ¬ isB iv w.heap.size := fun h => Nat.lt_irrefl _ (H.inp.bk h)
  have HC0 : Hid _ := And.intro hcl0 hil0
  have HX : Hid _ := And.intro k0 (And.intro hB (And.intro hsz (And.intro hA (And.intro hcl0 hil0))))
  have z1 : decide ((C.length : Int) > 4096) = false := decide_eq_false (by omega)
  have z2 : decide ((4096 : Int) < C.length) = false := decide_eq_false (by omega)
  have z3 : decide ((I.length : Int) > 128) = false := decide_eq_false (by omega)
  have z4 : decide ((128 : Int) < I.length) = false := decide_eq_false (by omega)
  clear hB Ha hxa hya hx hy exv eyv H hR hxd hyd k0 hsz hcl0 hil0
  unfold box6 at hRs
  go_enter Tryz.func48, Tryz.ntmps48
  go_wp2_with fail
  refine hRs.mono ?_
  rintro v w1 ⟨rfl, S1, st1, cv1, iv1, H1, hR1, F1, hc1, hi1⟩
  clear hRs z1 z2 z3 z4
  obtain ⟨k0, hB, hsz, hA, hcl0, hil0⟩ := HX.out
  have hE := enterF H1 hR1 0 0 hfu (Nat.zero_le _) (fun f r h => by cases h) (Nat.zero_le _)
  rw [show ((0 : Nat) : Int) = 0 from rfl] at hE
  have hB1 : Blk w1 w.heap.size 6 z6 := hB.frame F1 (fun h => by
    rcases h with (h | h) | h | h
    · omega
    · omega
    · exact hcl0 h
    · exact hil0 h)
  have hlt1 := H1.lt
  have HY : Hid _ := And.intro H1 (And.intro hR1 (And.intro F1 (And.intro hc1 (And.intro hi1 hB1))))
  clear H1 hR1 F1 hc1 hi1 hB1 HX hB
  go_wp2_with fail
  refine hE.mono ?_
  rintro v w2 ⟨rfl, S2, ⟨st2, G2, nf2, H2⟩, hR2, F2⟩
  clear hE hlt1
  obtain ⟨H1, hR1, F1, hc1, hi1, hB1⟩ := HY.out
  have fine := FineV.call (I := I) (V0 := V0 fuel) (v0_ok hR1.2) rfl ⟨rfl, rfl⟩ hC (Nat.zero_le _) hR2.2
  have R0 : RunI w w2 A C I (X1 C fuel) cv iv cv1 iv1 0 S2 st2 G2 nf2 nilS := ⟨H2, hR2, fun i hi => absurd hi (Nat.not_lt_zero _), fine.ok, fun he => ⟨(fine.go he).1, fuel_mu (v0_ok (C := C) (I := I) hR1.2) (fine.go he).2 hfu⟩,
    ((k0.mono (S' := VQ A cv iv) (fun _ _ h => h.elim)).trans F1 (fun _ _ h => h)).trans F2 (fun _ _ h => .inl h), fun b hb => absurd hb (nil_noB b), hB1.frame F2 (fun h => by rcases h with h | h <;> omega), hA⟩
  have hc1' : ∀ b, isB cv1 b → w.heap.size ≤ b ∨ isB cv b := fun b hb => (hc1 b hb).imp (fun h => Nat.le_trans k0.size h) id
  have hi1' : ∀ b, isB iv1 b → w.heap.size ≤ b ∨ isB iv b := fun b hb => (hi1 b hb).imp (fun h => Nat.le_trans k0.size h) id
  have HR0 : Hid _ := R0
  have HCB : Hid (∀ b, isB cv1 b → w.heap.size < b ∨ isB cv b) := fun b hb => (hc1 b hb).imp (fun h => by have : (w.alloc box6).heap.size ≤ b := h; omega) id
  have HIB : Hid (∀ b, isB iv1 b → w.heap.size < b ∨ isB iv b) := fun b hb => (hi1 b hb).imp (fun h => by have : (w.alloc box6).heap.size ≤ b := h; omega) id
  have HC1 : Hid _ := And.intro hc1' (And.intro hi1' (And.intro hA (And.intro k0 hsz)))
  clear HY H1 hR1 F1 hc1 hi1 hB1 fine H2 hR2 F2 R0 hc1' hi1' hcl0 hil0 k0 hsz hA
  go_wp2_with fail
  go_loopg [] (gm (X1 C fuel).1) (fun g wr => ∃ j S st G nf ov, RunI w wr A C I (X1 C fuel) cv iv cv1 iv1 j S st G nf ov ∧ gm (itV C I j (X1 C fuel)).1 = g)
  case atStart => exact ⟨0, S2, st2, G2, nf2, nilS, HR0.out, rfl⟩
  case round =>
    obtain ⟨j, S3, st3, G3, nf3, ov3, R, hg⟩ := hrel
    have hg' : gm (itV C I j (X1 C fuel)).1 = gk := hg
    clear hg HR0
    have c1 := R.rx.r_en
    have hlt := R.rx.lt
    by_cases h0 : (itV C I j (X1 C fuel)).1.en = 0
    · rw [h0] at c1
      have hS := R.step h0
      rw [hg'] at hS
      clear R h0 hg'
      go_wp2_with fail
      refine hS.mono ?_
      rintro v w5 ⟨rfl, S4, st4, G4, nf4, ov4, R4, hlt4⟩
      clear hS c1 hlt
      go_wp2_with fail
      go_roundg (gm (itV C I (j + 1) (X1 C fuel)).1)
      case measure => exact hlt4
      case rel => exact ⟨j + 1, S4, st4, G4, nf4, ov4, R4, rfl⟩
    · have HRR : Hid (RunR C I (X1 C fuel) j) := ⟨R.good, R.ok, h0⟩
      have HR : Hid _ := R
      clear hg'
      obtain ⟨Y, hY⟩ : ∃ Y, Y = itV C I j (X1 C fuel) := ⟨_, rfl⟩
      have HYe : Hid _ := hY
      rw [← hY] at c1 h0
      have y1 : ((Y.1.en) == 0) = false := by simpa using h0
      have c2 := R.rx.r_ov
      have c3 := R.rx.r_rt
      have c4 := R.rx.r_fuel
      rw [← hY] at c3 c4
      have hz := R.rx.blk.frozen
      obtain ⟨oa, oc, eov, hoc⟩ := R.rx.out.sl
      rw [← hY] at eov hoc
      have hou := R.ok.ou
      rw [← hY] at hou
      have HO : Hid _ := R.rx.out
      clear R hY h0
      have Heov : Hid (ov3 = .slice oa Y.1.out.length oc) := eov
      by_cases ho : Y.1.out.length = 0
      · have HQ : Hid _ := And.intro (show RX wr A C I Y.1 S3 st3 G3 nf3 cv1 iv1 ov3 by rw [HYe.out]; exact HR.out.rx) (And.intro (show Rel S3 Y.2 by rw [HYe.out]; exact HR.out.rel) (And.intro HR.out.box (And.intro HR.out.fr (And.intro (show KiX wr nilS Y.1.out from .inl ⟨rfl, List.eq_nil_of_length_eq_zero ho⟩) (fun b (hb : isB nilS b) => (absurd hb (nil_noB b) : w.heap.size < b ∧ ¬ isB cv1 b ∧ ¬ isB iv1 b))))))
        rw [eov, ho] at c2
        clear eov hoc HO HR
        have Ho : Hid _ := ho
        clear ho
        go_wp2_with fail
        refine wp_region_text (by kernel_rfl) (by kernel_rfl) ?_
        go_wp2_with fail
        refine ⟨by kernel_rfl, ?_⟩
        generalize hwn : World.drew _ = wn
        have kn : Fr (fun _ => False) wr wn := by rw [← hwn]; exact ((Fr.refl (fun _ => False) wr).alloc _).drew
        have Bn : Blk wn wr.heap.size 6 (c6 (.int .i64 0) (.int .i64 0) (.int .i64 Y.1.en) (.int .i64 Y.1.rt) nilS (.int .i64 Y.1.fuel)) := by
          rw [← hwn]
          exact (Blk.new wr #[.int .i64 0, .int .i64 0, .int .i64 Y.1.en, .int .i64 Y.1.rt, nilS, .int .i64 Y.1.fuel] 39 (c6 (.int .i64 0) (.int .i64 0) (.int .i64 Y.1.en) (.int .i64 Y.1.rt) nilS (.int .i64 Y.1.fuel)) (fun o ho => by
            rcases lt6 (show o < 6 from ho) with rfl | rfl | rfl | rfl | rfl | rfl <;> rfl)).drew
        clear hwn c1 c2 c3 c4 hz hlt
        obtain ⟨hrx, hrel, hbx, hfr, hki, hob⟩ := HQ.out
        have Hn := hrx.same kn
        have Bo := hbx.frame kn (fun h => h)
        have hkn := hki.frame kn (fun _ _ h => h)
        have m60 := Hn.r_ov
        rw [Heov.out] at m60
        have n0 := Bn.cell (o := 0) (by omega)
        have n1 := Bn.cell (o := 1) (by omega)
        have n2 := Bn.cell (o := 2) (by omega)
        have n3 := Bn.cell (o := 3) (by omega)
        have n4 := Bn.cell (o := 4) (by omega)
        have n5 := Bn.cell (o := 5) (by omega)
        simp only [c6] at n0 n1 n2 n3 n4 n5
        have o0 := Bo.cell (o := 0) (by omega)
        have o1 := Bo.cell (o := 1) (by omega)
        have o2 := Bo.cell (o := 2) (by omega)
        have o3 := Bo.cell (o := 3) (by omega)
        have o4 := Bo.cell (o := 4) (by omega)
        have o5 := Bo.cell (o := 5) (by omega)
        simp only [z6] at o0 o1 o2 o3 o4 o5
        have hzA := Hn.blk.frozen
        have hzB := Bo.frozen
        have hzN := Bn.frozen
        have ltA := Hn.lt
        have ltB := Bo.lt
        have ltN := Bn.lt
        have hA := HC1.out.2.2.1
        have lt1 := hfr.size
        have ltbx := hbx.lt
        have ne1 : A.m ≠ wr.heap.size := by omega
        have ne2 : A.m ≠ w.heap.size := by omega
        have ne3 : w.heap.size ≠ wr.heap.size := by omega
        have K1 := (Hn.outp (Fr.refl (isB ov3) wn) (v' := nilS) (o := []) (.inl ⟨rfl, rfl⟩) (fun b hb => absurd hb (nil_noB b)))
        have B1 := Bo.setOther ⟨A.m, 60, none⟩ nilS (fun h => ne2 h.symm)
        have B2 := B1.set6v (.int .i64 0) (.int .i64 0) (.int .i64 Y.1.en) (.int .i64 Y.1.rt) nilS (.int .i64 Y.1.fuel)
        have F2 := (Fr.refl (fun b => b = w.heap.size) (wn.setCell ⟨A.m, 60, none⟩ nilS)).set6v (b := w.heap.size) (fun _ => rfl) (.int .i64 0) (.int .i64 0) (.int .i64 Y.1.en) (.int .i64 Y.1.rt) nilS (.int .i64 Y.1.fuel)
        have F1 := (Fr.refl (fun b => b = A.m) wn).setC A.m 60 nilS (fun _ => rfl)
        have hcn : ∀ b, isB cv1 b → b ≠ w.heap.size := fun b hb e => by
          rcases HCB.out b hb with h | h
          · omega
          · exact HC0.out.1 (e ▸ h)
        have hin : ∀ b, isB iv1 b → b ≠ w.heap.size := fun b hb e => by
          rcases HIB.out b hb with h | h
          · omega
          · exact HC0.out.2 (e ▸ h)
        have K2 := K1.frame F2 (fun b hb => by
          subst hb
          exact ⟨by omega, by omega, fun h => hcn _ h rfl, fun h => hin _ h rfl, nil_noB _⟩)
        have hk2 := (hkn.frame F1 (fun b hb e => by have := (hob b hb).1; omega)).frame F2 (fun b hb e => by have := (hob b hb).1; omega)
        have FA : Fr (VQ A cv iv) w _ := ((hfr.trans kn (fun _ _ h => h.elim)).trans F1 (fun b _ h => .inl (.inl h))).trans F2 (fun b hb h => by omega)
        have HF : Hid _ := And.intro K2 (And.intro hrel (And.intro hk2 (And.intro hob (And.intro FA B2))))
        clear K1 B1 B2 F2 F1 K2 hk2 FA hrx hrel hbx hfr hki hob Hn Bo Bn hkn kn hcn hin hA lt1 ltbx
        unfold set6v at HF
        go_wp2_with fail
        obtain ⟨K2, hrel, hk2, hob, FA, B2⟩ := HF.out
        have q0 := B2.cell (o := 0) (by omega)
        have q1 := B2.cell (o := 1) (by omega)
        have q2 := B2.cell (o := 2) (by omega)
        have q3 := B2.cell (o := 3) (by omega)
        have q4 := B2.cell (o := 4) (by omega)
        have q5 := B2.cell (o := 5) (by omega)
        simp only [c6] at q0 q1 q2 q3 q4 q5
        refine bodyPost_ret (v := resV 0 0 Y.1.en Y.1.rt nilS Y.1.fuel) (by simp [results, Tryz.results48, go_sem, resV, q0, q1, q2, q3, q4, q5]) rfl ?_
        refine ⟨j, HRR.out, S3, st3, G3, nf3, cv1, iv1, nilS, ?_, ?_, ?_, ?_, fun b hb => ⟨by have := (hob b hb).1; omega, (hob b hb).2⟩, FA, HC1.out.1, HC1.out.2.1⟩
        · rw [← HYe.out]
        · rw [← HYe.out]; exact K2
        · rw [← HYe.out]; exact hrel
        · rw [← HYe.out]; exact hk2
      · obtain ⟨ob, ocap, fo, eo2, hcap, hBo, hfo⟩ : ∃ ob ocap fo, ov3 = .slice (some ⟨ob, 0, none⟩) Y.1.out.length ocap ∧ Y.1.out.length ≤ ocap ∧ Blk wr ob ocap fo ∧ ∀ i (h : i < Y.1.out.length), fo i = .int .i64 Y.1.out[i] := by
          have := HO.out
          rw [← HYe.out] at this
          rcases this with ⟨_, h⟩ | ⟨b, cap, f, h1, h2, h3, h4⟩
          · rw [h] at ho; exact absurd rfl ho
          · exact ⟨b, cap, f, h1, h2, h3, h4⟩
        have hob1 := HR.out.ob ob ⟨_, _, eo2⟩
        have hoA := (HR.out.rx.od ob ⟨_, _, eo2⟩)
        have hRX : RX wr A C I Y.1 S3 st3 G3 nf3 cv1 iv1 ov3 := by rw [HYe.out]; exact HR.out.rx
        have hRL : Rel S3 Y.2 := by rw [HYe.out]; exact HR.out.rel
        rw [eo2] at c2
        have y2 : decide ((Y.1.out.length : Int) > 0) = true := decide_eq_true (by omega)
        have y3 : decide ((0 : Int) < Y.1.out.length) = true := decide_eq_true (by omega)
        have hfo1 : ∀ j, j < Y.1.out.length * 1 → (fo (0 + j)).oneCell' = true := fun j hj => by rw [Nat.zero_add, hfo j (by omega)]; rfl
        have hobl := hBo.lt
        have HB0 : Hid _ := And.intro hRX (And.intro hRL (And.intro HR.out.box (And.intro HR.out.fr (And.intro hBo (And.intro hfo (And.intro hcap eo2))))))
        clear eov hoc HO HR hRX hRL hBo eo2
        obtain ⟨nb, hnb⟩ : ∃ nb, nb = wr.heap.size := ⟨_, rfl⟩
        have Hnb : Hid _ := hnb
        have HNB : Hid (nb ≠ A.m ∧ nb ≠ A.h ∧ ¬ isB cv1 nb ∧ ¬ isB iv1 nb ∧ ¬ isB ov3 nb) := by
          have h := HB0.out.1
          refine ⟨?_, ?_, fun g => ?_, fun g => ?_, fun g => ?_⟩
          · have := h.lt; omega
          · have := HM.lt h.hm; omega
          · have := h.code.bk g; omega
          · have := h.inp.bk g; omega
          · have := h.out.bk g; omega
        have hnbo : ob ≠ nb := by omega
        clear hnb
        go_upto_region 13 with (first
          | (refine wpList_makeB (w := wr) (by rfl) 36 _ _ (by rfl) 3 1 8 (.int .i64 0) Y.1.out.length (by rfl) (by rfl) Tryz.underlying36 (by kernel_rfl) (by kernel_rfl) (by kernel_rfl) (by omega) (by omega) ?_
             intro w4 F4 s4 B4
             have R4 := HB0.out.1.same F4
             have d2 := R4.r_ov
             rw [HB0.out.2.2.2.2.2.2.2] at d2
             have d3 := R4.r_en
             have d4 := R4.r_rt
             have d5 := R4.r_fuel
             have dl := R4.lt
             have hBo4 := HB0.out.2.2.2.2.1.frame F4 (fun h => h)
             rw [← Hnb.out] at B4 ⊢
             have HB4 : Hid _ := And.intro F4 (And.intro B4 R4)
             clear c1 c2 c3 c4 hz hlt F4 R4)
          | (refine wpList_copyA (w := w4) (by rfl) _ _ 36 36 (by rfl) 3 1 nb 0 Y.1.out.length Y.1.out.length ob 0 Y.1.out.length ocap (Y.1.out.length * 1) ocap Y.1.out.length _ fo (by rfl) (by rfl) Tryz.underlying36 (by kernel_rfl) (Nat.min_self _).symm B4 hBo4 (by omega) (by omega) hfo1 ?_
             intro w5 F5 B5
             have HB5 : Hid _ := And.intro F5 B5
             have R5 := HB4.out.2.2.frame F5 (fun b hb => by subst hb; exact HNB.out)
             have d2 := R5.r_ov
             have c1 := R5.r_en
             have c3 := R5.r_rt
             have c4 := R5.r_fuel
             have hlt := R5.lt
             have hz := R5.blk.frozen
             have HR5 : Hid _ := R5
             clear F5 B5 R5))
        have hki : KiX w5 (.slice (some ⟨nb, 0, none⟩) Y.1.out.length Y.1.out.length) Y.1.out := by
          have hb5 := HB5.out.2
          rw [Nat.mul_one] at hb5
          refine .inr ⟨nb, _, fun h => ho (by rw [h]; rfl), rfl, hb5, fun i hi => ?_⟩
          rw [lay_in _ _ _ _ (by omega) (by rw [rowOf_length]; omega)]
          have := rowOf_get fo 0 (Y.1.out.length) i hi
          rw [Nat.zero_add, hfo i hi] at this
          simp only [Nat.sub_zero]
          obtain ⟨_, h2⟩ := List.getElem?_eq_some_iff.1 this
          exact h2
        have hsz5 := HB5.out.1.size
        have hsz4 := HB4.out.1.size
        have HQ : Hid _ := And.intro HR5.out (And.intro HB0.out.2.1 (And.intro (show Blk w5 w.heap.size 6 z6 from (HB0.out.2.2.1.frame HB4.out.1 (fun h => h)).frame HB5.out.1 (fun h => by have := HB0.out.2.2.1.lt; have := Hnb.out; omega)) (And.intro (show Fr (VQ A cv iv) w w5 from (HB0.out.2.2.2.1.trans HB4.out.1 (fun _ _ h => h.elim)).trans HB5.out.1 (fun b hb h => by have := HB0.out.2.2.2.1.size; have := Hnb.out; omega)) (And.intro hki (fun b (hb : isB (.slice (some ⟨nb, 0, none⟩) Y.1.out.length Y.1.out.length) b) => (show w.heap.size < b ∧ ¬ isB cv1 b ∧ ¬ isB iv1 b by rw [isB_one hb]; exact ⟨by have := HB0.out.2.2.1.lt; have := Hnb.out; omega, HNB.out.2.2.1, HNB.out.2.2.2.1⟩))))))
        have c2 := HR5.out.r_ov
        clear hki HB0 hfo hfo1 d2 ho
        go_wp2_with fail
        refine wp_region_text (by kernel_rfl) (by kernel_rfl) ?_
        go_wp2_with fail
        refine ⟨by kernel_rfl, ?_⟩
        generalize hwn : World.drew _ = wn
        have kn : Fr (fun _ => False) w5 wn := by rw [← hwn]; exact ((Fr.refl (fun _ => False) w5).alloc _).drew
        have Bn : Blk wn w5.heap.size 6 (c6 (.int .i64 0) (.int .i64 0) (.int .i64 Y.1.en) (.int .i64 Y.1.rt) (.slice (some ⟨nb, 0, none⟩) Y.1.out.length Y.1.out.length) (.int .i64 Y.1.fuel)) := by
          rw [← hwn]
          exact (Blk.new w5 #[.int .i64 0, .int .i64 0, .int .i64 Y.1.en, .int .i64 Y.1.rt, .slice (some ⟨nb, 0, none⟩) Y.1.out.length Y.1.out.length, .int .i64 Y.1.fuel] 39 (c6 (.int .i64 0) (.int .i64 0) (.int .i64 Y.1.en) (.int .i64 Y.1.rt) (.slice (some ⟨nb, 0, none⟩) Y.1.out.length Y.1.out.length) (.int .i64 Y.1.fuel)) (fun o ho => by
            rcases lt6 (show o < 6 from ho) with rfl | rfl | rfl | rfl | rfl | rfl <;> rfl)).drew
        clear hwn c1 c2 c3 c4 hz hlt
        obtain ⟨hrx, hrel, hbx, hfr, hki, hob⟩ := HQ.out
        have Hn := hrx.same kn
        have Bo := hbx.frame kn (fun h => h)
        have hkn := hki.frame kn (fun _ _ h => h)
        have m60 := Hn.r_ov
        rw [Heov.out] at m60
        have n0 := Bn.cell (o := 0) (by omega)
        have n1 := Bn.cell (o := 1) (by omega)
        have n2 := Bn.cell (o := 2) (by omega)
        have n3 := Bn.cell (o := 3) (by omega)
        have n4 := Bn.cell (o := 4) (by omega)
        have n5 := Bn.cell (o := 5) (by omega)
        simp only [c6] at n0 n1 n2 n3 n4 n5
        have o0 := Bo.cell (o := 0) (by omega)
        have o1 := Bo.cell (o := 1) (by omega)
        have o2 := Bo.cell (o := 2) (by omega)
        have o3 := Bo.cell (o := 3) (by omega)
        have o4 := Bo.cell (o := 4) (by omega)
        have o5 := Bo.cell (o := 5) (by omega)
        simp only [z6] at o0 o1 o2 o3 o4 o5
        have hzA := Hn.blk.frozen
        have hzB := Bo.frozen
        have hzN := Bn.frozen
        have ltA := Hn.lt
        have ltB := Bo.lt
        have ltN := Bn.lt
        have hA := HC1.out.2.2.1
        have lt1 := hfr.size
        have ltbx := hbx.lt
        have ne1 : A.m ≠ w5.heap.size := by omega
        have ne2 : A.m ≠ w.heap.size := by omega
        have ne3 : w.heap.size ≠ w5.heap.size := by omega
        have K1 := (Hn.outp (Fr.refl (isB ov3) wn) (v' := nilS) (o := []) (.inl ⟨rfl, rfl⟩) (fun b hb => absurd hb (nil_noB b)))
        have B1 := Bo.setOther ⟨A.m, 60, none⟩ nilS (fun h => ne2 h.symm)
        have B2 := B1.set6v (.int .i64 0) (.int .i64 0) (.int .i64 Y.1.en) (.int .i64 Y.1.rt) (.slice (some ⟨nb, 0, none⟩) Y.1.out.length Y.1.out.length) (.int .i64 Y.1.fuel)
        have F2 := (Fr.refl (fun b => b = w.heap.size) (wn.setCell ⟨A.m, 60, none⟩ nilS)).set6v (b := w.heap.size) (fun _ => rfl) (.int .i64 0) (.int .i64 0) (.int .i64 Y.1.en) (.int .i64 Y.1.rt) (.slice (some ⟨nb, 0, none⟩) Y.1.out.length Y.1.out.length) (.int .i64 Y.1.fuel)
        have F1 := (Fr.refl (fun b => b = A.m) wn).setC A.m 60 nilS (fun _ => rfl)
        have hcn : ∀ b, isB cv1 b → b ≠ w.heap.size := fun b hb e => by
          rcases HCB.out b hb with h | h
          · omega
          · exact HC0.out.1 (e ▸ h)
        have hin : ∀ b, isB iv1 b → b ≠ w.heap.size := fun b hb e => by
          rcases HIB.out b hb with h | h
          · omega
          · exact HC0.out.2 (e ▸ h)
        have K2 := K1.frame F2 (fun b hb => by
          subst hb
          exact ⟨by omega, by omega, fun h => hcn _ h rfl, fun h => hin _ h rfl, nil_noB _⟩)
        have hk2 := (hkn.frame F1 (fun b hb e => by have := (hob b hb).1; omega)).frame F2 (fun b hb e => by have := (hob b hb).1; omega)
        have FA : Fr (VQ A cv iv) w _ := ((hfr.trans kn (fun _ _ h => h.elim)).trans F1 (fun b _ h => .inl (.inl h))).trans F2 (fun b hb h => by omega)
        have HF : Hid _ := And.intro K2 (And.intro hrel (And.intro hk2 (And.intro hob (And.intro FA B2))))
        clear K1 B1 B2 F2 F1 K2 hk2 FA hrx hrel hbx hfr hki hob Hn Bo Bn hkn kn hcn hin hA lt1 ltbx
        unfold set6v at HF
        go_wp2_with fail
        obtain ⟨K2, hrel, hk2, hob, FA, B2⟩ := HF.out
        have q0 := B2.cell (o := 0) (by omega)
        have q1 := B2.cell (o := 1) (by omega)
        have q2 := B2.cell (o := 2) (by omega)
        have q3 := B2.cell (o := 3) (by omega)
        have q4 := B2.cell (o := 4) (by omega)
        have q5 := B2.cell (o := 5) (by omega)
        simp only [c6] at q0 q1 q2 q3 q4 q5
        refine bodyPost_ret (v := resV 0 0 Y.1.en Y.1.rt (.slice (some ⟨nb, 0, none⟩) Y.1.out.length Y.1.out.length) Y.1.fuel) (by simp [results, Tryz.results48, go_sem, resV, q0, q1, q2, q3, q4, q5]) rfl ?_
        refine ⟨j, HRR.out, S3, st3, G3, nf3, cv1, iv1, .slice (some ⟨nb, 0, none⟩) Y.1.out.length Y.1.out.length, ?_, ?_, ?_, ?_, fun b hb => ⟨by have := (hob b hb).1; omega, (hob b hb).2⟩, FA, HC1.out.1, HC1.out.2.1⟩
        · rw [← HYe.out]
        · rw [← HYe.out]; exact K2
        · rw [← HYe.out]; exact hrel
        · rw [← HYe.out]; exact hk2
end
end Go.Proofs.Qxb6500277aGreat
