/- The real machine: reset. -/
import Derived.Test.Qxb6500277aGreatVR33
import Derived.Test.Qxb6500277aGreatVA1
namespace Go.Proofs.Qxb6500277aGreat
open Go Go.RowKit

/-- The machine ahead of its first call. -/
def V0 (fuel : Int) : Vs := ⟨[], 0, fuel, 0, [], 0, 0, 0, 0⟩
abbrev nilS : Value := .slice none 0 0
section
variable {w w' w0 : World} {A : Va} {C C' : List Nat} {I I' : List Int} {V V' : Vs} {S S' : HS} {M M' : MS} {st st' : Nat → Int} {G : Gx} {nf : Nat} {cv iv ov : Value}
theorem RX.codep (H : RX w A C I V S st G nf cv iv ov) {v' : Value} (k : Fr (isB cv) w w') (hc : BAt w' v' C') (hb : ∀ b, isB v' b → w.heap.size ≤ b ∨ isB cv b) (hl : C'.length ≤ 4096) (hcb : ∀ i, byteAt C' i < 256) : RX (w'.setCell ⟨A.m, 56, none⟩ v') A C' I V S st G nf v' iv ov := by
  have hnm : ¬ isB cv A.m := fun h => (H.cd _ h).1 rfl
  have hnh : ¬ isB cv A.h := fun h => (H.cd _ h).2.1 rfl
  have kA := (Fr.refl (fun b => b = A.m) w').setC A.m 56 v' (fun _ => rfl)
  have hv : ∀ b, isB v' b → b ≠ A.m ∧ b ≠ A.h ∧ ¬ isB iv b ∧ ¬ isB ov b := fun b h => by
    rcases hb b h with g | g
    · exact ⟨by have := H.lt; omega, by have := HM.lt H.hm; omega, fun q => by have := H.inp.bk q; omega, fun q => by have := H.out.bk q; omega⟩
    · exact H.cd b g
  exact ⟨((H.blk.frame k hnm).set 56 v').congr (vC_cv v'), (H.hm.frame k hnh).frame kA (fun e => H.mh e.symm), H.lay, H.nfe, hc.frame kA (fun b h e => (hv b h).1 e), (H.inp.frame k (fun b h g => (H.cd b g).2.2.1 h)).frame kA (fun b h e => (H.id b h).1 e), (H.out.frame k (fun b h g => (H.cd b g).2.2.2 h)).frame kA (fun b h e => (H.od b h).1 e), H.mh, hv, H.id, H.od, hl, hcb, H.il, H.s48⟩
theorem RX.inpp (H : RX w A C I V S st G nf cv iv ov) {v' : Value} (k : Fr (isB iv) w w') (hc : KiAt w' v' I') (hb : ∀ b, isB v' b → w.heap.size ≤ b ∨ isB iv b) (hl : I'.length ≤ 128) : RX (w'.setCell ⟨A.m, 57, none⟩ v') A C I' V S st G nf cv v' ov := by
  have hnm : ¬ isB iv A.m := fun h => (H.id _ h).1 rfl
  have hnh : ¬ isB iv A.h := fun h => (H.id _ h).2.1 rfl
  have kA := (Fr.refl (fun b => b = A.m) w').setC A.m 57 v' (fun _ => rfl)
  have hv : ∀ b, isB v' b → b ≠ A.m ∧ b ≠ A.h ∧ ¬ isB cv b ∧ ¬ isB ov b := fun b h => by
    rcases hb b h with g | g
    · exact ⟨by have := H.lt; omega, by have := HM.lt H.hm; omega, fun q => by have := H.code.bk q; omega, fun q => by have := H.out.bk q; omega⟩
    · exact ⟨(H.id b g).1, (H.id b g).2.1, fun q => (H.cd b q).2.2.1 g, (H.id b g).2.2⟩
  exact ⟨((H.blk.frame k hnm).set 57 v').congr (vC_iv v'), (H.hm.frame k hnh).frame kA (fun e => H.mh e.symm), H.lay, H.nfe, (H.code.frame k (fun b h g => (H.cd b h).2.2.1 g)).frame kA (fun b h e => (H.cd b h).1 e), hc.frame kA (fun b h e => (hv b h).1 e), (H.out.frame k (fun b h g => (H.id b g).2.2 h)).frame kA (fun b h e => (H.od b h).1 e), H.mh, fun b h => ⟨(H.cd b h).1, (H.cd b h).2.1, fun q => (hv b q).2.2.1 h, (H.cd b h).2.2.2⟩, fun b h => ⟨(hv b h).1, (hv b h).2.1, (hv b h).2.2.2⟩, H.od, H.cl, H.cb, hl, H.s48⟩
theorem RX.fresh (H : RX w A C I V S st G nf cv iv ov) (k : Fr (fun b => b = A.m) w w') {fuel : Int} (b : Blk w' A.m 65 (vC A st ⟨0, 0, 0, 0, 0⟩ 0 (V0 fuel) cv iv nilS)) : RX w' A C I (V0 fuel) S st ⟨0, 0, 0, 0, 0⟩ 0 cv iv nilS :=
  ⟨b, H.hm.frame k (fun e => H.mh e.symm), rfl, rfl, H.code.frame k (fun b hb e => (H.cd b hb).1 e), H.inp.frame k (fun b hb e => (H.id b hb).1 e), .inl ⟨rfl, rfl⟩, H.mh, fun b h => ⟨(H.cd b h).1, (H.cd b h).2.1, (H.cd b h).2.2.1, nil_noB b⟩, fun b h => ⟨(H.id b h).1, (H.id b h).2.1, nil_noB b⟩, fun b h => absurd h (nil_noB b), H.cl, H.cb, H.il, Nat.zero_le _⟩
theorem vC_fresh {fuel : Int} (o : Nat) (ho : o < 65) : upd (upd (upd (upd (upd (upd (upd (upd (upd (upd (upd (upd (upd (upd (vC A st G nf V cv iv ov) 49 (.int .i64 0)) 50 (.int .i64 0)) 51 (.int .i64 0)) 52 (.int .i64 0)) 53 (.int .i64 0)) 54 (.int .i64 0)) 55 (.int .i64 0)) 58 (.int .i64 0)) 59 (.int .i64 fuel)) 60 (nilS)) 61 (.int .i64 0)) 62 (.int .i64 0)) 63 (.int .i64 0)) 64 (.int .i64 0) o = vC A st ⟨0, 0, 0, 0, 0⟩ 0 (V0 fuel) cv iv nilS o := by
  by_cases h : o < 49
  · unfold upd vC
    by_cases h0 : o = 0
    · subst h0; rfl
    · repeat rw [if_neg (by omega)]
      rw [if_pos h]
      repeat rw [if_neg (by omega)]
      rw [if_pos h]
  · have : o = 49 ∨ o = 50 ∨ o = 51 ∨ o = 52 ∨ o = 53 ∨ o = 54 ∨ o = 55 ∨ o = 56 ∨ o = 57 ∨ o = 58 ∨ o = 59 ∨ o = 60 ∨ o = 61 ∨ o = 62 ∨ o = 63 ∨ o = 64 := by omega
    rcases this with rfl | rfl | rfl | rfl | rfl | rfl | rfl | rfl | rfl | rfl | rfl | rfl | rfl | rfl | rfl | rfl <;> rfl
/-- What reset may write. -/
def VQ (A : Va) (cv iv : Value) (b : Nat) : Prop := VS A b ∨ isB cv b ∨ isB iv b
theorem pop_all (hR : Rel S M) : Rel (popN S (S.top : Nat)).2 ⟨[], []⟩ := by
  have h := (hR.pop (S.top : Nat)).2
  have hL := hR.len
  have e : popM M (S.top : Nat) = (0, ⟨[], []⟩) := by
    unfold popM
    rw [if_neg (by omega), if_pos (by omega)]
  rw [e] at h
  exact h
theorem BAt.cut {v : Value} (h : BAt w v C) : ∃ a n c, v = .slice a n c ∧ BAt w (.slice a 0 c) [] ∧ (∀ b, isB (.slice a 0 c) b ↔ isB v b) := by
  rcases h with ⟨rfl, rfl⟩ | ⟨b, cap, f, rfl, h1, h2, h3⟩
  · exact ⟨none, 0, 0, rfl, .inl ⟨rfl, rfl⟩, fun b => Iff.rfl⟩
  · exact ⟨_, _, _, rfl, .inr ⟨b, cap, f, rfl, Nat.zero_le _, h2, fun i hi => by cases hi⟩, fun x => ⟨fun hx => by rw [isB_one hx]; exact ⟨_, _, rfl⟩, fun hx => by rw [isB_one hx]; exact ⟨_, _, rfl⟩⟩⟩
theorem KiAt.cut {v : Value} (h : KiAt w v I) : ∃ a n c, v = .slice a n c ∧ KiAt w (.slice a 0 c) [] ∧ (∀ b, isB (.slice a 0 c) b ↔ isB v b) := by
  rcases h with ⟨rfl, rfl⟩ | ⟨b, cap, f, rfl, h1, h2, h3⟩
  · exact ⟨none, 0, 0, rfl, .inl ⟨rfl, rfl⟩, fun b => Iff.rfl⟩
  · exact ⟨_, _, _, rfl, .inr ⟨b, cap, f, rfl, Nat.zero_le _, h2, fun i hi => by cases hi⟩, fun x => ⟨fun hx => by rw [isB_one hx]; exact ⟨_, _, rfl⟩, fun hx => by rw [isB_one hx]; exact ⟨_, _, rfl⟩⟩⟩
def RsR (w : World) (A : Va) (C : List Nat) (I : List Int) (fuel : Int) (cv iv : Value) (e : Ending) (w' : World) : Prop :=
  e = .returned (.tuple #[]) ∧ ∃ S' st cv' iv', RX w' A C I (V0 fuel) S' st ⟨0, 0, 0, 0, 0⟩ 0 cv' iv' nilS ∧ Rel S' ⟨[], []⟩ ∧ Fr (VQ A cv iv) w w' ∧ (∀ b, isB cv' b → w.heap.size ≤ b ∨ isB cv b) ∧ (∀ b, isB iv' b → w.heap.size ≤ b ∨ isB iv b)
set_option maxRecDepth 100000 in
set_option maxHeartbeats 1000000 in
theorem resetF (H : RX w A C' I' V S st G nf cv iv ov) (hR : Rel S M) {xv yv : Value} (hx : BRd w xv C) (hy : KiAt w yv I) (hC : C.length ≤ 4096) (hI : I.length ≤ 128) (hcb : ∀ i, byteAt C i < 256)
    (hxd : ∀ b, isB xv b → ¬ VQ A cv iv b) (hyd : ∀ b, isB yv b → ¬ VQ A cv iv b) (fuel : Int) :
    Calls Tryz.prog 70 #[.pointer (some ⟨A.m, 0, none⟩), xv, yv, .int .i64 fuel] w (RsR w A C I fuel cv iv) := by
  have c1 := H.r_h
  have hlt := H.lt
  have hD := depthF H.hm
  have hP := popF H.hm hR.top (S.top : Nat)
  have HX : Hid (_ ∧ _) := ⟨H, And.intro hR (And.intro hx (And.intro hy (And.intro hC (And.intro hI (And.intro hcb (And.intro hxd hyd))))))⟩
  have ht := hR.top
  clear H hR hx hy hC hI hcb hxd hyd
  go_enter Tryz.func70, Tryz.ntmps70
  go_wp2_with fail
  refine hD.mono ?_
  rintro v w1 ⟨rfl, rfl⟩
  go_wp2_with fail
  refine hP.mono ?_
  rintro v w2 ⟨rfl, h3, h4⟩
  clear hP hD c1 hlt
  obtain ⟨H, hR, hx, hy, hC, hI, hcb, hxd, hyd⟩ := HX.out
  have H2 := H.heap h4 h3
  have hRn := pop_all hR
  have hx2 := hx.frame h4 (fun b hb e => hxd b hb (.inl (.inr e)))
  have hy2 := hy.frame h4 (fun b hb e => hyd b hb (.inl (.inr e)))
  have F2 : Fr (VQ A cv iv) w1 w2 := h4.mono (fun b _ e => .inl (.inr e))
  generalize (popN S (S.top : Nat)).2 = S2 at *
  have d1 := H2.r_cv
  have hlt := H2.lt
  have hz := H2.blk.frozen
  obtain ⟨ca, cn, cc, ecv, hcv, hcb2⟩ := H2.code.cut
  rw [ecv] at d1
  have HY : Hid _ := And.intro H2 (And.intro hRn (And.intro hx2 (And.intro hy2 (And.intro F2 (And.intro hcv hcb2)))))
  clear H HX hR hx hy h3 h4 H2 hRn hx2 hy2 F2 hcv hcb2
  obtain ⟨xa, xc, exv, hxc⟩ := HY.out.2.2.1.sl
  have hcv := HY.out.2.2.2.2.2.1
  have hx2 := HY.out.2.2.1
  rw [exv] at hx2
  subst exv
  have hbq := HY.out.2.2.2.2.2.2
  go_upto_region 3 with (
    at_builtin
    refine wpList_appB0 (by rfl) _ _ (by rfl) (.slice ca 0 cc) (.slice xa C.length xc) C (by rfl) (by rfl) hcv hx2 (by omega) ?_
    intro v' w5 hc5 hb5 f5
    obtain ⟨va, vc, hvv, _⟩ := hc5.sl
    subst hvv
    have f5' : Fr (isB cv) w2 w5 := f5.mono (fun b _ h => (hbq b).1 h)
    have hcm := HY.out.1.blk.frame f5' (fun h => (HY.out.1.cd _ h).1 rfl)
    have cm1 := hcm.cell (o := 56) (by omega)
    have cml := hcm.lt
    have cmz := hcm.frozen
    have Hc5 : Hid _ := And.intro hc5 (And.intro hb5 f5')
    clear hc5 hb5 f5 hcm f5')
  clear d1 hlt hz cm1 cml cmz
  have H3 := HY.out.1.codep Hc5.out.2.2 Hc5.out.1 (fun b h => (Hc5.out.2.1 b h).imp id (fun g => (hbq b).1 g)) hC hcb
  have hcvn : ∀ b, isB (.slice va C.length vc) b → w1.heap.size ≤ b ∨ isB cv b := fun b h => (Hc5.out.2.1 b h).imp (fun g => Nat.le_trans HY.out.2.2.2.2.1.size g) (fun g => (hbq b).1 g)
  have F3 : Fr (VQ A cv iv) w1 (w5.setCell ⟨A.m, 56, none⟩ (.slice va C.length vc)) := (HY.out.2.2.2.2.1.trans Hc5.out.2.2 (fun b _ h => .inr (.inl h))).setC A.m 56 _ (fun _ => .inl (.inl rfl))
  have hy3 : KiAt (w5.setCell ⟨A.m, 56, none⟩ (.slice va C.length vc)) yv I := (HY.out.2.2.2.1.frame Hc5.out.2.2 (fun b hb h => hyd b hb (.inr (.inl h)))).frame ((Fr.refl (fun b => b = A.m) w5).setC A.m 56 _ (fun _ => rfl)) (fun b hb h => hyd b hb (.inl (.inl h)))
  have hRn := HY.out.2.1
  have hsz : w1.heap.size ≤ (w5.setCell ⟨A.m, 56, none⟩ (.slice va C.length vc)).heap.size := F3.size
  clear Hc5 HY hcv hx2 hbq hxd ecv
  generalize hw3 : World.setCell _ ⟨A.m, 56, none⟩ _ = w3 at *
  clear hw3
  have d1 := H3.r_iv
  have hlt := H3.lt
  have hz := H3.blk.frozen
  obtain ⟨ia, im, ic, eiv, hiv, hib⟩ := H3.inp.cut
  rw [eiv] at d1
  obtain ⟨ya, yc, eyv, hyc⟩ := hy3.sl
  rw [eyv] at hy3
  subst eyv
  have HY : Hid _ := And.intro H3 (And.intro hRn (And.intro F3 (And.intro hib (And.intro hcvn hsz))))
  clear H3 hRn F3 hcvn hsz
  go_upto_region 4 with (
    at_builtin
    refine wpList_appI0 (by rfl) _ _ (by rfl) (.slice ia 0 ic) (.slice ya I.length yc) I (by rfl) (by rfl) hiv hy3 (by omega) ?_
    intro v' w6 hc5 hb5 f5
    obtain ⟨vb, ve, hvv, _⟩ := hc5.sl
    subst hvv
    have f5' : Fr (isB iv) w3 w6 := f5.mono (fun b _ h => (hib b).1 h)
    have hcm := HY.out.1.blk.frame f5' (fun h => (HY.out.1.id _ h).1 rfl)
    have cm1 := hcm.cell (o := 57) (by omega)
    have cml := hcm.lt
    have cmz := hcm.frozen
    have Hc5 : Hid _ := And.intro hc5 (And.intro hb5 f5')
    clear hc5 hb5 f5 hcm f5')
  clear d1 hlt hz cm1 cml cmz
  obtain ⟨H3, hRn, F3, hib, hcvn, hsz⟩ := HY.out
  have H4 := H3.inpp Hc5.out.2.2 Hc5.out.1 (fun b h => (Hc5.out.2.1 b h).imp id (fun g => (hib b).1 g)) hI
  have hivn : ∀ b, isB (.slice vb I.length ve) b → w1.heap.size ≤ b ∨ isB iv b := fun b h => (Hc5.out.2.1 b h).imp (fun g => Nat.le_trans hsz g) (fun g => (hib b).1 g)
  have F4 : Fr (VQ A cv iv) w1 (w6.setCell ⟨A.m, 57, none⟩ (.slice vb I.length ve)) := (F3.trans Hc5.out.2.2 (fun b _ h => .inr (.inr h))).setC A.m 57 _ (fun _ => .inl (.inl rfl))
  clear Hc5 HY hiv hy3 hib hyd eiv H3 F3 hsz
  generalize hw4 : World.setCell _ ⟨A.m, 57, none⟩ _ = w4 at *
  clear hw4
  have a49 := H4.r_sp
  have a50 := H4.r_fp
  have a51 := H4.r_li
  have a52 := H4.r_lr
  have a53 := H4.r_rb
  have a54 := H4.r_nf
  have a55 := H4.r_pc
  have a58 := H4.r_ip
  have a59 := H4.r_fuel
  have a60 := H4.r_ov
  have a61 := H4.r_en
  have a62 := H4.r_rt
  have a63 := H4.r_steps
  have a64 := H4.r_most
  have hlt := H4.lt
  have hz := H4.blk.frozen
  obtain ⟨oa, oc, eov, _⟩ := H4.out.sl
  rw [eov] at a60
  have B : Blk _ A.m 65 (vC A st ⟨0, 0, 0, 0, 0⟩ 0 (V0 fuel) (.slice va C.length vc) (.slice vb I.length ve) nilS) := ((((((((((((((H4.blk.set 49 (.int .i64 0)).set 50 (.int .i64 0)).set 51 (.int .i64 0)).set 52 (.int .i64 0)).set 53 (.int .i64 0)).set 54 (.int .i64 0)).set 55 (.int .i64 0)).set 58 (.int .i64 0)).set 59 (.int .i64 fuel)).set 60 (nilS)).set 61 (.int .i64 0)).set 62 (.int .i64 0)).set 63 (.int .i64 0)).set 64 (.int .i64 0)).congr (fun o ho => vC_fresh o ho)
  have FF := (((((((((((((((Fr.refl (fun b => b = A.m) w4).setC A.m 49 (.int .i64 0) (fun _ => rfl)).setC A.m 50 (.int .i64 0) (fun _ => rfl)).setC A.m 51 (.int .i64 0) (fun _ => rfl)).setC A.m 52 (.int .i64 0) (fun _ => rfl)).setC A.m 53 (.int .i64 0) (fun _ => rfl)).setC A.m 54 (.int .i64 0) (fun _ => rfl)).setC A.m 55 (.int .i64 0) (fun _ => rfl)).setC A.m 58 (.int .i64 0) (fun _ => rfl)).setC A.m 59 (.int .i64 fuel) (fun _ => rfl)).setC A.m 60 (nilS) (fun _ => rfl)).setC A.m 61 (.int .i64 0) (fun _ => rfl)).setC A.m 62 (.int .i64 0) (fun _ => rfl)).setC A.m 63 (.int .i64 0) (fun _ => rfl)).setC A.m 64 (.int .i64 0) (fun _ => rfl))
  have HZ : Hid (_ ∧ _ ∧ _) := ⟨H4, And.intro hRn (And.intro F4 (And.intro hcvn hivn)), And.intro B FF⟩
  clear H4 hRn F4 hcvn hivn B FF eov
  go_wp2_with fail
  go_end0
  obtain ⟨H4, ⟨hRn, F4, hcvn, hivn⟩, B, FF⟩ := HZ.out
  exact ⟨rfl, S2, st, _, _, H4.fresh FF B, hRn, F4.trans FF (fun b _ h => .inl (.inl h)), hcvn, hivn⟩
end
end Go.Proofs.Qxb6500277aGreat
