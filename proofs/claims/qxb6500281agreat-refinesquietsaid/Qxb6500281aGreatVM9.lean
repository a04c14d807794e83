/- The model machine: a call (written by genVM9.py). -/
import Derived.Test.Qxb6500281aGreatVM8a
import Derived.Test.Qxb6500281aGreatMake
import Derived.Deep.LoopGhost
namespace Go.Proofs.Qxb6500281aGreat
open Go Go.RowKit

def fC (ret : Nat) (lv : Value) (e lr : Nat) (o : Nat) : Value := match o with | 0 => .int .i64 (ret : Nat) | 1 => lv | 2 => .slice none 0 0 | 3 => .int .i64 (e : Nat) | _ => .int .i64 (lr : Nat)
theorem lt5 {o : Nat} (h : o < 5) : o = 0 ∨ o = 1 ∨ o = 2 ∨ o = 3 ∨ o = 4 := by omega
/-- A frame and its locals are born. -/
structure Mf (w0 w : World) (ret li e lr bx lb : Nat) : Prop where
  fr : Fr (fun _ => False) w0 w
  lo : Blk w lb li (fun _ => .int .i64 0)
  bo : Blk w bx 5 (fC ret (.slice (some ⟨lb, 0, none⟩) li li) e lr)
  l1 : w0.heap.size ≤ lb
  l2 : w0.heap.size ≤ bx
  ne : lb ≠ bx
theorem Mf.mkA {w0 wa : World} {ret li e lr lb : Nat} (k : Fr (fun _ => False) w0 wa) (hl : Blk wa lb li (fun _ => .int .i64 0)) (h1 : w0.heap.size ≤ lb) : Mf w0 (wa.alloc (.cells #[.int .i64 (ret : Nat), .slice (some ⟨lb, 0, none⟩) li li, .slice none 0 0, .int .i64 (e : Nat), .int .i64 (lr : Nat)] 101)) ret li e lr wa.heap.size lb :=
  ⟨k.alloc _, hl.alloc _, Blk.new wa _ _ _ (fun o ho => by rcases lt5 (show o < 5 from ho) with rfl | rfl | rfl | rfl | rfl <;> rfl), h1, k.size, fun h => by have := hl.lt; omega⟩
theorem Mf.drew {w0 w : World} {ret li e lr bx lb : Nat} (h : Mf w0 w ret li e lr bx lb) : Mf w0 w.drew ret li e lr bx lb := ⟨h.fr.drew, h.lo.drew, h.bo.drew, h.l1, h.l2, h.ne⟩
def z5 (o : Nat) : Value := match o with | 0 => .int .i64 0 | 1 => .slice none 0 0 | 2 => .slice none 0 0 | 3 => .int .i64 0 | _ => .int .i64 0
theorem z5_blk (w : World) : Blk (w.alloc (.cells #[.int .i64 0, .slice none 0 0, .slice none 0 0, .int .i64 0, .int .i64 0] 101)) w.heap.size 5 z5 := Blk.new w _ _ _ (fun o ho => by rcases lt5 (show o < 5 from ho) with rfl | rfl | rfl | rfl | rfl <;> rfl)
theorem Mf.mkB {w0 wb : World} {ret li e lr bx lb : Nat} (k : Fr (fun _ => False) w0 wb) (hl : Blk wb lb li (fun _ => .int .i64 0)) (hb : Blk wb bx 5 z5) (h1 : w0.heap.size ≤ lb) (h2 : w0.heap.size ≤ bx) (hn : lb ≠ bx) : Mf w0 (((((wb.setCell ⟨bx, 0, none⟩ (.int .i64 (ret : Nat))).setCell ⟨bx, 1, none⟩ (.slice (some ⟨lb, 0, none⟩) li li)).setCell ⟨bx, 2, none⟩ (.slice none 0 0)).setCell ⟨bx, 3, none⟩ (.int .i64 (e : Nat))).setCell ⟨bx, 4, none⟩ (.int .i64 (lr : Nat))) ret li e lr bx lb := by
  have hx : ¬ bx < w0.heap.size := by omega
  refine ⟨((((k.setC bx 0 _ (fun h => absurd h hx)).setC bx 1 _ (fun h => absurd h hx)).setC bx 2 _ (fun h => absurd h hx)).setC bx 3 _ (fun h => absurd h hx)).setC bx 4 _ (fun h => absurd h hx), ((((hl.setOther ⟨bx, 0, none⟩ _ hn).setOther ⟨bx, 1, none⟩ _ hn).setOther ⟨bx, 2, none⟩ _ hn).setOther ⟨bx, 3, none⟩ _ hn).setOther ⟨bx, 4, none⟩ _ hn, (((((hb.set 0 _).set 1 _).set 2 _).set 3 _).set 4 _).congr (fun o ho => ?_), h1, h2, hn⟩
  rcases lt5 ho with rfl | rfl | rfl | rfl | rfl <;> simp [upd, fC]
theorem drop_with (V : Vs) (x : Int) (n : Nat) : dropO { V with fuel := x } n = { dropO V n with fuel := x } := by
  obtain ⟨fs, pc, fuel, ip, out, en, rt, steps, most⟩ := V
  cases fs <;> rfl
theorem drop_eta (V : Vs) (n : Nat) : dropO V n = { V with fs := (dropO V n).fs } := by
  obtain ⟨fs, pc, fuel, ip, out, en, rt, steps, most⟩ := V
  cases fs <;> rfl
theorem fs_cases (V : Vs) : V.fs = [] ∨ ∃ f r, V.fs = f :: r := by
  cases V.fs with
  | nil => exact .inl rfl
  | cons f r => exact .inr ⟨f, r, rfl⟩
theorem zeros {w : World} {b n : Nat} (h : Blk w b (n * 1) (fun k => (Value.int .i64 0).cells[k % (Value.int .i64 0).cells.size]!)) : Blk w b n (fun _ => .int .i64 0) := by
  rw [Nat.mul_one] at h
  exact h.congr fun o ho => by show (Value.int .i64 0).cells[o % 1]! = _; rw [Nat.mod_one]; rfl
section
variable {w w' w1 : World} {rn hm : Nat} {C : List Nat} {I : List Int} {V V' : Vs} {M M' : MS} {col col' : Nat → Nat} {P P' F : Nat → Prop} {cv iv ov fv : Value} {g : Nat → Value} {f : Fm} {r : List Fm}
set_option maxRecDepth 100000 in
set_option maxHeartbeats 2000000 in
theorem callM_go (H : MR w rn hm C I V M col P cv iv ov fv g) (a ret : Nat) (h : a + 5 ≤ C.length) (h2 : byteAt C a = 25) (h3 : byteAt C (a + 1) ≤ byteAt C (a + 3)) (h4 : byteAt C (a + 2) ≤ byteAt C (a + 4)) (hb : V.fuel ≤ 9223372036854775807) (hd : M.rt.length ≤ 24) (hch : ∀ f r, V.fs = f :: r → f.rb + f.lr ≤ M.rt.length) (hu : usedF V.fs ≤ V.most) (hmo : V.most ≤ 48) : Calls Tryz.prog 46 #[.pointer (some ⟨rn, 0, none⟩), .int .i64 (a : Nat), .int .i64 (ret : Nat)] w fun e w' => e = .returned (.tuple #[]) ∧ MZ w rn hm C I (callV C V M a ret).1 (callV C V M a ret).2 P w' := by
  have hcV : callV C V M a ret = if (V.fs = [] ∧ (byteAt C (a + 1) ≠ 0 ∨ byteAt C (a + 2) ≠ 0)) ∨ (V.fs ≠ [] ∧ ((topO V).length < byteAt C (a + 1) ∨ ropsV V M < byteAt C (a + 2))) then (V.die 24, M) else enterV V M a (byteAt C (a + 1)) (byteAt C (a + 2)) (byteAt C (a + 3)) (byteAt C (a + 4)) ret := by
    unfold callV
    rw [if_neg (by omega), if_neg (by omega)]
  obtain ⟨X, hX⟩ : ∃ X, X = callV C V M a ret := ⟨_, rfl⟩
  rw [← hX]
  rw [hcV] at hX
  clear hcV
  have c1 := H.cl' (o := 0) (by omega)
  simp only [rC] at c1
  have hlt := H.rlt
  have hcl := H.cl
  have b1 := H.cb (a + 1)
  have b2 := H.cb (a + 2)
  have b3 := H.cb (a + 3)
  have b4 := H.cb (a + 4)
  obtain ⟨b, c, e, hb', hc⟩ := H.code.all (by omega)
  rw [e] at c1
  have p0 := hc a (by omega)
  rw [h2] at p0
  have p1 := hc (a + 1) (by omega)
  have p2 := hc (a + 2) (by omega)
  have p3 := hc (a + 3) (by omega)
  have p4 := hc (a + 4) (by omega)
  have z : decide ((a : Int) > (C.length : Int) - 5) = false := decide_eq_false (by omega)
  have z2 : decide ((C.length : Int) - 5 < (a : Int)) = false := decide_eq_false (by omega)
  have hai : (a : Int) + 4 < (C.length : Int) := by omega
  generalize byteAt C (a + 1) = x1 at *
  generalize byteAt C (a + 2) = x2 at *
  generalize byteAt C (a + 3) = x3 at *
  generalize byteAt C (a + 4) = x4 at *
  have y1 : decide ((x3 : Int) < (x1 : Int)) = false := decide_eq_false (by omega)
  have y2 : decide (x3 < x1) = false := decide_eq_false (by omega)
  have y3 : decide ((x4 : Int) < (x2 : Int)) = false := decide_eq_false (by omega)
  have y4 : decide (x4 < x2) = false := decide_eq_false (by omega)
  have HK : Hid (_ ∧ _ ∧ _) := ⟨H, hch, And.intro h3 (And.intro h4 (And.intro hb (And.intro hu hmo)))⟩
  have XE : Hid _ := hX
  clear H e h2 hc h3 h4 hb hch hmo hX hu
  go_enter Tryz.func46, Tryz.ntmps46
  go_wp2_with fail
  go_quiet (fail)
  generalize hw2 : World.drewN _ _ = w2
  have hF2 : Fr (fun _ => False) w w2 := by rw [← hw2]; exact (Fr.refl _ w).drewN _
  clear c1 hlt p0 p1 p2 p3 p4 z z2 hw2
  have H2 := HK.out.1.same hF2
  have d5 := H2.cl' (o := 5) (by omega)
  have d8 := H2.cl' (o := 8) (by omega)
  simp only [rC] at d5 d8
  obtain ⟨fa, fc, efv, hfc⟩ : ∃ a c, fv = .slice a V.fs.length c ∧ V.fs.length ≤ c := by
    rcases H2.fs with ⟨h1, h2⟩ | ⟨b, cap, h1, h2, _⟩
    · exact ⟨none, 0, by rw [h1, h2], by omega⟩
    · exact ⟨_, _, h1, h2⟩
  rw [efv] at d5
  have hlt := H2.rlt
  have hz := H2.blk.frozen
  have hlen := lenUsed V.fs
  have hn48 : V.fs.length ≤ 48 := by have := HK.out.2.2.2.2.2; omega
  clear hlen efv
  have HX : Hid _ := H2
  clear H2
  go_upto_if 89 with fail
  clear y1 y2 y3 y4
  go_cut [] from 15 (fun wx => Fr (fun _ => False) w wx ∧ ¬ ((V.fs = [] ∧ (x1 ≠ 0 ∨ x2 ≠ 0)) ∨ (V.fs ≠ [] ∧ ((topO V).length < x1 ∨ ropsV V M < x2))))
  case first =>
    have hch := HK.out.2.1
    rcases fs_cases V with hf | ⟨f, r, hf⟩
    · rw [hf] at d5 hfc hn48
      simp only [List.length_nil] at d5
      have Hf : Hid _ := hf
      clear hf
      by_cases g1 : x1 = 0
      · subst g1
        by_cases g2 : x2 = 0
        · subst g2
          rw [Hf.out]
          simp only [List.length_nil]
          go_wp2_with fail
          go_meet
          exact ⟨hF2, by rw [Hf.out]; simp⟩
        · have y1 : ((x2 : Int) != 0) = true := by simpa using g2
          have Hg : Hid _ := g2
          clear g2
          rw [Hf.out]
          simp only [List.length_nil]
          go_wp2_with fail
          refine bodyPost_ret (v := .tuple #[]) (by simp [results, Tryz.results46, go_sem]) rfl ?_
          rw [show X = (V.die 24, M) by rw [XE.out, if_pos (.inl ⟨Hf.out, .inr Hg.out⟩)]]
          exact ⟨rfl, HK.out.1.zs (HX.out.s_en 24) ((hF2.mono (S' := fun c => c = rn) (fun _ _ h => h.elim)).setC rn 8 _ (fun _ => rfl))⟩
      · have y1 : ((x1 : Int) != 0) = true := by simpa using g1
        have Hg : Hid _ := g1
        clear g1
        rw [Hf.out]
        simp only [List.length_nil]
        go_wp2_with fail
        refine bodyPost_ret (v := .tuple #[]) (by simp [results, Tryz.results46, go_sem]) rfl ?_
        rw [show X = (V.die 24, M) by rw [XE.out, if_pos (.inl ⟨Hf.out, .inl Hg.out⟩)]]
        exact ⟨rfl, HK.out.1.zs (HX.out.s_en 24) ((hF2.mono (S' := fun c => c = rn) (fun _ _ h => h.elim)).setC rn 8 _ (fun _ => rfl))⟩
    · have hq := hch f r hf
      have t1 : (topO V).length = f.ops.length := by unfold topO; rw [hf]
      have t2 : ropsV V M = (M.rt.length : Int) - f.rb - f.lr := by unfold ropsV; rw [hf]
      have hr48 : r.length ≤ 48 := by rw [hf] at hn48; simp at hn48; omega
      have y0 : ((V.fs.length : Int) == 0) = false := by rw [hf]; simp; omega
      have hne : V.fs ≠ [] := by rw [hf]; simp
      by_cases g1 : f.ops.length < x1 ∨ (M.rt.length : Int) - f.rb - f.lr < x2
      · have hN := need_no HX.out hf hd (by omega) hr48 x1 x2 g1
        have Hg : Hid _ := And.intro g1 (And.intro t1 (And.intro t2 hne))
        have hl2 : V.fs.length ≠ 0 := by rw [hf]; simp
        generalize V.fs.length = n at *
        clear g1 t1 t2 hf hq hch hne hl2
        go_wp2_with fail
        refine hN.mono ?_
        rintro v w3 ⟨rfl, h3⟩
        clear hN
        go_wp2_with fail
        refine bodyPost_ret (v := .tuple #[]) (by simp [results, Tryz.results46, go_sem]) rfl ?_
        rw [show X = (V.die 24, M) by rw [XE.out, if_pos (.inr ⟨Hg.out.2.2.2, by rw [Hg.out.2.1, Hg.out.2.2.1]; exact Hg.out.1⟩)]]
        exact ⟨rfl, (HK.out.1.e.z0 hF2).nx (fun c q => .inl q) h3⟩
      · have hN := need_ok HX.out hf hd (by omega) hr48 x1 x2 (by omega) (by omega)
        have Hg : Hid _ := And.intro g1 (And.intro t1 (And.intro t2 hne))
        obtain ⟨n, hn⟩ : ∃ n, n = V.fs.length := ⟨_, rfl⟩
        rw [← hn] at d5 y0 hn48 ⊢
        have Hn : Hid _ := hn
        clear g1 t1 t2 hf hq hch hne hn
        go_wp2_with fail
        refine hN.mono ?_
        rintro v w3 ⟨rfl, m, rfl⟩
        clear hN
        go_wp2_with fail
        have hn := Hn.out
        subst hn
        go_meet
        exact ⟨hF2.drewN m, fun hh => by
          rcases hh with ⟨q, _⟩ | ⟨_, q⟩
          · exact Hg.out.2.2.2 q
          · rw [Hg.out.2.1, Hg.out.2.2.1] at q; exact Hg.out.1 q⟩
  case rest =>
    obtain ⟨hFc, hcond⟩ := hcut
    have hX := XE.out
    rw [if_neg hcond] at hX
    unfold enterV at hX
    clear XE d5 d8 hlt hz hF2 HX hfc
    have XE : Hid _ := hX
    clear hX
    obtain ⟨H, hch, h3, h4, hb, hu, hmo⟩ := HK.out
    have H2 := H.same hFc
    have hpi : x1 ≤ (topO V).length := enter_pi hcond
    have hpr : x2 ≤ M.rt.length := enter_pr hcond
    have htu := top_used V
    have hS := spendMF H2 hb
    have hlt := H2.rlt
    have Hc : Hid _ := And.intro H (And.intro hch (And.intro hu (And.intro hmo (And.intro hpi (And.intro hpr (And.intro htu hFc))))))
    clear HK H hch hu hmo hpi hpr htu H2 hcond hFc hb
    go_wp2_with fail
    refine hS.mono ?_
    rintro v w3 ⟨g1, g2, k3⟩
    clear hS hlt
    by_cases hfu : V.fuel ≤ 0
    · obtain ⟨rfl, H3⟩ := g1 hfu
      have HH : Hid _ := H3
      have hX : X = (V.die 22, M) := by rw [XE.out, if_pos hfu]
      subst hX
      clear H3 g1 g2 XE
      go_wp2_with fail
      exact bodyPost_ret (v := .tuple #[]) (by simp [results, Tryz.results46, go_sem]) rfl ⟨rfl, Hc.out.1.zs HH.out ((Hc.out.2.2.2.2.2.2.2.mono (S' := fun c => c = rn) (fun _ _ h => h.elim)).trans k3 (fun _ _ h => h))⟩
    · obtain ⟨rfl, H3⟩ := g2 hfu
      clear g1 g2
      have hX := XE.out
      rw [if_neg hfu] at hX
      obtain ⟨V1, hV1⟩ : ∃ V1 : Vs, V1 = { V with fuel := V.fuel - 1 } := ⟨_, rfl⟩
      rw [← hV1] at H3
      have hfs : V1.fs = V.fs := by rw [hV1]
      have hU := usedMF H3 (by rw [hfs]; have := Hc.out; omega)
      rw [hfs] at hU
      obtain ⟨u, hue⟩ : ∃ u, u = usedF V.fs := ⟨_, rfl⟩
      rw [← hue] at hX hU
      obtain ⟨d, hde⟩ : ∃ d, d = M.rt.length := ⟨_, rfl⟩
      rw [← hde] at hX hd
      have hlt := H3.rlt
      have k03 : Fr (fun c => c = rn) w w3 := (Hc.out.2.2.2.2.2.2.2.mono (S' := fun c => c = rn) (fun _ _ h => h.elim)).trans k3 (fun _ _ h => h)
      have hx : x1 ≤ u ∧ x2 ≤ d ∧ u ≤ 48 := by have := Hc.out; rw [hue, hde]; omega
      obtain ⟨hx1, hx2, hu48⟩ := hx
      have Hd : Hid _ := And.intro H3 (And.intro hV1 (And.intro hue (And.intro hde k03)))
      clear XE
      have XE : Hid _ := hX
      clear hX H3 hV1 hfs hue hde k03 k3
      go_wp2_with fail
      refine hU.mono ?_
      rintro v w4 ⟨rfl, k4⟩
      clear hU hlt
      have H4 := Hd.out.1.same k4
      have d7 := H4.cl' (o := 7) (by omega)
      have d8 := H4.cl' (o := 8) (by omega)
      simp only [rC] at d7 d8
      have hlt := H4.rlt
      have hz := H4.blk.frozen
      obtain ⟨OH, m1, _⟩ := H4.hp
      have hD : ∀ w0, Fr (fun _ => False) w4 w0 → Calls Tryz.prog 44 #[.pointer (some ⟨hm, 0, none⟩)] w0 fun e w' => e = .returned (.int .i64 (d : Nat)) ∧ w' = w0 := fun w0 k => by
        rw [Hd.out.2.2.2.1]
        exact depthMF (m1.same k)
      have k04 : Fr (fun c => c = rn) w w4 := Hd.out.2.2.2.2.trans k4 (fun _ _ h => h.elim)
      have He : Hid _ := And.intro H4 k04
      clear H4 m1 k04 k4
      have hD0 := hD w4 (Fr.refl _ _)
      by_cases q1 : (48 : Int) < (u : Int) - x1 + x3 + 3
      · have hX : X = (({ V with fuel := V.fuel - 1 } : Vs).die 29, M) := by rw [XE.out, if_pos (.inl q1)]
        have y1 : decide ((u : Int) - x1 + 3 + x3 > 48) = true := decide_eq_true (by omega)
        have y2 : decide ((48 : Int) < (u : Int) - x1 + 3 + x3) = true := decide_eq_true (by omega)
        have HXe : Hid _ := hX
        clear hX XE
        go_wp2_with fail
        refine hD0.mono ?_
        rintro v w5 ⟨rfl, rfl⟩
        go_wp2_with fail
        refine bodyPost_ret (v := .tuple #[]) (by simp [results, Tryz.results46, go_sem]) rfl ?_
        rw [HXe.out]
        have hs := He.out.1.s_en 29
        rw [Hd.out.2.1] at hs
        exact ⟨rfl, Hc.out.1.zs hs (He.out.2.setC rn 8 _ (fun _ => rfl))⟩
      · by_cases q2 : (24 : Int) < (d : Int) - x2 + x4
        · have hX : X = (({ V with fuel := V.fuel - 1 } : Vs).die 29, M) := by rw [XE.out, if_pos (.inr q2)]
          have y1 : decide ((u : Int) - x1 + 3 + x3 > 48) = false := decide_eq_false (by omega)
          have y2 : decide ((48 : Int) < (u : Int) - x1 + 3 + x3) = false := decide_eq_false (by omega)
          have y3 : decide ((d : Int) + x4 - x2 > 24) = true := decide_eq_true (by omega)
          have y4 : decide ((24 : Int) < (d : Int) + x4 - x2) = true := decide_eq_true (by omega)
          have HXe : Hid _ := hX
          clear hX XE
          go_wp2_with fail
          refine hD0.mono ?_
          rintro v w5 ⟨rfl, rfl⟩
          go_wp2_with fail
          refine bodyPost_ret (v := .tuple #[]) (by simp [results, Tryz.results46, go_sem]) rfl ?_
          rw [HXe.out]
          have hs := He.out.1.s_en 29
          rw [Hd.out.2.1] at hs
          exact ⟨rfl, Hc.out.1.zs hs (He.out.2.setC rn 8 _ (fun _ => rfl))⟩
        · have hX := XE.out
          rw [if_neg (by omega)] at hX
          have y1 : decide ((u : Int) - x1 + 3 + x3 > 48) = false := decide_eq_false (by omega)
          have y2 : decide ((48 : Int) < (u : Int) - x1 + 3 + x3) = false := decide_eq_false (by omega)
          have y3 : decide ((d : Int) + x4 - x2 > 24) = false := decide_eq_false (by omega)
          have y4 : decide ((24 : Int) < (d : Int) + x4 - x2) = false := decide_eq_false (by omega)
          clear XE
          have XE : Hid _ := hX
          clear hX
          go_wp2_with fail
          refine hD0.mono ?_
          rintro v w5 ⟨rfl, rfl⟩
          clear hD0
          go_upto_region 14 with fail
          clear y1 y2 y3 y4
          obtain ⟨e, hee⟩ : ∃ e, e = d - x2 := ⟨_, rfl⟩
          have i5 : (d : Int) - (x2 : Int) = (e : Int) := by omega
          have h48 : x3 ≤ 48 ∧ x4 ≤ 24 ∧ e ≤ 24 := by omega
          obtain ⟨h48, h424, he24⟩ := h48
          have Hee : Hid _ := And.intro hee (And.intro q1 q2)
          clear hee q1 q2
          go_cut [12] from 15 (fun s12 wx => ∃ bx lb, s12 = .pointer (some ⟨bx, 0, none⟩) ∧ Mf w5 wx ret x3 e x4 bx lb)
          case first =>
            refine wp_region_tree (.run [0, 1, 3, 4, 5, 6, 8, 10] (.fork3 2 (.fork 7 (.run [9, 11, 12, 13] .fin) 12 (.run [7] (.run [9, 11, 13] .fin))) 7 (.run [9] (.fork 2 (.run [11, 12, 13] .fin) 12 (.run [2] (.run [11, 13] .fin)))) 12 (.fork 2 (.run [7] (.run [9, 11, 13] .fin)) 7 (.run [9] (.run [2] (.run [11, 13] .fin)))))) (by kernel_rfl) (by kernel_rfl) ?_
            simp only [wpTL, pick, List.filterMap_cons, List.filterMap_nil, List.getElem?_cons_zero, List.getElem?_cons_succ]
            go_wp2_with fail
            refine ⟨⟨?_, ?_, ?_⟩⟩
            · refine wpList_makeB (by rfl) 35 _ _ (by rfl) 3 1 8 (.int .i64 0) x3 (by rfl) (by rfl) Tryz.underlying35 (by kernel_rfl) (by kernel_rfl) (by kernel_rfl) (by omega) (by omega) ?_
              intro wa Fwa swa Bwa
              go_wp2_with fail
              refine ⟨⟨?_, ?_⟩⟩
              · go_wp2_with fail
                refine (hD _ (((Fr.refl (fun _ => False) w5).drew).trans Fwa (fun _ _ h => h))).mono ?_
                rintro v wa ⟨rfl, rfl⟩
                go_wp2_with fail
                refine ⟨?_⟩
                go_wp2_with fail
                refine ⟨?_⟩
                refine ⟨by kernel_rfl, ?_⟩
                go_wp2_with fail
                go_meet
                have key := Mf.mkA (w0 := w5) (ret := ret) (e := e) (lr := x4) (((Fr.refl (fun _ => False) w5).drew).trans Fwa (fun _ _ h => h)) (zeros Bwa) (Nat.le_refl _)
                rw [swa] at key
                exact ⟨_, _, rfl, key⟩
              · go_wp2_with fail
                refine ⟨?_⟩
                go_wp2_with fail
                refine (hD _ ((((Fr.refl (fun _ => False) w5).drew).trans Fwa (fun _ _ h => h)).alloc _)).mono ?_
                rintro v wy ⟨rfl, rfl⟩
                go_wp2_with fail
                refine ⟨?_⟩
                go_wp2_with fail
                refine ⟨?_⟩
                refine ⟨by kernel_rfl, ?_⟩
                go_wp2_with fail
                go_meet
                have key := Mf.mkA (w0 := w5) (ret := ret) (e := e) (lr := x4) (((Fr.refl (fun _ => False) w5).drew).trans Fwa (fun _ _ h => h)) (zeros Bwa) (Nat.le_refl _)
                rw [swa] at key
                exact ⟨_, _, rfl, key⟩
            · go_wp2_with fail
              refine (hD _ ((Fr.refl (fun _ => False) w5).drew)).mono ?_
              rintro v wy ⟨rfl, rfl⟩
              go_wp2_with fail
              refine ⟨?_⟩
              go_wp2_with fail
              refine ⟨⟨?_, ?_⟩⟩
              · refine wpList_makeB (by rfl) 35 _ _ (by rfl) 3 1 8 (.int .i64 0) x3 (by rfl) (by rfl) Tryz.underlying35 (by kernel_rfl) (by kernel_rfl) (by kernel_rfl) (by omega) (by omega) ?_
                intro wa Fwa swa Bwa
                go_wp2_with fail
                refine ⟨?_⟩
                go_wp2_with fail
                refine ⟨?_⟩
                refine ⟨by kernel_rfl, ?_⟩
                go_wp2_with fail
                go_meet
                have key := Mf.mkA (w0 := w5) (ret := ret) (e := e) (lr := x4) (((Fr.refl (fun _ => False) w5).drew).trans Fwa (fun _ _ h => h)) (zeros Bwa) (Nat.le_refl _)
                rw [swa] at key
                exact ⟨_, _, rfl, key⟩
              · go_wp2_with fail
                refine ⟨?_⟩
                refine wpList_makeB (by rfl) 35 _ _ (by rfl) 3 1 8 (.int .i64 0) x3 (by rfl) (by rfl) Tryz.underlying35 (by kernel_rfl) (by kernel_rfl) (by kernel_rfl) (by omega) (by omega) ?_
                intro wa Fwa swa Bwa
                have zb : Blk wa w5.heap.size 5 z5 := (z5_blk w5.drew).frame Fwa (fun h => h)
                have v0 := zb.cell (o := 0) (by omega)
                have v1 := zb.cell (o := 1) (by omega)
                have v2 := zb.cell (o := 2) (by omega)
                have v3 := zb.cell (o := 3) (by omega)
                have v4 := zb.cell (o := 4) (by omega)
                simp only [z5] at v0 v1 v2 v3 v4
                have vz := zb.frozen
                have vl := zb.lt
                have hlz : Blk wa (w5.heap.size + 1) x3 (fun _ => .int .i64 0) := by
                  have h := zeros Bwa
                  rw [show (World.drew (World.alloc w5 (.cells #[.int .i64 0, .slice none 0 0, .slice none 0 0, .int .i64 0, .int .i64 0] 101))).heap.size = w5.heap.size + 1 by simp] at h
                  exact h
                have key := Mf.mkB (w0 := w5) (ret := ret) (e := e) (lr := x4) (lb := w5.heap.size + 1) ((((Fr.refl (fun _ => False) w5).drew).alloc _).trans Fwa (fun _ _ h => h)) hlz zb (by omega) (Nat.le_refl _) (by omega)
                have Hkey : Hid _ := key
                clear key zb hlz
                go_wp2_with fail
                refine ⟨?_⟩
                go_wp2_with fail
                refine ⟨?_⟩
                refine ⟨by kernel_rfl, ?_⟩
                go_wp2_with fail
                go_meet
                exact ⟨_, _, rfl, Hkey.out⟩
            · go_wp2_with fail
              refine ⟨⟨?_, ?_⟩⟩
              · refine wpList_makeB (by rfl) 35 _ _ (by rfl) 3 1 8 (.int .i64 0) x3 (by rfl) (by rfl) Tryz.underlying35 (by kernel_rfl) (by kernel_rfl) (by kernel_rfl) (by omega) (by omega) ?_
                intro wa Fwa swa Bwa
                have zb : Blk wa w5.heap.size 5 z5 := (z5_blk w5.drew).frame Fwa (fun h => h)
                have v0 := zb.cell (o := 0) (by omega)
                have v1 := zb.cell (o := 1) (by omega)
                have v2 := zb.cell (o := 2) (by omega)
                have v3 := zb.cell (o := 3) (by omega)
                have v4 := zb.cell (o := 4) (by omega)
                simp only [z5] at v0 v1 v2 v3 v4
                have vz := zb.frozen
                have vl := zb.lt
                have hlz : Blk wa (w5.heap.size + 1) x3 (fun _ => .int .i64 0) := by
                  have h := zeros Bwa
                  rw [show (World.drew (World.alloc w5 (.cells #[.int .i64 0, .slice none 0 0, .slice none 0 0, .int .i64 0, .int .i64 0] 101))).heap.size = w5.heap.size + 1 by simp] at h
                  exact h
                have key := Mf.mkB (w0 := w5) (ret := ret) (e := e) (lr := x4) (lb := w5.heap.size + 1) ((((Fr.refl (fun _ => False) w5).drew).alloc _).trans Fwa (fun _ _ h => h)) hlz zb (by omega) (Nat.le_refl _) (by omega)
                have Hkey : Hid _ := key
                clear key zb hlz
                go_wp2_with fail
                refine ⟨?_⟩
                go_wp2_with fail
                refine (hD _ ((((Fr.refl (fun _ => False) w5).drew).alloc _).trans Fwa (fun _ _ h => h))).mono ?_
                rintro v wa ⟨rfl, rfl⟩
                go_wp2_with fail
                refine ⟨?_⟩
                go_wp2_with fail
                refine ⟨?_⟩
                refine ⟨by kernel_rfl, ?_⟩
                go_wp2_with fail
                go_meet
                exact ⟨_, _, rfl, Hkey.out⟩
              · go_wp2_with fail
                refine (hD _ (((Fr.refl (fun _ => False) w5).drew).alloc _)).mono ?_
                rintro v wy ⟨rfl, rfl⟩
                go_wp2_with fail
                refine ⟨?_⟩
                go_wp2_with fail
                refine ⟨?_⟩
                refine wpList_makeB (by rfl) 35 _ _ (by rfl) 3 1 8 (.int .i64 0) x3 (by rfl) (by rfl) Tryz.underlying35 (by kernel_rfl) (by kernel_rfl) (by kernel_rfl) (by omega) (by omega) ?_
                intro wa Fwa swa Bwa
                have zb : Blk wa w5.heap.size 5 z5 := (z5_blk w5.drew).frame Fwa (fun h => h)
                have v0 := zb.cell (o := 0) (by omega)
                have v1 := zb.cell (o := 1) (by omega)
                have v2 := zb.cell (o := 2) (by omega)
                have v3 := zb.cell (o := 3) (by omega)
                have v4 := zb.cell (o := 4) (by omega)
                simp only [z5] at v0 v1 v2 v3 v4
                have vz := zb.frozen
                have vl := zb.lt
                have hlz : Blk wa (w5.heap.size + 1) x3 (fun _ => .int .i64 0) := by
                  have h := zeros Bwa
                  rw [show (World.drew (World.alloc w5 (.cells #[.int .i64 0, .slice none 0 0, .slice none 0 0, .int .i64 0, .int .i64 0] 101))).heap.size = w5.heap.size + 1 by simp] at h
                  exact h
                have key := Mf.mkB (w0 := w5) (ret := ret) (e := e) (lr := x4) (lb := w5.heap.size + 1) ((((Fr.refl (fun _ => False) w5).drew).alloc _).trans Fwa (fun _ _ h => h)) hlz zb (by omega) (Nat.le_refl _) (by omega)
                have Hkey : Hid _ := key
                clear key zb hlz
                go_wp2_with fail
                refine ⟨?_⟩
                go_wp2_with fail
                refine ⟨?_⟩
                refine ⟨by kernel_rfl, ?_⟩
                go_wp2_with fail
                go_meet
                exact ⟨_, _, rfl, Hkey.out⟩
          case rest =>
            obtain ⟨bx, lb, rfl, HM⟩ := hcut
            have hPl : ∀ c, P c → c < w5.heap.size := He.out.1.lt
            have hl1 := HM.l1
            have hl2 := HM.l2
            have hlP : ¬ P lb := fun q => by have := hPl lb q; omega
            have hbP : ¬ P bx := fun q => by have := hPl bx q; omega
            have H6 := He.out.1.same HM.fr
            have h05 : Fr (fun c => c = rn) w wc := He.out.2.trans HM.fr (fun _ _ q => q.elim)
            have HL : Hid _ := And.intro HM (And.intro hlP (And.intro hbP (And.intro H6 h05)))
            have htop : topO V1 = topO V := by rw [Hd.out.2.1]; rfl
            have hpi : x1 ≤ (topO V1).length := by rw [htop]; exact Hc.out.2.2.2.2.1
            have hfs : V1.fs = V.fs := by rw [Hd.out.2.1]
            have hub : usedF V1.fs ≤ 48 := by rw [hfs, ← Hd.out.2.2.1]; exact hu48
            have Hp : Hid _ := And.intro hpi (And.intro htop (And.intro hfs hub))
            clear HM hPl hl1 hl2 hlP hbP H6 h05 htop hpi hfs hub d7 d8 hlt hz hD
            go_wp2_with fail
            go_loopg [13] x1 (fun g' s13 wr => ∃ j : Nat, s13 = .int .i64 ((x1 : Int) - 1 - j) ∧ j + g' = x1 ∧ ∃ col cv iv ov fv gg, MR wr rn hm C I (dropO V1 j) M col P cv iv ov fv gg ∧ Blk wr lb x3 (fun q => if x1 - j ≤ q ∧ q < x1 then .int .i64 (opn V1 (x1 - 1 - q)) else .int .i64 0) ∧ Blk wr bx 5 (fC ret (.slice (some ⟨lb, 0, none⟩) x3 x3) e x4) ∧ Fr (fun c => P c ∨ c = lb) wc wr ∧ wr.heap.size = wc.heap.size)
            case atStart =>
              refine ⟨0, ?_, by omega, _, _, _, _, _, _, by rw [drop_zero]; exact HL.out.2.2.2.1, HL.out.1.lo.congr (fun q hq => by rw [if_neg (by omega)]), HL.out.1.bo, Fr.refl _ _, rfl⟩
              simp
            case round =>
              obtain ⟨j, rfl, hjg, col7, cv7, iv7, ov7, fv7, g7, H7, hlo, hbo, k7, hs7⟩ := hrel
              have hjg' : j + gk = x1 := hjg
              clear hjg
              by_cases hj : j < x1
              · have hfr : ∃ f r, V1.fs = f :: r := by
                  rcases fs_cases V1 with q | q
                  · have := Hp.out.1
                    unfold topO at this
                    rw [q] at this
                    simp at this
                    omega
                  · exact q
                obtain ⟨f, r, hf⟩ := hfr
                have hol : j < f.ops.length := by have := Hp.out.1; rw [topO_c hf] at this; omega
                have hsum : usedF V1.fs = 3 + f.loc.length + f.ops.length + usedF r := by rw [hf]; rfl
                have hrl := lenUsed r
                have hub := Hp.out.2.2.2
                have hP7 : ∀ w0, Fr (fun _ => False) wr w0 → Calls Tryz.prog 82 #[.pointer (some ⟨rn, 0, none⟩)] w0 fun e w' => e = .returned (.int .i64 (opn V1 j)) ∧ (∃ col' cv' iv' ov' fv' g', MR w' rn hm C I (dropO V1 (j + 1)) M col' P cv' iv' ov' fv' g') ∧ Fr P w0 w' ∧ w'.heap.size = w0.heap.size := fun w0 kk => by
                  have := vpopMS (H7.same kk) (drop_fs hf j) (by omega) (by simp only [List.length_take]; omega) (by simp only [List.length_take]; omega)
                  rw [opn_dropj hf j hol, drop_succ hf] at this
                  exact this
                have b1 := hbo.cell (o := 1) (by omega)
                simp only [fC] at b1
                have hbl := hbo.lt
                have hll := hlo.lt
                obtain ⟨i, hi⟩ : ∃ i, i + 1 + j = x1 := ⟨x1 - 1 - j, by omega⟩
                have ii : (x1 : Int) - 1 - j = (i : Int) := by omega
                have hi3 : (i : Int) < x3 := by have := Hc.out; omega
                have hrlt := H7.rlt
                have HS : Hid _ := And.intro hlo (And.intro hbo (And.intro k7 (And.intro hs7 hi)))
                have hne : lb ≠ bx := HL.out.1.ne
                generalize hxe : opn V1 j = x at *
                have Hx : Hid _ := hxe
                clear H7 hlo hbo k7 hf hol hsum hrl hub hi hxe
                rw [ii]
                go_wp2_with fail
                refine wp_region_tree (.run [0, 2, 3] (.fork 1 (.run [4] (.run [5, 6] .fin)) 4 (.run [1, 5, 6] .fin))) (by kernel_rfl) (by kernel_rfl) ?_
                simp only [wpTL, pick, List.filterMap_cons, List.filterMap_nil, List.getElem?_cons_zero, List.getElem?_cons_succ]
                go_wp2_with fail
                refine ⟨⟨?_, ?_⟩⟩
                · go_wp2_with fail
                  refine ⟨?_⟩
                  go_wp2_with fail
                  refine (hP7 _ ((Fr.refl _ _).drew)).mono ?_
                  rintro v w8 ⟨rfl, H8, k8, s8⟩
                  have lo8 := (HS.out.1.frame ((Fr.refl (fun _ => False) wr).drew) (fun h => h)).frame k8 HL.out.2.1
                  have bo8 := (HS.out.2.1.frame ((Fr.refl (fun _ => False) wr).drew) (fun h => h)).frame k8 HL.out.2.2.1
                  have e8 := lo8.cell (o := i) (by omega)
                  rw [if_neg (by have := HS.out.2.2.2.2; omega)] at e8
                  have b8 := bo8.cell (o := 1) (by omega)
                  simp only [fC] at b8
                  have lz := lo8.frozen
                  have ll8 := lo8.lt
                  have lb8 := bo8.lt
                  have H9 : Hid _ := And.intro H8 (And.intro k8 (And.intro s8 (And.intro lo8 bo8)))
                  clear H8 k8 s8 lo8 bo8
                  go_wp2_with fail
                  refine ⟨?_⟩
                  go_wp2_with fail
                  refine ⟨?_⟩
                  refine ⟨by kernel_rfl, ?_⟩
                  go_wp2_with fail
                  go_roundg (gk - 1)
                  case measure => omega
                  case rel =>
                    obtain ⟨⟨col8, cv8, iv8, ov8, fv8, g8, H8⟩, k8, s8, lo8, bo8⟩ := H9.out
                    have hi := HS.out.2.2.2.2
                    have ks := (Fr.refl (fun c => c = lb) w8).setC lb i (.int .i64 x) (fun _ => rfl)
                    refine ⟨j + 1, ?_, by omega, _, _, _, _, _, _, H8.frame ks (fun c hc q => HL.out.2.1 (q ▸ hc)), (lo8.set i (.int .i64 x)).congr (fun q hq => ?_), bo8.frame ks (fun q => hne q.symm), ((HS.out.2.2.1.trans ((Fr.refl (fun _ => False) wr).drew) (fun _ _ q => q.elim)).trans k8 (fun _ _ q => .inl q)).setC lb i _ (fun _ => .inr rfl), by have := HS.out.2.2.2.1; simpa [this] using s8⟩
                    · congr 1; omega
                    · by_cases qi : q = i
                      · rw [qi, upd_same, if_pos (by omega), ← Hx.out, show x1 - 1 - i = j by omega]
                      · rw [upd_other _ _ _ _ qi]
                        by_cases q2 : x1 - j ≤ q ∧ q < x1
                        · rw [if_pos q2, if_pos (by omega)]
                        · rw [if_neg q2, if_neg (by omega)]
                · go_wp2_with fail
                  refine (hP7 _ ((Fr.refl _ _).drew)).mono ?_
                  rintro v w8 ⟨rfl, H8, k8, s8⟩
                  have lo8 := (HS.out.1.frame ((Fr.refl (fun _ => False) wr).drew) (fun h => h)).frame k8 HL.out.2.1
                  have bo8 := (HS.out.2.1.frame ((Fr.refl (fun _ => False) wr).drew) (fun h => h)).frame k8 HL.out.2.2.1
                  have e8 := lo8.cell (o := i) (by omega)
                  rw [if_neg (by have := HS.out.2.2.2.2; omega)] at e8
                  have b8 := bo8.cell (o := 1) (by omega)
                  simp only [fC] at b8
                  have lz := lo8.frozen
                  have ll8 := lo8.lt
                  have lb8 := bo8.lt
                  have H9 : Hid _ := And.intro H8 (And.intro k8 (And.intro s8 (And.intro lo8 bo8)))
                  clear H8 k8 s8 lo8 bo8
                  go_wp2_with fail
                  refine ⟨?_⟩
                  go_wp2_with fail
                  refine ⟨?_⟩
                  refine ⟨by kernel_rfl, ?_⟩
                  go_wp2_with fail
                  go_roundg (gk - 1)
                  case measure => omega
                  case rel =>
                    obtain ⟨⟨col8, cv8, iv8, ov8, fv8, g8, H8⟩, k8, s8, lo8, bo8⟩ := H9.out
                    have hi := HS.out.2.2.2.2
                    have ks := (Fr.refl (fun c => c = lb) w8).setC lb i (.int .i64 x) (fun _ => rfl)
                    refine ⟨j + 1, ?_, by omega, _, _, _, _, _, _, H8.frame ks (fun c hc q => HL.out.2.1 (q ▸ hc)), (lo8.set i (.int .i64 x)).congr (fun q hq => ?_), bo8.frame ks (fun q => hne q.symm), ((HS.out.2.2.1.trans ((Fr.refl (fun _ => False) wr).drew) (fun _ _ q => q.elim)).trans k8 (fun _ _ q => .inl q)).setC lb i _ (fun _ => .inr rfl), by have := HS.out.2.2.2.1; simpa [this] using s8⟩
                    · congr 1; omega
                    · by_cases qi : q = i
                      · rw [qi, upd_same, if_pos (by omega), ← Hx.out, show x1 - 1 - i = j by omega]
                      · rw [upd_other _ _ _ _ qi]
                        by_cases q2 : x1 - j ≤ q ∧ q < x1
                        · rw [if_pos q2, if_pos (by omega)]
                        · rw [if_neg q2, if_neg (by omega)]
              · have hjx : x1 = j := by omega
                subst hjx
                have hloc := loc_new (V := V1) hlo (pi := x1) h3 Hp.out.1 (fun q hq => by
                  by_cases q2 : q < x1
                  · rw [if_pos (by omega), if_pos q2]
                  · rw [if_neg (by omega), if_neg q2])
                rw [Hp.out.2.1] at hloc
                obtain ⟨lc, hlc⟩ : ∃ lc, lc = (topO V).drop ((topO V).length - x1) ++ List.replicate (x3 - x1) 0 := ⟨_, rfl⟩
                rw [← hlc] at hloc
                have hll := hlo.lt
                have hbl := hbo.lt
                have HR : Hid _ := And.intro H7 (And.intro hloc (And.intro hbo (And.intro k7 (And.intro hs7 (And.intro hlc (And.intro hll hbl))))))
                have ii : (x1 : Int) - 1 - x1 = -1 := by omega
                rw [ii]
                clear H7 hlo hbo k7 hs7 hloc hlc hjg' hll hbl ii hj
                go_wp2_with fail
                go_loopg [14] (x4 - x2) (fun g' s14 wq => ∃ q : Nat, s14 = .int .i64 q ∧ q + g' = x4 ∧ x2 ≤ q ∧ ∃ P2 col cv iv ov fv gg, MR wq rn hm C I (dropO V1 x1) (nilsM (q - x2) M) col P2 cv iv ov fv gg ∧ KiAt wq (.slice (some ⟨lb, 0, none⟩) x3 x3) lc ∧ Blk wq bx 5 (fC ret (.slice (some ⟨lb, 0, none⟩) x3 x3) e x4) ∧ (∀ c, P2 c → P c ∨ wr.heap.size ≤ c) ∧ (∀ c, P c → P2 c) ∧ Fr P wr wq)
                case atStart => exact ⟨x2, rfl, by omega, Nat.le_refl _, P, _, _, _, _, _, _, by rw [Nat.sub_self]; exact HR.out.1, HR.out.2.1, HR.out.2.2.1, fun c q => .inl q, fun c q => q, Fr.refl _ _⟩
                case round =>
                  obtain ⟨q, rfl, hqg, hqs, P2, col8, cv8, iv8, ov8, fv8, g8, H8, hl8, hb8, hP8, hP8', k8⟩ := hrel
                  have hqg' : q + gk = x4 := hqg
                  clear hqg
                  have hlP : ¬ P2 lb := fun z => (hP8 lb z).elim HL.out.2.1 (fun z => by have := HR.out.2.2.2.2.2.2.1; omega)
                  have hbP : ¬ P2 bx := fun z => (hP8 bx z).elim HL.out.2.2.1 (fun z => by have := HR.out.2.2.2.2.2.2.2; omega)
                  have hlt := H8.rlt
                  by_cases hq : q < x4
                  · have hq' : (q : Int) < x4 := by omega
                    have c7 := H8.cl' (o := 7) (by omega)
                    simp only [rC] at c7
                    obtain ⟨OH, mm, hOP, K⟩ := H8.heapT
                    have hPu := pushMF mm
                    have HS : Hid _ := And.intro K (And.intro hl8 (And.intro hb8 (And.intro hP8 (And.intro hP8' (And.intro k8 (And.intro hOP (And.intro hlP hbP)))))))
                    clear K hl8 hb8 hP8 hP8' k8 hOP hlP hbP H8 mm
                    go_wp2_with fail
                    refine hPu.mono ?_
                    rintro v w9 ⟨rfl, mm', kk⟩
                    clear hPu
                    obtain ⟨K, hl8, hb8, hP8, hP8', k8, hOP, hlP, hbP⟩ := HS.out
                    have H9 := K w9 _ mm' kk
                    have s8 := k8.size
                    have Hk : Hid _ := And.intro H9 (And.intro (hl8.frame kk (fun b hb z => hlP (by rw [← isB_one hb]; exact hOP _ z))) (And.intro (hb8.frame kk (fun z => hbP (hOP _ z))) (And.intro (k8.trans kk (fun c hc z => (hP8 c (hOP c z)).elim id (fun z => absurd z (by omega)))) s8)))
                    clear K hl8 hb8 k8 hOP hlP hbP H9 mm' kk c7
                    go_wp2_with fail
                    go_roundg (gk - 1)
                    case measure => omega
                    case rel => exact ⟨q + 1, by simp, by omega, by omega, Gw P2 wr w9, _, _, _, _, _, _, by rw [show q + 1 - x2 = (q - x2) + 1 by omega, nils_succ]; exact Hk.out.1, Hk.out.2.1, Hk.out.2.2.1, fun c z => z.elim (hP8 c) (fun z => .inr (by have := Hk.out.2.2.2.2; have := z.1; omega)), fun c z => .inl (hP8' c z), Hk.out.2.2.2.1⟩
                  · have hqx : x4 = q := by omega
                    subst hqx
                    obtain ⟨V2, hV2⟩ : ∃ V2, V2 = dropO V1 x1 := ⟨_, rfl⟩
                    rw [← hV2] at H8
                    obtain ⟨fa, fc, efv, hfc⟩ : ∃ a c, fv8 = .slice a V2.fs.length c ∧ V2.fs.length ≤ c := by
                      rcases H8.fs with ⟨h1, h2⟩ | ⟨b, cap, h1, h2, _⟩
                      · exact ⟨none, 0, by rw [h1, h2], by omega⟩
                      · exact ⟨_, _, h1, h2⟩
                    have c5 := H8.cl' (o := 5) (by omega)
                    simp only [rC] at c5
                    rw [efv] at c5
                    have b0 := hb8.cell (o := 0) (by omega)
                    have b1 := hb8.cell (o := 1) (by omega)
                    have b2 := hb8.cell (o := 2) (by omega)
                    have b3 := hb8.cell (o := 3) (by omega)
                    have b4 := hb8.cell (o := 4) (by omega)
                    simp only [fC] at b0 b1 b2 b3 b4
                    have hbl := hb8.lt
                    have hz := H8.blk.frozen
                    have kA := ((Fr.refl (fun _ => False) wr).drew).alloc (.cells #[.int .i64 (ret : Nat), .slice (some ⟨lb, 0, none⟩) x3 x3, .slice none 0 0, .int .i64 (e : Nat), .int .i64 (x4 : Nat)] 101)
                    have HA := H8.same kA
                    have hFA : FA ((World.drew wr).alloc (.cells #[.int .i64 (ret : Nat), .slice (some ⟨lb, 0, none⟩) x3 x3, .slice none 0 0, .int .i64 (e : Nat), .int .i64 (x4 : Nat)] 101)) (.slice fa V2.fs.length fc) V2.fs.length g8 := by have := HA.fs; rw [efv] at this; exact this
                    have hxp : ∀ j u, ([.int .i64 (ret : Nat), .slice (some ⟨lb, 0, none⟩) x3 x3, .slice none 0 0, .int .i64 (e : Nat), .int .i64 (x4 : Nat)] : List Value)[j]? = some u → World.cell? ((World.drew wr).alloc (.cells #[.int .i64 (ret : Nat), .slice (some ⟨lb, 0, none⟩) x3 x3, .slice none 0 0, .int .i64 (e : Nat), .int .i64 (x4 : Nat)] 101)) ⟨wr.heap.size, j, none⟩ = some u := fun j u hj => by
                      have hB := Blk.new wr.drew #[.int .i64 (ret : Nat), .slice (some ⟨lb, 0, none⟩) x3 x3, .slice none 0 0, .int .i64 (e : Nat), .int .i64 (x4 : Nat)] 101 (fC ret (.slice (some ⟨lb, 0, none⟩) x3 x3) e x4) (fun o ho => by rcases lt5 (show o < 5 from ho) with rfl | rfl | rfl | rfl | rfl <;> rfl)
                      have hj5 : j < 5 := by have := (List.getElem?_eq_some_iff.1 hj).1; simpa using this
                      have hcell := hB.cell (o := j) (by simpa using hj5)
                      have : wr.drew.heap.size = wr.heap.size := rfl
                      rw [this] at hcell
                      rw [hcell]
                      rcases lt5 hj5 with rfl | rfl | rfl | rfl | rfl <;> exact hj
                    have hone : ∀ u ∈ ([.int .i64 (ret : Nat), .slice (some ⟨lb, 0, none⟩) x3 x3, .slice none 0 0, .int .i64 (e : Nat), .int .i64 (x4 : Nat)] : List Value), u.oneCell' = true := fun u hu => by
                      simp only [List.mem_cons, List.not_mem_nil, or_false] at hu
                      rcases hu with rfl | rfl | rfl | rfl | rfl <;> rfl
                    have hll8 : lb < wr.heap.size := hl8.bk ⟨_, _, rfl⟩
                    have hn100 : V2.fs.length ≤ 48 := by
                      have e1 : V2.fs.length = V1.fs.length := by rw [hV2, drop_len]
                      have := lenUsed V1.fs
                      have := Hp.out.2.2.2
                      omega
                    have HS : Hid _ := And.intro HA (And.intro kA (And.intro efv (And.intro hV2 (And.intro hl8 (And.intro hlP (And.intro hll8 (And.intro hP8 (And.intro hP8' (And.intro k8 H8)))))))))
                    clear HA kA efv hV2 hl8 hb8 hlP hbP hP8 hP8' k8 H8 hll8
                    go_wp2_with fail
                    refine wp_region_text (by kernel_rfl) (by kernel_rfl) ?_
                    go_wp2_with (
                      at_builtin
                      refine wpList_appendF (by rfl) _ _ (by rfl) (.slice fa V2.fs.length fc) V2.fs.length g8 [.int .i64 (ret : Nat), .slice (some ⟨lb, 0, none⟩) x3 x3, .slice none 0 0, .int .i64 (e : Nat), .int .i64 (x4 : Nat)] wr.heap.size 1 (by rfl) (by rfl) hFA (by rfl) hxp hone (by omega) ?_
                      intro v' w10 f' hA h0 hnv hb10 hform k10
                      have hS := HS.out
                      rw [← hS.2.2.1] at k10 hb10
                      have key := hS.1.pushFm (fm := newF V M x1 x2 x3 x4 ret) (lb := lb) (lv := .slice (some ⟨lb, 0, none⟩) x3 x3) k10 hA h0 (hnv 0 _ rfl) (hnv 1 _ rfl) (hnv 2 _ rfl) (by rw [hnv 3 _ rfl]; show _ = Value.int .i64 ((M.rt.length - x2 : Nat) : Int); rw [Hee.out.1, Hd.out.2.2.2.1]) (hnv 4 _ rfl) rfl (by show KiAt _ _ (newF V M x1 x2 x3 x4 ret).loc; have h1 := hS.2.2.2.2.1.frame hS.2.1 (fun _ _ z => z); rw [HR.out.2.2.2.2.2.1] at h1; exact h1) (fun b hb => isB_one hb) hS.2.2.2.2.2.1 (by have := hS.2.2.2.2.2.2.1; have := hS.2.1.size; omega) hb10
                      have hy : ¬ isB fv8 rn := fun z => by
                        have h1 := (hS.1.cfs rn z).1
                        rw [hS.1.crn.1] at h1
                        cases h1
                      have hbk := hS.1.blk.frame k10 hy
                      have e5 := hbk.cell (o := 5) (by omega)
                      have el := hbk.lt
                      have ez := hbk.frozen
                      simp only [rC] at e5
                      rw [hS.2.2.1] at e5
                      have kf : Fr P2 ((World.drew wr).alloc (.cells #[.int .i64 (ret : Nat), .slice (some ⟨lb, 0, none⟩) x3 x3, .slice none 0 0, .int .i64 (e : Nat), .int .i64 (x4 : Nat)] 101)) (w10.setCell ⟨rn, 5, none⟩ v') := (k10.mono (S' := P2) (fun c _ z => (hS.1.cfs c z).2)).setC rn 5 v' (fun _ => hS.1.crn.2)
                      obtain ⟨b', m', c', hvv⟩ := hform
                      subst hvv
                      have Hk : Hid _ := And.intro key kf
                      clear key kf hbk hS hA h0 hnv hb10 k10 hy)
                    refine ⟨by kernel_rfl, ?_⟩
                    generalize hw11 : World.setCell _ ⟨rn, 5, none⟩ _ = w11
                    have Hk2 := Hk.out
                    rw [hw11] at Hk2
                    obtain ⟨H11, k11⟩ := Hk2
                    clear Hk hw11 e5 el ez c5 b0 b1 b2 b3 b4 hz hlt hbl hFA hxp hone
                    have hnl : (newF V M x1 x2 x3 x4 ret).loc.length = x3 := by
                      have h1 := HR.out.2.2.2.2.2.1
                      have h2 := Hp.out.1
                      rw [Hp.out.2.1] at h2
                      simp [newF]
                      omega
                    have hus : usedF (newF V M x1 x2 x3 x4 ret :: V2.fs) + x1 = 3 + x3 + u := by
                      have h1 : usedF V2.fs + x1 = u := by
                        rw [HS.out.2.2.2.1, Hd.out.2.2.1, ← Hp.out.2.2.1]
                        rcases fs_cases V1 with z | ⟨f, r, z⟩
                        · have h2 := Hp.out.1
                          unfold topO at h2
                          rw [z] at h2
                          have h3 : x1 = 0 := by simpa using h2
                          rw [h3, drop_zero]; rfl
                        · exact drop_used z x1 (by have h2 := Hp.out.1; rw [topO_c z] at h2; exact h2)
                      show 3 + (newF V M x1 x2 x3 x4 ret).loc.length + 0 + usedF V2.fs + x1 = _
                      rw [hnl]
                      omega
                    have hm2 : V2.most = V.most := by rw [HS.out.2.2.2.1, drop_most, Hd.out.2.1]
                    have q1 := Hee.out.2.1
                    have hN := noteMF H11 (by show usedF (newF V M x1 x2 x3 x4 ret :: V2.fs) ≤ 48; omega) (by show V2.most ≤ 48; rw [hm2]; exact Hc.out.2.2.2.1)
                    have hlt := H11.rlt
                    have HT : Hid _ := And.intro k11 (And.intro hus (And.intro hm2 H11.lt))
                    clear H11 k11 hus hm2 hnl q1
                    go_wp2_with fail
                    refine hN.mono ?_
                    rintro v w12 ⟨rfl, H12, k12⟩
                    clear hN hlt
                    have c6 := H12.cl' (o := 6) (by omega)
                    simp only [rC] at c6
                    have hlt := H12.rlt
                    have hz := H12.blk.frozen
                    have HU : Hid _ := And.intro H12 k12
                    clear H12 k12
                    go_wp2_with fail
                    go_end0
                    obtain ⟨H12, k12⟩ := HU.out
                    obtain ⟨k11, hus, hm2, hlt11⟩ := HT.out
                    obtain ⟨HA, kA, efv, hV2, hl8, hlP, hll8, hP8, hP8', k8, H8⟩ := HS.out
                    have H13 := H12.s_pc (a + 5)
                    have k13 := k12.setC rn 6 (.int .i64 ((a + 5 : Nat) : Int)) (fun _ => rfl)
                    have hX : X = ({ ({ V2 with fs := newF V M x1 x2 x3 x4 ret :: V2.fs } : Vs) with most := max V2.most (usedF (newF V M x1 x2 x3 x4 ret :: V2.fs)), pc := a + 5 }, nilsM (x4 - x2) M) := by
                      rw [XE.out, hm2, show u - x1 + x3 + 3 = usedF (newF V M x1 x2 x3 x4 ret :: V2.fs) by omega, hV2, Hd.out.2.1, drop_with V (V.fuel - 1) x1]
                      rw [drop_eta V x1]
                    have hw0 : w.heap.size ≤ wc.heap.size := HL.out.2.2.2.2.size
                    have hs1 := HR.out.2.2.2.1.size
                    have hs8 := k8.size
                    have hsA := kA.size
                    have hs11 := k11.size
                    have hs13 := k13.size
                    have hlb : w.heap.size ≤ lb := by have h1 := HL.out.1.l1; have h2 := He.out.2.size; omega
                    refine ⟨rfl, ?_⟩
                    rw [hX]
                    refine ⟨H13.e.up (fun c hc => ?_) (fun c hc => ?_), ?_⟩
                    · have hcl := H13.lt c hc
                      rcases hc with (z | z) | z
                      · rcases hP8 c z with z | z
                        · exact .inl z
                        · exact .inr ⟨by omega, hcl⟩
                      · exact .inr ⟨by have := z.1; omega, hcl⟩
                      · exact .inr ⟨by omega, hcl⟩
                    · rcases hc with z | z
                      · have := Hc.out.1.lt c z
                        omega
                      · exact z.2
                    · have f1 : Fr P w wc := HL.out.2.2.2.2.mono (fun c _ z => by rw [z]; exact Hc.out.1.crn.2)
                      exact ((((f1.trans HR.out.2.2.2.1 (fun c hc z => z.elim id (fun z => by omega))).trans k8 (fun _ _ z => z)).trans kA (fun _ _ z => z.elim)).trans k11 (fun c hc z => (hP8 c z).elim id (fun z => by omega))).trans k13 (fun c _ z => by rw [z]; exact Hc.out.1.crn.2)
end
end Go.Proofs.Qxb6500281aGreat
