/- The law: SameRun (written by genVL5.py). -/
import Derived.Test.Qxb6500281aGreatVL4
import Derived.Test.Qxb6500281aGreatText7
namespace Go.Proofs.Qxb6500281aGreat
open Go Go.RowKit

theorem KiX.ex {w : World} {v : Value} {l : List Int} (h : KiX w v l) : ∃ a, v = .slice a l.length l.length ∧ (l.length = 0 → a = none) := by
  rcases h with ⟨rfl, rfl⟩ | ⟨b, f, h1, h2, _⟩
  · exact ⟨none, rfl, fun _ => rfl⟩
  · exact ⟨_, h2, fun h => absurd (List.eq_nil_of_length_eq_zero h) h1⟩
theorem sameRd {w : World} {v1 v2 : Value} {p : List Nat} (h1 : BRd w v1 p) (h2 : BRd w v2 p) (hl : p.length ≤ 100000) :
    Calls Tryz.prog 29 #[v1, v2] w fun v w' => v = .returned (.bool true) ∧ Fr (fun _ => False) w w' := by
  have hlb : (p.length : Int) ≤ 100000 := by omega
  by_cases h0 : p = []
  · obtain ⟨a1, k1, rfl, _⟩ := h1.sl
    obtain ⟨a2, k2, rfl, _⟩ := h2.sl
    subst h0
    simp only [List.length_nil]
    go_enter Tryz.func29, Tryz.ntmps29
    go_wp2_with fail
    refine wp_loop_rounds 1 ?_
    rw [rounds_succ]
    go_wp2_with fail
    go_ret
    exact ⟨rfl, Fr.refl _ _⟩
  · have hp0 : 0 < p.length := List.length_pos_iff.2 h0
    obtain ⟨b1, k1, rfl, hB1, hf1⟩ := h1.all hp0
    obtain ⟨b2, k2, rfl, hB2, hf2⟩ := h2.all hp0
    clear h0
    go_enter Tryz.func29, Tryz.ntmps29
    go_wp2_with fail
    go_loopg [5] p.length (fun g iv wr => ∃ i : Nat, iv = .int .i64 i ∧ i + g = p.length ∧ Fr (fun _ => False) w wr)
    case atStart => exact ⟨0, rfl, by omega, Fr.refl _ _⟩
    case round =>
      obtain ⟨i, rfl, hg, hfr⟩ := hrel
      have hg' : i + gk = p.length := hg
      clear hg
      have ib : (i : Int) ≤ 100000 := by omega
      by_cases hlt : i < p.length
      · have hI : decide ((i : Int) < (p.length : Nat)) = true := decide_eq_true (by omega)
        have a0 := hf1 i hlt
        rw [← hfr.cell (p := ⟨b1, i, none⟩) hB1 (fun h => h)] at a0
        have d0 := hf2 i hlt
        rw [← hfr.cell (p := ⟨b2, i, none⟩) hB2 (fun h => h)] at d0
        have l1 := Nat.lt_of_lt_of_le hB1 hfr.size
        have l2 := Nat.lt_of_lt_of_le hB2 hfr.size
        go_wp2_with fail
        go_quiet (fail)
        go_wp2_with fail
        go_roundg (gk - 1)
        case measure => omega
        case rel => exact ⟨i + 1, by simp, by omega, hfr.drewN _⟩
      · have hI : decide ((i : Int) < (p.length : Nat)) = false := decide_eq_false (by omega)
        go_wp2_with fail
        go_ret
        exact ⟨rfl, hfr⟩
/-- What SameRun leaves. -/
structure SRun (w w' : World) (A : Va) (m hm : Nat) (fuel : Int) (S : HS) (s : Int) (t : Nat) (cv iv : Value) (M : MS) (sm tm : Int) (O : Nat → Prop) (er : Int) (L : List Int) (v1 v2 v3 : Value) (n : Nat) (S' : HS) (s' : Int) (t' : Nat) (cv' iv' : Value) (M' : MS) (sm' tm' : Int) (O' : Nat → Prop) : Prop where
  R : RI w' A S' s' t' cv' iv'
  X : MX w' m hm M' sm' tm' O'
  mi : MInv M'
  h24 : M'.rt.length ≤ 24
  le : L.length ≤ 1024
  k1 : KiAt w' v1 L
  k2 : KiAt w' v2 L
  n3 : n ≤ 2000
  k3 : KiAt w' v3 (List.replicate n stmp)
  ap : ∃ nR nM, w.heap.size ≤ nR ∧ nR ≤ nM ∧ (∀ b, isB v3 b → w.heap.size ≤ b ∧ b < nR) ∧ (∀ b, isB v1 b → nR ≤ b ∧ b < nM ∧ ¬ isB cv' b ∧ ¬ isB iv' b) ∧ (∀ b, isB cv' b ∨ isB iv' b → (nR ≤ b ∧ b < nM) ∨ isB cv b ∨ isB iv b) ∧ (∀ b, isB v2 b → nM ≤ b ∧ ¬ O' b) ∧ (∀ c, O' c → nM ≤ c ∨ O c)
  fr : Fr (fun c => VQ A cv iv c ∨ c = m ∨ O c) w w'
  ok : er = 0 → Rel S' M' ∧ s' = sm' ∧ ((t' : Nat) : Int) = tm' ∧ (fuel ≤ 0 → s' = 0 ∧ t' = 0)
  no : er ≠ 0 → S' = S ∧ s' = s ∧ t' = t ∧ M' = M ∧ sm' = sm ∧ tm' = tm
/-- Behind both Runs. -/
structure Tl (w wj : World) (A : Va) (m hm : Nat) (fuel : Int) (S : HS) (s : Int) (t : Nat) (cv iv : Value) (M : MS) (sm tm : Int) (O : Nat → Prop) (er po en rt fu : Int) (L : List Int) (v1 v2 ix : Value) (C : List Nat) (I : List Int) (S' : HS) (s' : Int) (t' : Nat) (cv' iv' : Value) (M' : MS) (sm' tm' : Int) (O' : Nat → Prop) (b17 b18 : Nat) : Prop where
  R : RI wj A S' s' t' cv' iv'
  X : MX wj m hm M' sm' tm' O'
  mi : MInv M'
  h24 : M'.rt.length ≤ 24
  le : L.length ≤ 1024
  k1 : KiAt wj v1 L
  k2 : KiAt wj v2 L
  kx : KiAt wj ix I
  cx : CBy wj (w.heap.size + 2) C
  c10 : Blk wj w.heap.size 6 z6
  c11 : Blk wj (w.heap.size + 1) 6 z6
  c17 : Blk wj b17 6 (c6 (.int .i64 er) (.int .i64 po) (.int .i64 en) (.int .i64 rt) v1 (.int .i64 fu))
  c18 : Blk wj b18 6 (c6 (.int .i64 er) (.int .i64 po) (.int .i64 en) (.int .i64 rt) v2 (.int .i64 fu))
  n17 : w.heap.size + 2 < b17
  n18 : b17 < b18
  ap : ∃ nR nM, w.heap.size + 2 < nR ∧ nR ≤ nM ∧ (∀ b, isB ix b → w.heap.size + 2 < b ∧ b < nR) ∧ (∀ b, isB v1 b → nR ≤ b ∧ b < nM ∧ ¬ isB cv' b ∧ ¬ isB iv' b) ∧ (∀ b, isB cv' b ∨ isB iv' b → (nR ≤ b ∧ b < nM) ∨ isB cv b ∨ isB iv b) ∧ (∀ b, isB v2 b → nM ≤ b ∧ ¬ O' b) ∧ (∀ c, O' c → nM ≤ c ∨ O c) ∧ nR ≤ b17
  fr : Fr (fun c => VQ A cv iv c ∨ c = m ∨ O c) w wj
  foot : (er ≠ 0 → en = 0 ∧ rt = 0 ∧ L = [] ∧ fu = fuel) ∧ (er = 0 → fuel ≤ 0 → (en = 22 ∨ en = 24) ∧ rt = 0 ∧ L = [] ∧ fu = fuel)
  ok : er = 0 → Rel S' M' ∧ s' = sm' ∧ ((t' : Nat) : Int) = tm' ∧ (fuel ≤ 0 → s' = 0 ∧ t' = 0)
  no : er ≠ 0 → S' = S ∧ s' = s ∧ t' = t ∧ M' = M ∧ sm' = sm ∧ tm' = tm
theorem Tl.srun {w wj wq : World} {A : Va} {m hm : Nat} {fuel : Int} {S : HS} {s : Int} {t : Nat} {cv iv : Value} {M : MS} {sm tm : Int} {O : Nat → Prop} {er po en rt fu : Int} {L : List Int} {v1 v2 ix : Value} {C : List Nat} {I : List Int} {S' : HS} {s' : Int} {t' : Nat} {cv' iv' : Value} {M' : MS} {sm' tm' : Int} {O' : Nat → Prop} {b17 b18 n : Nat}
    (T : Tl w wj A m hm fuel S s t cv iv M sm tm O er po en rt fu L v1 v2 ix C I S' s' t' cv' iv' M' sm' tm' O' b17 b18) (f : Fr (fun c => c = w.heap.size + 2 ∨ isB ix c ∨ c = w.heap.size ∨ c = w.heap.size + 1) wj wq) (k3 : KiAt wq ix (List.replicate n stmp)) (hn : n ≤ 2000) (oldR : ∀ b, VQ A cv iv b → b < w.heap.size) (oldO : ∀ c, c = m ∨ O c → c < w.heap.size) :
    SRun w wq A m hm fuel S s t cv iv M sm tm O er L v1 v2 ix n S' s' t' cv' iv' M' sm' tm' O' := by
  obtain ⟨nR, nM, h1, h2, h3, h4, h5, h6, h7, _⟩ := T.ap
  have far : ∀ b, b < w.heap.size ∨ nR ≤ b → ¬ (b = w.heap.size + 2 ∨ isB ix b ∨ b = w.heap.size ∨ b = w.heap.size + 1) := fun b hb h => by
    rcases h with h | h | h | h
    · omega
    · have := h3 b h; omega
    · omega
    · omega
  refine ⟨T.R.frame f (fun b hb => far b ?_), T.X.frame f (far m (.inl (oldO m (.inl rfl)))) (fun c hc => far c ?_), T.mi, T.h24, T.le, T.k1.frame f (fun b hb => far b (.inr (h4 b hb).1)), T.k2.frame f (fun b hb => far b (.inr (by have := (h6 b hb).1; omega))), hn, k3, ⟨nR, nM, by omega, h2, fun b hb => ⟨by have := (h3 b hb).1; omega, (h3 b hb).2⟩, h4, h5, h6, h7⟩, T.fr.trans f (fun b hb h => absurd h (far b (.inl hb))), T.ok, T.no⟩
  · rcases hb with hb | hb
    · exact .inl (oldR b (.inl hb))
    · rcases h5 b hb with h | h
      · exact .inr h.1
      · exact .inl (oldR b (.inr h))
  · rcases h7 c hc with h | h
    · exact .inr (by omega)
    · exact .inl (oldO c (.inr h))
section
variable {w w' : World} {A : Va} {S S' : HS} {s s' : Int} {t t' : Nat} {cv iv cv' iv' xv yv : Value} {C : List Nat} {I L : List Int} {er po en rt fu fuel sm tm : Int} {M M' Mk : MS} {m hm : Nat} {O F : Nat → Prop}
set_option maxRecDepth 100000 in
set_option maxHeartbeats 4000000 in
theorem sameRunF (R : RI w A S s t cv iv) (X : MX w m hm M sm tm O) (mi : MInv M) (h24 : M.rt.length ≤ 24) (apart : ∀ c, VQ A cv iv c → c ≠ m ∧ ¬ O c) (txt : ByteArray) (htx : txt.size ≤ 4097) (hy : KiAt w yv I) (hI : I.length ≤ 129) (hyd : ∀ b, isB yv b → ¬ VQ A cv iv b ∧ b ≠ m ∧ ¬ O b) (hfu : fuel ≤ 9223372036854775807) :
    Calls Tryz.prog 12 #[.pointer (some ⟨A.m, 0, none⟩), .pointer (some ⟨m, 0, none⟩), .string txt, yv, .int .i64 fuel] w fun e w' => ∃ er po en rt fu L v1 v2 v3 n S' s' t' cv' iv' M' sm' tm' O', e = .returned (.tuple #[resV er po en rt v1 fu, resV er po en rt v2 fu, v3, .bool true]) ∧ SRun w w' A m hm fuel S s t cv iv M sm tm O er L v1 v2 v3 n S' s' t' cv' iv' M' sm' tm' O' := by
  obtain ⟨wa, hwa⟩ : ∃ wa, wa = w.alloc box6 := ⟨_, rfl⟩
  obtain ⟨wb, hwb⟩ : ∃ wb, wb = wa.alloc box6 := ⟨_, rfl⟩
  have ka : Fr (fun _ => False) w wa := by rw [hwa]; exact (Fr.refl _ _).alloc _
  have kb : Fr (fun _ => False) wa wb := by rw [hwb]; exact (Fr.refl _ _).alloc _
  have sa : wa.heap.size = w.heap.size + 1 := by rw [hwa]; simp [World.size_alloc]
  have sb : wb.heap.size = w.heap.size + 2 := by rw [hwb, World.size_alloc, sa]
  have b10 : Blk wb w.heap.size 6 z6 := by have := box6_blk w; rw [← hwa] at this; exact this.frame kb (fun h => h)
  have b11 : Blk wb (w.heap.size + 1) 6 z6 := by have := box6_blk wa; rw [← hwb, sa] at this; exact this
  have kab := ka.trans kb (fun _ _ h => h)
  obtain ⟨ya, yc, eyv, hyc⟩ := hy.sl
  have hyb := hy.frame kab (fun _ _ h => h)
  have hsz : txt.size = (bys txt).length := (bys_len txt).symm
  have HX : Hid _ := And.intro (R.same kab) (And.intro (X.same kab) (And.intro b10 (And.intro b11 (And.intro kab (And.intro sb (And.intro hyb (And.intro R (And.intro X hy))))))))
  have HR0 : Hid _ := R
  have HO : Hid (∀ c, c = m ∨ O c → c < w.heap.size) := fun c hc => hc.elim (fun e => by rw [e]; exact X.lt.1) (X.lt.2 c)
  have HD : Hid _ := And.intro apart (And.intro hyd (And.intro mi h24))
  rw [eyv]
  have HE : Hid _ := eyv
  have HSZ : Hid _ := hsz
  clear hsz
  clear b10 b11 ka kb kab sa sb hy hyb R X apart hyd mi h24 eyv
  have hwab : wb = (w.alloc (.cells #[.int .i64 0, .int .i64 0, .int .i64 0, .int .i64 0, .slice none 0 0, .int .i64 0] 38)).alloc (.cells #[.int .i64 0, .int .i64 0, .int .i64 0, .int .i64 0, .slice none 0 0, .int .i64 0] 38) := by rw [hwb, hwa]; rfl
  go_enter Tryz.func12, Tryz.ntmps12
  go_upto_region 1 with fail
  rw [← hwab]
  clear hwab hwa hwb
  go_upto_region 2 with (
    refine wpList_conv (by rfl) _ (by rfl) txt (by rfl) ?_
    intro capx wc kc sc CX hcx)
  obtain ⟨R, X, b10, b11, kab, sb, hyb, R0, X0, hy0⟩ := HX.out
  have hyc' : KiAt wc (.slice ya I.length yc) I := by have := hyb.frame kc (fun _ _ h => h); rw [HE.out] at this; exact this
  rw [sb] at CX sc ⊢
  have Rc := R.same kc
  have Xc := X.same kc
  have h10 := b10.frame kc (fun h => h)
  have h11 := b11.frame kc (fun h => h)
  have kwc := kab.trans kc (fun _ _ h => h)
  have HC : Hid _ := And.intro Rc (And.intro Xc (And.intro h10 (And.intro h11 (And.intro kwc (And.intro sc (And.intro CX (And.intro hyc' hcx)))))))
  have hq1 := copyInts hyc' (by omega)
  clear R X b10 b11 kab sb hyb R0 X0 hy0 hyc' Rc Xc h10 h11 kwc kc CX sc HX
  go_wp2_with fail
  refine hq1.mono ?_
  rintro v wd ⟨ix, rfl, kix, bix, kd⟩
  clear hq1
  obtain ⟨ia, eix, _⟩ := kix.ex
  obtain ⟨Rc, Xc, h10, h11, kwc, sc, CX, hyc', hcx⟩ := HC.out
  have hyd' := hyc'.frame kd (fun _ _ h => h)
  have HD1 : Hid _ := And.intro kix (And.intro bix (And.intro kd hyd'))
  have hq2 := copyInts hyd' (by omega)
  have Heix : Hid _ := eix
  clear Rc Xc h10 h11 kwc sc CX hyc' hcx kix bix kd hyd'
  rw [eix]
  clear eix
  go_wp2_with fail
  refine hq2.mono ?_
  rintro v we ⟨im, rfl, kim, bim, ke⟩
  clear hq2
  obtain ⟨ja, eim, _⟩ := kim.ex
  obtain ⟨Rc, Xc, h10, h11, kwc, sc, CX, hyc', hcx⟩ := HC.out
  obtain ⟨kix, bix, kd, hyd'⟩ := HD1.out
  have kce := kd.trans ke (fun _ _ h => h)
  have HZ5 : Hid (wd.heap.size ≤ we.heap.size) := ke.size
  have HKE : Hid (Fr (fun _ => False) wd we) := ke
  have kix' : Hid (∀ b, isB ix b → b < we.heap.size) := fun b hb => Nat.lt_of_lt_of_le (kix.at.bk hb) ke.size
  have Re := Rc.same kce
  have hs1 := kd.size
  have hs2 := ke.size
  have CXe := CX.frame kce (fun h => h)
  have kixe := kix.frame ke (fun _ _ h => h)
  have oldR : ∀ b, VQ A cv iv b → b < w.heap.size := fun b hb => by
    have h1 := Rc.lt hb
    obtain ⟨q1, q2, q3⟩ := HD.out
    have := (kwc.size)
    by_cases hlt : b < w.heap.size
    · exact hlt
    · exact absurd hb (fun hb => hlt (HR0.out.lt hb))
  have hqa := runA (fuel := fuel) Re (CXe.rd (by rw [bys_len]; exact hcx)) kixe.at (bys_lt txt) (fun b hb h => by have h1 := oldR b h; rw [isB_one hb] at h1; omega) (fun b hb h => by have h1 := oldR b h; have h2 := bix b hb; omega) hfu
  rw [bys_len, Heix.out] at hqa
  have HE1 : Hid _ := And.intro Re (And.intro kce (And.intro CXe (And.intro kixe (And.intro kim (And.intro bim oldR)))))
  have Heim : Hid _ := eim
  rw [eim]
  clear eim Rc Xc h10 h11 kwc sc CX hyc' hcx kix bix kd hyd' kce Re hs1 hs2 CXe kixe oldR kim bim ke
  go_wp2_with fail
  refine hqa.mono ?_
  rintro v wf ⟨er, po, en, rt, fu, L, v1, S1, s1, t1, cv1, iv1, Mk, rfl, RA⟩
  clear hqa
  obtain ⟨a1, ev1, hn1⟩ := RA.K.ex
  subst ev1
  obtain ⟨Re, kce, CXe, kixe, kim, bim, oldR⟩ := HE1.out
  have HRA : Hid _ := RA
  have HN1 : Hid _ := hn1
  clear RA hn1 Re kce CXe kixe kim bim oldR
  simp only [resV]
  go_upto_region 5 with fail
  generalize hwg : World.alloc wf _ = wg
  have Bg : Blk wg wf.heap.size 6 (c6 (.int .i64 er) (.int .i64 po) (.int .i64 en) (.int .i64 rt) (.slice a1 L.length L.length) (.int .i64 fu)) := by
    rw [← hwg]
    exact Blk.new wf _ _ _ (fun o ho => by rcases lt6 (show o < 6 from ho) with rfl | rfl | rfl | rfl | rfl | rfl <;> rfl)
  have kg : Fr (fun _ => False) wf wg := by
    rw [← hwg]
    exact (Fr.refl (fun _ => False) wf).alloc _
  have sg : wg.heap.size = wf.heap.size + 1 := by
    rw [← hwg]
    simp [World.size_alloc]
  clear hwg
  have HG : Hid _ := And.intro Bg (And.intro kg sg)
  clear Bg kg sg
  go_upto_region 6 with (
    refine wpList_conv (by rfl) _ (by rfl) txt (by rfl) ?_
    intro capm wh kh sh CM hcm)
  obtain ⟨Rc, Xc, h10, h11, kwc, sc, CX, hyc', hcx⟩ := HC.out
  obtain ⟨Re, kce, CXe, kixe, kim, bim, oldR⟩ := HE1.out
  obtain ⟨Bg, kg, sg⟩ := HG.out
  have RA := HRA.out
  obtain ⟨apart, hyd, mi, h24⟩ := HD.out
  have z1 := kwc.size
  have z2 := kce.size
  have z3 := RA.fr.size
  have z4 := HD1.out.2.2.1.size
  have z5 : wd.heap.size ≤ we.heap.size := HZ5.out
  have Xf := (Xc.same kce).frame RA.fr (fun h => (apart m h).1 rfl) (fun c hc h => (apart c h).2 hc)
  have kfh : Fr (fun _ => False) wf wh := kg.trans kh (fun _ _ h => h)
  have Xh := Xf.same kfh
  have imh := (kim.frame RA.fr (fun b hb h => by have h1 := oldR b h; have h2 := bim b hb; omega)).frame kfh (fun _ _ h => h)
  have hqb := runB Xh h24 (CM.rd (by rw [bys_len]; exact hcm)) imh.at (bys_lt txt) (fun b hb h => by have h1 := HO.out b (.inr h); rw [isB_one hb] at h1; omega) (fun b hb h => by have h1 := HO.out b (.inr h); have h2 := bim b hb; omega) hfu RA.ans
  rw [bys_len, Heim.out] at hqb
  have HH : Hid _ := And.intro kh (And.intro sh kfh)
  clear Rc Xc h10 h11 kwc sc CX hyc' hcx Re kce CXe kixe kim bim oldR Bg kg sg RA apart hyd mi h24 z1 z2 z3 z4 z5 Xf kfh Xh imh CM kh sh
  go_wp2_with fail
  refine hqb.mono ?_
  rintro v wi ⟨v2, M2, sm2, tm2, O2, rfl, RB⟩
  clear hqb
  obtain ⟨a2, ev2, hn2⟩ := RB.K.ex
  subst ev2
  have HRB : Hid _ := RB
  clear RB hn2
  simp only [resV]
  go_upto_region 6 with fail
  generalize hwj : World.alloc wi _ = wj
  have Bj : Blk wj wi.heap.size 6 (c6 (.int .i64 er) (.int .i64 po) (.int .i64 en) (.int .i64 rt) (.slice a2 L.length L.length) (.int .i64 fu)) := by
    rw [← hwj]
    exact Blk.new wi _ _ _ (fun o ho => by rcases lt6 (show o < 6 from ho) with rfl | rfl | rfl | rfl | rfl | rfl <;> rfl)
  have kj : Fr (fun _ => False) wi wj := by
    rw [← hwj]
    exact (Fr.refl (fun _ => False) wi).alloc _
  have sj : wj.heap.size = wi.heap.size + 1 := by
    rw [← hwj]
    simp [World.size_alloc]
  clear hwj
  -- everything at wj
  obtain ⟨Rc, Xc, h10, h11, kwc, sc, CX, hyc', hcx⟩ := HC.out
  obtain ⟨Re, kce, CXe, kixe, kim, bim, oldR⟩ := HE1.out
  obtain ⟨Bg, kg, sg⟩ := HG.out
  obtain ⟨kh, sh, kfh⟩ := HH.out
  have RA := HRA.out
  have RB := HRB.out
  obtain ⟨apart, hyd, mi, h24⟩ := HD.out
  have z1 := kwc.size
  have z2 := kce.size
  have z3 := RA.fr.size
  have z4 := HD1.out.2.2.1.size
  have z5 : wd.heap.size ≤ we.heap.size := HZ5.out
  have z6' := RB.fr.size
  have nO : ∀ b, w.heap.size ≤ b → ¬ (b = m ∨ O b) := fun b hb h => by have := HO.out b h; omega
  have nR : ∀ b, w.heap.size ≤ b → ¬ VQ A cv iv b := fun b hb h => by have := oldR b h; omega
  -- frames from we to wj for a new block of old time
  have up : ∀ {b n : Nat} {f : Nat → Value}, Blk we b n f → w.heap.size ≤ b → Blk wj b n f := fun h hb => (((h.frame RA.fr (nR _ hb)).frame kfh (fun h => h)).frame RB.fr (nO _ hb)).frame kj (fun h => h)
  have j10 := up (h10.frame kce (fun h => h)) (Nat.le_refl _)
  have j11 := up (h11.frame kce (fun h => h)) (by omega)
  have j17 := (((Bg.frame kh (fun h => h)).frame RB.fr (nO _ (by omega))).frame kj (fun h => h))
  have jCX : CBy wj (w.heap.size + 2) (bys txt) := (((CXe.frame RA.fr (nR _ (by omega))).frame kfh (fun h => h)).frame RB.fr (nO _ (by omega))).frame kj (fun h => h)
  have jix := (((kixe.frame RA.fr (fun b hb => nR b (by have := HD1.out.2.1 b hb; omega))).frame kfh (fun _ _ h => h)).frame RB.fr (fun b hb => nO b (by have := HD1.out.2.1 b hb; omega))).frame kj (fun _ _ h => h)
  have jy : KiAt wj (.slice ya I.length yc) I := ((((HD1.out.2.2.2.frame HKE.out (fun _ _ h => h)).frame RA.fr (fun b hb h => (hyd b (by rw [HE.out]; exact hb)).1 h)).frame kfh (fun _ _ h => h)).frame RB.fr (fun b hb h => (hyd b (by rw [HE.out]; exact hb)).2.1 (h.elim id (fun h => absurd h (hyd b (by rw [HE.out]; exact hb)).2.2)))).frame kj (fun _ _ h => h)
  have jR : RI wj A S1 s1 t1 cv1 iv1 := ((RA.R.same kfh).frame RB.fr (fun b hb h => by
    rcases hb with hb | hb | hb
    · exact h.elim (fun e => (apart b (.inl hb)).1 e) (fun e => (apart b (.inl hb)).2 e)
    · rcases RA.cb b hb with h1 | h1
      · exact nO b (by omega) h
      · exact h.elim (fun e => (apart b (.inr (.inl h1))).1 e) (fun e => (apart b (.inr (.inl h1))).2 e)
    · rcases RA.ib b hb with h1 | h1
      · exact nO b (by omega) h
      · exact h.elim (fun e => (apart b (.inr (.inr h1))).1 e) (fun e => (apart b (.inr (.inr h1))).2 e))).same kj
  have jX := RB.X.same kj
  have jv1 := ((RA.K.frame kfh (fun _ _ h => h)).frame RB.fr (fun b hb => nO b (by have := (RA.vb b hb).1; omega))).frame kj (fun _ _ h => h)
  have jv2 := RB.K.frame kj (fun _ _ h => h)
  have jfr : Fr (fun c => VQ A cv iv c ∨ c = m ∨ O c) w wj := ((((((kwc.trans kce (fun _ _ h => h)).mono (S' := fun c => VQ A cv iv c ∨ c = m ∨ O c) (fun _ _ h => h.elim)).trans RA.fr (fun _ _ h => .inl h)).trans kfh (fun _ _ h => h.elim)).trans RB.fr (fun _ _ h => .inr h)).trans kj (fun _ _ h => h.elim))
  have HJ : Hid (Tl w wj A m hm fuel S s t cv iv M sm tm O er po en rt fu L (.slice a1 L.length L.length) (.slice a2 L.length L.length) ix (bys txt) I S1 s1 t1 cv1 iv1 M2 sm2 tm2 O2 wf.heap.size wi.heap.size) := by
    refine ⟨jR, jX, ?_, ?_, RA.ans.le.1, jv1.at, jv2.at, jix.at, jCX, j10, j11, j17, Bj, ?_, ?_, ⟨we.heap.size, wh.heap.size, by omega, by omega, fun b hb => ?_, fun b hb => ?_, fun b hb => ?_, fun b hb => ?_, fun c hc => ?_, z3⟩, jfr, RA.ans.foot, fun h0 => ?_, fun h0 => ?_⟩
    · by_cases h0 : er = 0
      · rw [(RB.ok h0).1]; exact (RA.ans.le.2 h0).1
      · rw [(RB.no h0).1]; exact mi
    · by_cases h0 : er = 0
      · rw [(RB.ok h0).1]; exact (RA.ans.le.2 h0).2
      · rw [(RB.no h0).1]; exact h24
    · omega
    · omega
    · have := HD1.out.2.1 b hb
      have := kix'.out b hb
      omega
    · have h1 := RA.vb b hb
      have h2 := RA.K.at.bk hb
      exact ⟨h1.1, by omega, h1.2.1, h1.2.2⟩
    · rcases hb with hb | hb
      · rcases RA.cb b hb with h | h
        · exact .inl ⟨h, by have := RA.R.lt (.inr (.inl hb)); omega⟩
        · exact .inr (.inl h)
      · rcases RA.ib b hb with h | h
        · exact .inl ⟨h, by have := RA.R.lt (.inr (.inr hb)); omega⟩
        · exact .inr (.inr h)
    · exact RB.vb b hb
    · exact (RB.ob c hc).symm
    · obtain ⟨e1, e2, e3⟩ := RB.ok h0
      exact ⟨by rw [e1]; exact RA.ok h0, e2.symm, e3.symm, fun hf => RA.ans.idle h0 hf⟩
    · obtain ⟨e1, e2, e3⟩ := RB.no h0
      obtain ⟨e4, e5, e6⟩ := RA.no h0
      exact ⟨e4, e5, e6, e1, e2, e3⟩
  have HJY : Hid _ := And.intro jy (And.intro hyd apart)
  clear Rc Xc h10 h11 kwc sc CX hyc' Re kce CXe kixe kim bim oldR Bg kg sg kh sh kfh RA RB apart hyd mi h24 z1 z2 z3 z4 z5 z6' nO nR up j10 j11 j17 jCX jix jy jR jX jv1 jv2 jfr Bj kj sj HC HG HH HRA HRB HE1
  generalize wf.heap.size = b17 at *
  generalize wi.heap.size = b18 at *
  have pB := HJ.out.c17
  have p0 := pB.cell (o := 0) (by omega)
  have p1 := pB.cell (o := 1) (by omega)
  have p2 := pB.cell (o := 2) (by omega)
  have p3 := pB.cell (o := 3) (by omega)
  have p4 := pB.cell (o := 4) (by omega)
  have p5 := pB.cell (o := 5) (by omega)
  simp only [c6] at p0 p1 p2 p3 p4 p5
  have pl := pB.lt
  have qB := HJ.out.c18
  have q0 := qB.cell (o := 0) (by omega)
  have q1 := qB.cell (o := 1) (by omega)
  have q2 := qB.cell (o := 2) (by omega)
  have q3 := qB.cell (o := 3) (by omega)
  have q4 := qB.cell (o := 4) (by omega)
  have q5 := qB.cell (o := 5) (by omega)
  simp only [c6] at q0 q1 q2 q3 q4 q5
  have ql := qB.lt
  have hq6 := sameResultF (er := er) (po := po) (en := en) (rt := rt) (fu := fu) HJ.out.k1 HJ.out.k2 (by have := HJ.out.le; omega)
  simp only [resV] at hq6
  clear pB qB
  go_wp2_with fail
  refine hq6.mono ?_
  rintro v wk ⟨rfl, kk⟩
  clear hq6 p0 p1 p2 p3 p4 p5 pl q0 q1 q2 q3 q4 q5 ql
  have pB := HJ.out.c17.frame kk (fun h => h)
  have p0 := pB.cell (o := 0) (by omega)
  have p1 := pB.cell (o := 1) (by omega)
  have p2 := pB.cell (o := 2) (by omega)
  have p3 := pB.cell (o := 3) (by omega)
  have p4 := pB.cell (o := 4) (by omega)
  have p5 := pB.cell (o := 5) (by omega)
  simp only [c6] at p0 p1 p2 p3 p4 p5
  have pl := pB.lt
  have hq8 := footF (er := er) (po := po) (en := en) (rt := rt) (fu := fu) (fuel := fuel) (HJ.out.k1.frame kk (fun _ _ h => h)) HJ.out.foot
  simp only [resV] at hq8
  clear pB
  go_wp2_with fail
  refine hq8.mono ?_
  rintro v wl ⟨rfl, kl'⟩
  have kl := kk.trans kl' (fun _ _ h => h)
  clear hq8 p0 p1 p2 p3 p4 p5 pl kk kl'
  have pB := HJ.out.c17.frame kl (fun h => h)
  have p4 := pB.cell (o := 4) (by omega)
  simp only [c6] at p4
  have pl := pB.lt
  clear pB
  by_cases hL : L.length = 0
  · have ea := HN1.out hL
    rw [ea, hL] at p4
    clear hL ea
    go_upto_region 12 with fail
    clear p4 pl
    have HKL : Hid _ := kl
    clear kl
    go_upto_region 14 with (
      refine wpList_conv (by rfl) _ (by rfl) txt (by rfl) ?_
      intro capn wm km smm CN hcn)
    have kwm := HKL.out.trans km (fun _ _ h => h)
    have hq12 := sameRd ((HJ.out.cx.frame kwm (fun h => h)).rd (cap := capx) (by rw [bys_len]; exact hcx)) (CN.rd (cap := capn) (by rw [bys_len]; exact hcn)) (by rw [bys_len]; omega)
    rw [bys_len] at hq12
    have HKM : Hid _ := kwm
    clear km smm CN kwm HKL
    go_wp2_with fail
    refine hq12.mono ?_
    rintro v wn ⟨rfl, kn⟩
    clear hq12
    have kwn := HKM.out.trans kn (fun _ _ h => h)
    have hq14 := sameInts (HJ.out.kx.frame kwn (fun _ _ h => h)) (HJY.out.1.frame kwn (fun _ _ h => h)) (by omega)
    rw [Heix.out] at hq14
    have HKN : Hid _ := kwn
    clear kn kwn HKM
    go_wp2_with fail
    refine hq14.mono ?_
    rintro v wo ⟨rfl, ko⟩
    clear hq14
    have HKO : Hid _ := HKN.out.trans ko (fun _ _ h => h)
    clear ko HKN
    go_wp2_with fail
    go_loopg [19] txt.size (fun g iv wr => ∃ (i : Nat) (C' : List Nat), iv = .int .i64 i ∧ i + g = txt.size ∧ C'.length = txt.size ∧ CBy wr (w.heap.size + 2) C' ∧ Fr (fun c => c = w.heap.size + 2) wo wr)
    case atStart => exact ⟨0, bys txt, rfl, by omega, bys_len txt, HJ.out.cx.frame HKO.out (fun h => h), Fr.refl _ _⟩
    case round =>
      obtain ⟨i, C', rfl, hg, hl', hC', hfr⟩ := hrel
      have hg' : i + gk = txt.size := hg
      clear hg
      by_cases hlt : i < txt.size
      · have hI : decide ((i : Int) < (txt.size : Nat)) = true := decide_eq_true (by omega)
        have x1 := hC'.cell (i := i) (by omega)
        have x2 := hC'.frozen (i := i) (by omega)
        have x3 := hC'.lt
        have ib : (i : Int) < 4097 := by omega
        generalize byteAt C' i = old at x1
        have HN : Hid _ := And.intro (hC'.set (i := i) (x := 255)) (And.intro (hfr.setC (w.heap.size + 2) i (.int .u8 255) (fun _ => rfl)) hl')
        clear hC' hfr hl'
        go_wp2_with fail
        go_roundg (gk - 1)
        case measure => omega
        case rel => exact ⟨i + 1, C'.set i 255, by simp, by omega, by rw [List.length_set]; exact HN.out.2.2, HN.out.1, HN.out.2.1⟩
      · have hI : decide ((i : Int) < (txt.size : Nat)) = false := decide_eq_false (by omega)
        have kxr := (HJ.out.kx.frame HKO.out (fun _ _ h => h)).frame hfr (fun b hb e => by
          obtain ⟨nR, nM, h1, h2, h3, _⟩ := HJ.out.ap
          have := (h3 b hb).1
          omega)
        have hq20 := spoilF kxr (by omega)
        rw [Heix.out] at hq20
        have HFR : Hid _ := hfr
        clear kxr hC' hfr hl' hg'
        go_wp2_with fail
        refine hq20.mono ?_
        rintro v wp ⟨rfl, kp3, kp⟩
        clear hq20
        rw [← Heix.out] at kp3 kp
        have key : ∀ {b : Nat} {f : Nat → Value}, Blk wj b 6 f → b ≠ w.heap.size + 2 → ¬ isB ix b → Blk wp b 6 f := fun h h1 h2 => ((h.frame HKO.out (fun h => h)).frame HFR.out h1).frame kp h2
        obtain ⟨nR, nM, h1, h2, h3, _, _, _, _, r17⟩ := HJ.out.ap
        have n17 := HJ.out.n17
        have n18 := HJ.out.n18
        have nix : ∀ b, b ≤ w.heap.size + 2 ∨ nR ≤ b → ¬ isB ix b := fun b hb h => by have := h3 b h; omega
        have r18 : nR ≤ b18 := by omega
        have k10 := key HJ.out.c10 (by omega) (nix _ (by omega))
        have k11 := key HJ.out.c11 (by omega) (nix _ (by omega))
        have k17 := key HJ.out.c17 (by omega) (nix _ (by omega))
        have k18 := key HJ.out.c18 (by omega) (nix _ (by omega))
        have W1f := (Fr.refl (fun c => c = w.heap.size) wp).set6 (b := w.heap.size) (fun _ => rfl) (.int .i64 er) (.int .i64 po) (.int .i64 en) (.int .i64 rt) (.slice a1 L.length L.length) (.int .i64 fu)
        have B10a := k10.set6 (.int .i64 er) (.int .i64 po) (.int .i64 en) (.int .i64 rt) (.slice a1 L.length L.length) (.int .i64 fu)
        have B11a := k11.frame W1f (by omega)
        have W2f := (Fr.refl (fun c => c = w.heap.size + 1) (set6 wp w.heap.size (.int .i64 er) (.int .i64 po) (.int .i64 en) (.int .i64 rt) (.slice a1 L.length L.length) (.int .i64 fu))).set6 (b := w.heap.size + 1) (fun _ => rfl) (.int .i64 er) (.int .i64 po) (.int .i64 en) (.int .i64 rt) (.slice a2 L.length L.length) (.int .i64 fu)
        have B10 := (B10a.frame W2f (by omega)).drew
        have B11 := (B11a.set6 (.int .i64 er) (.int .i64 po) (.int .i64 en) (.int .i64 rt) (.slice a2 L.length L.length) (.int .i64 fu)).drew
        have kfin := ((kp3.frame W1f (fun b hb e => by have := (h3 b hb).1; omega)).frame W2f (fun b hb e => by have := (h3 b hb).1; omega)).frame ((Fr.refl (fun _ => False) _).drew) (fun _ _ h => h)
        have ffin : Fr (fun c => c = w.heap.size + 2 ∨ isB ix c ∨ c = w.heap.size ∨ c = w.heap.size + 1) wj _ := (((((HKO.out.mono (S' := fun c => c = w.heap.size + 2 ∨ isB ix c ∨ c = w.heap.size ∨ c = w.heap.size + 1) (fun _ _ h => h.elim)).trans HFR.out (fun _ _ h => .inl h)).trans kp (fun _ _ h => .inr (.inl h))).trans W1f (fun _ _ h => .inr (.inr (.inl h)))).trans W2f (fun _ _ h => .inr (.inr (.inr h)))).drew
        have SR := HJ.out.srun ffin kfin (by omega) (fun b hb => HR0.out.lt hb) HO.out
        rw [Heix.out] at SR
        have q0 := B10.cell (o := 0) (by omega)
        have q1 := B10.cell (o := 1) (by omega)
        have q2 := B10.cell (o := 2) (by omega)
        have q3 := B10.cell (o := 3) (by omega)
        have q4 := B10.cell (o := 4) (by omega)
        have q5 := B10.cell (o := 5) (by omega)
        simp only [c6] at q0 q1 q2 q3 q4 q5
        have r0 := B11.cell (o := 0) (by omega)
        have r1 := B11.cell (o := 1) (by omega)
        have r2 := B11.cell (o := 2) (by omega)
        have r3 := B11.cell (o := 3) (by omega)
        have r4 := B11.cell (o := 4) (by omega)
        have r5 := B11.cell (o := 5) (by omega)
        simp only [c6] at r0 r1 r2 r3 r4 r5
        unfold set6 at SR q0 q1 q2 q3 q4 q5 r0 r1 r2 r3 r4 r5
        have HSR : Hid _ := SR
        clear SR W1f W2f B10a B11a B10 B11 kfin ffin key nix kp kp3 h1 h2 h3
        have o0 := k10.cell (o := 0) (by omega)
        have o1 := k10.cell (o := 1) (by omega)
        have o2 := k10.cell (o := 2) (by omega)
        have o3 := k10.cell (o := 3) (by omega)
        have o4 := k10.cell (o := 4) (by omega)
        have o5 := k10.cell (o := 5) (by omega)
        simp only [z6] at o0 o1 o2 o3 o4 o5
        have ol := k10.lt
        have oz := k10.frozen
        have u0 := k11.cell (o := 0) (by omega)
        have u1 := k11.cell (o := 1) (by omega)
        have u2 := k11.cell (o := 2) (by omega)
        have u3 := k11.cell (o := 3) (by omega)
        have u4 := k11.cell (o := 4) (by omega)
        have u5 := k11.cell (o := 5) (by omega)
        simp only [z6] at u0 u1 u2 u3 u4 u5
        have ul := k11.lt
        have uz := k11.frozen
        have x0 := k17.cell (o := 0) (by omega)
        have x1 := k17.cell (o := 1) (by omega)
        have x2 := k17.cell (o := 2) (by omega)
        have x3 := k17.cell (o := 3) (by omega)
        have x4 := k17.cell (o := 4) (by omega)
        have x5 := k17.cell (o := 5) (by omega)
        simp only [c6] at x0 x1 x2 x3 x4 x5
        have xl := k17.lt
        have xz := k17.frozen
        have y0 := k18.cell (o := 0) (by omega)
        have y1 := k18.cell (o := 1) (by omega)
        have y2 := k18.cell (o := 2) (by omega)
        have y3 := k18.cell (o := 3) (by omega)
        have y4 := k18.cell (o := 4) (by omega)
        have y5 := k18.cell (o := 5) (by omega)
        simp only [c6] at y0 y1 y2 y3 y4 y5
        have yl := k18.lt
        have yz := k18.frozen
        clear k10 k11 k17 k18
        have m1 : b17 ≠ w.heap.size ∧ b17 ≠ w.heap.size + 1 ∧ b18 ≠ w.heap.size ∧ b18 ≠ w.heap.size + 1 := by omega
        obtain ⟨m1, m2, m3, m4⟩ := m1
        have HQ : Hid _ := And.intro (And.intro q0 (And.intro q1 (And.intro q2 (And.intro q3 (And.intro q4 q5))))) (And.intro r0 (And.intro r1 (And.intro r2 (And.intro r3 (And.intro r4 r5)))))
        clear q0 r0 q1 r1 q2 r2 q3 r3 q4 r4 q5 r5
        go_upto_region 21 with fail
        refine wp_region_tree (.run [2] (.fork 0 (.fork 1 (.run [3, 4, 5, 6] .fin) 3 (.run [1, 4, 5, 6] .fin)) 1 (.run [0, 3, 4, 5, 6] .fin))) (by kernel_rfl) (by kernel_rfl) ?_
        simp only [wpTL, pick, List.filterMap_cons, List.filterMap_nil, List.getElem?_cons_zero, List.getElem?_cons_succ]
        go_wp2_with fail
        refine ⟨⟨?_, ?_⟩⟩
        · go_wp2_with fail
          refine ⟨⟨?_, ?_⟩⟩
          · go_wp2_with fail
            refine ⟨?_⟩
            go_wp2_with fail
            refine ⟨?_⟩
            refine ⟨by kernel_rfl, ?_⟩
            go_wp2_with fail
            obtain ⟨⟨q0, q1, q2, q3, q4, q5⟩, r0, r1, r2, r3, r4, r5⟩ := HQ.out
            refine bodyPost_ret (v := .tuple #[resV er po en rt (.slice a1 L.length L.length) fu, resV er po en rt (.slice a2 L.length L.length) fu, .slice ia I.length I.length, .bool true]) (by simp [results, Tryz.results12, go_sem, resV, q0, q1, q2, q3, q4, q5, r0, r1, r2, r3, r4, r5]) rfl ?_
            exact ⟨er, po, en, rt, fu, L, _, _, _, I.length, S1, s1, t1, cv1, iv1, M2, sm2, tm2, O2, rfl, HSR.out⟩
          · go_wp2_with fail
            refine ⟨?_⟩
            go_wp2_with fail
            refine ⟨?_⟩
            refine ⟨by kernel_rfl, ?_⟩
            go_wp2_with fail
            obtain ⟨⟨q0, q1, q2, q3, q4, q5⟩, r0, r1, r2, r3, r4, r5⟩ := HQ.out
            refine bodyPost_ret (v := .tuple #[resV er po en rt (.slice a1 L.length L.length) fu, resV er po en rt (.slice a2 L.length L.length) fu, .slice ia I.length I.length, .bool true]) (by simp [results, Tryz.results12, go_sem, resV, q0, q1, q2, q3, q4, q5, r0, r1, r2, r3, r4, r5]) rfl ?_
            exact ⟨er, po, en, rt, fu, L, _, _, _, I.length, S1, s1, t1, cv1, iv1, M2, sm2, tm2, O2, rfl, HSR.out⟩
        · go_wp2_with fail
          refine ⟨?_⟩
          go_wp2_with fail
          refine ⟨?_⟩
          refine ⟨by kernel_rfl, ?_⟩
          go_wp2_with fail
          obtain ⟨⟨q0, q1, q2, q3, q4, q5⟩, r0, r1, r2, r3, r4, r5⟩ := HQ.out
          refine bodyPost_ret (v := .tuple #[resV er po en rt (.slice a1 L.length L.length) fu, resV er po en rt (.slice a2 L.length L.length) fu, .slice ia I.length I.length, .bool true]) (by simp [results, Tryz.results12, go_sem, resV, q0, q1, q2, q3, q4, q5, r0, r1, r2, r3, r4, r5]) rfl ?_
          exact ⟨er, po, en, rt, fu, L, _, _, _, I.length, S1, s1, t1, cv1, iv1, M2, sm2, tm2, O2, rfl, HSR.out⟩
  · have y0 : ((L.length : Int) != (L.length : Int)) = false := by simp
    have y1 : ((L.length : Int) == 0) = false := beq_eq_false_iff_ne.2 (by omega)
    have hL1 := HJ.out.le
    go_upto_region 12 with fail
    clear p4 pl
    have HKL : Hid _ := kl
    clear kl
    go_upto_region 14 with (
      refine wpList_conv (by rfl) _ (by rfl) txt (by rfl) ?_
      intro capn wm km smm CN hcn)
    have kwm := HKL.out.trans km (fun _ _ h => h)
    have hq12 := sameRd ((HJ.out.cx.frame kwm (fun h => h)).rd (cap := capx) (by rw [bys_len]; exact hcx)) (CN.rd (cap := capn) (by rw [bys_len]; exact hcn)) (by rw [bys_len]; omega)
    rw [bys_len] at hq12
    have HKM : Hid _ := kwm
    clear km smm CN kwm HKL
    go_wp2_with fail
    refine hq12.mono ?_
    rintro v wn ⟨rfl, kn⟩
    clear hq12
    have kwn := HKM.out.trans kn (fun _ _ h => h)
    have hq14 := sameInts (HJ.out.kx.frame kwn (fun _ _ h => h)) (HJY.out.1.frame kwn (fun _ _ h => h)) (by omega)
    rw [Heix.out] at hq14
    have HKN : Hid _ := kwn
    clear kn kwn HKM
    go_wp2_with fail
    refine hq14.mono ?_
    rintro v wo ⟨rfl, ko⟩
    clear hq14
    have HKO : Hid _ := HKN.out.trans ko (fun _ _ h => h)
    clear ko HKN
    go_wp2_with fail
    go_loopg [19] txt.size (fun g iv wr => ∃ (i : Nat) (C' : List Nat), iv = .int .i64 i ∧ i + g = txt.size ∧ C'.length = txt.size ∧ CBy wr (w.heap.size + 2) C' ∧ Fr (fun c => c = w.heap.size + 2) wo wr)
    case atStart => exact ⟨0, bys txt, rfl, by omega, bys_len txt, HJ.out.cx.frame HKO.out (fun h => h), Fr.refl _ _⟩
    case round =>
      obtain ⟨i, C', rfl, hg, hl', hC', hfr⟩ := hrel
      have hg' : i + gk = txt.size := hg
      clear hg
      by_cases hlt : i < txt.size
      · have hI : decide ((i : Int) < (txt.size : Nat)) = true := decide_eq_true (by omega)
        have x1 := hC'.cell (i := i) (by omega)
        have x2 := hC'.frozen (i := i) (by omega)
        have x3 := hC'.lt
        have ib : (i : Int) < 4097 := by omega
        generalize byteAt C' i = old at x1
        have HN : Hid _ := And.intro (hC'.set (i := i) (x := 255)) (And.intro (hfr.setC (w.heap.size + 2) i (.int .u8 255) (fun _ => rfl)) hl')
        clear hC' hfr hl'
        go_wp2_with fail
        go_roundg (gk - 1)
        case measure => omega
        case rel => exact ⟨i + 1, C'.set i 255, by simp, by omega, by rw [List.length_set]; exact HN.out.2.2, HN.out.1, HN.out.2.1⟩
      · have hI : decide ((i : Int) < (txt.size : Nat)) = false := decide_eq_false (by omega)
        have kxr := (HJ.out.kx.frame HKO.out (fun _ _ h => h)).frame hfr (fun b hb e => by
          obtain ⟨nR, nM, h1, h2, h3, _⟩ := HJ.out.ap
          have := (h3 b hb).1
          omega)
        have hq20 := spoilF kxr (by omega)
        rw [Heix.out] at hq20
        have HFR : Hid _ := hfr
        clear kxr hC' hfr hl' hg'
        go_wp2_with fail
        refine hq20.mono ?_
        rintro v wp ⟨rfl, kp3, kp⟩
        clear hq20
        rw [← Heix.out] at kp3 kp
        have key : ∀ {b : Nat} {f : Nat → Value}, Blk wj b 6 f → b ≠ w.heap.size + 2 → ¬ isB ix b → Blk wp b 6 f := fun h h1 h2 => ((h.frame HKO.out (fun h => h)).frame HFR.out h1).frame kp h2
        obtain ⟨nR, nM, h1, h2, h3, _, _, _, _, r17⟩ := HJ.out.ap
        have n17 := HJ.out.n17
        have n18 := HJ.out.n18
        have nix : ∀ b, b ≤ w.heap.size + 2 ∨ nR ≤ b → ¬ isB ix b := fun b hb h => by have := h3 b h; omega
        have r18 : nR ≤ b18 := by omega
        have k10 := key HJ.out.c10 (by omega) (nix _ (by omega))
        have k11 := key HJ.out.c11 (by omega) (nix _ (by omega))
        have k17 := key HJ.out.c17 (by omega) (nix _ (by omega))
        have k18 := key HJ.out.c18 (by omega) (nix _ (by omega))
        have W1f := (Fr.refl (fun c => c = w.heap.size) wp).set6 (b := w.heap.size) (fun _ => rfl) (.int .i64 er) (.int .i64 po) (.int .i64 en) (.int .i64 rt) (.slice a1 L.length L.length) (.int .i64 fu)
        have B10a := k10.set6 (.int .i64 er) (.int .i64 po) (.int .i64 en) (.int .i64 rt) (.slice a1 L.length L.length) (.int .i64 fu)
        have B11a := k11.frame W1f (by omega)
        have W2f := (Fr.refl (fun c => c = w.heap.size + 1) (set6 wp w.heap.size (.int .i64 er) (.int .i64 po) (.int .i64 en) (.int .i64 rt) (.slice a1 L.length L.length) (.int .i64 fu))).set6 (b := w.heap.size + 1) (fun _ => rfl) (.int .i64 er) (.int .i64 po) (.int .i64 en) (.int .i64 rt) (.slice a2 L.length L.length) (.int .i64 fu)
        have B10 := (B10a.frame W2f (by omega)).drew
        have B11 := (B11a.set6 (.int .i64 er) (.int .i64 po) (.int .i64 en) (.int .i64 rt) (.slice a2 L.length L.length) (.int .i64 fu)).drew
        have kfin := ((kp3.frame W1f (fun b hb e => by have := (h3 b hb).1; omega)).frame W2f (fun b hb e => by have := (h3 b hb).1; omega)).frame ((Fr.refl (fun _ => False) _).drew) (fun _ _ h => h)
        have ffin : Fr (fun c => c = w.heap.size + 2 ∨ isB ix c ∨ c = w.heap.size ∨ c = w.heap.size + 1) wj _ := (((((HKO.out.mono (S' := fun c => c = w.heap.size + 2 ∨ isB ix c ∨ c = w.heap.size ∨ c = w.heap.size + 1) (fun _ _ h => h.elim)).trans HFR.out (fun _ _ h => .inl h)).trans kp (fun _ _ h => .inr (.inl h))).trans W1f (fun _ _ h => .inr (.inr (.inl h)))).trans W2f (fun _ _ h => .inr (.inr (.inr h)))).drew
        have SR := HJ.out.srun ffin kfin (by omega) (fun b hb => HR0.out.lt hb) HO.out
        rw [Heix.out] at SR
        have q0 := B10.cell (o := 0) (by omega)
        have q1 := B10.cell (o := 1) (by omega)
        have q2 := B10.cell (o := 2) (by omega)
        have q3 := B10.cell (o := 3) (by omega)
        have q4 := B10.cell (o := 4) (by omega)
        have q5 := B10.cell (o := 5) (by omega)
        simp only [c6] at q0 q1 q2 q3 q4 q5
        have r0 := B11.cell (o := 0) (by omega)
        have r1 := B11.cell (o := 1) (by omega)
        have r2 := B11.cell (o := 2) (by omega)
        have r3 := B11.cell (o := 3) (by omega)
        have r4 := B11.cell (o := 4) (by omega)
        have r5 := B11.cell (o := 5) (by omega)
        simp only [c6] at r0 r1 r2 r3 r4 r5
        unfold set6 at SR q0 q1 q2 q3 q4 q5 r0 r1 r2 r3 r4 r5
        have HSR : Hid _ := SR
        clear SR W1f W2f B10a B11a B10 B11 kfin ffin key nix kp kp3 h1 h2 h3
        have o0 := k10.cell (o := 0) (by omega)
        have o1 := k10.cell (o := 1) (by omega)
        have o2 := k10.cell (o := 2) (by omega)
        have o3 := k10.cell (o := 3) (by omega)
        have o4 := k10.cell (o := 4) (by omega)
        have o5 := k10.cell (o := 5) (by omega)
        simp only [z6] at o0 o1 o2 o3 o4 o5
        have ol := k10.lt
        have oz := k10.frozen
        have u0 := k11.cell (o := 0) (by omega)
        have u1 := k11.cell (o := 1) (by omega)
        have u2 := k11.cell (o := 2) (by omega)
        have u3 := k11.cell (o := 3) (by omega)
        have u4 := k11.cell (o := 4) (by omega)
        have u5 := k11.cell (o := 5) (by omega)
        simp only [z6] at u0 u1 u2 u3 u4 u5
        have ul := k11.lt
        have uz := k11.frozen
        have x0 := k17.cell (o := 0) (by omega)
        have x1 := k17.cell (o := 1) (by omega)
        have x2 := k17.cell (o := 2) (by omega)
        have x3 := k17.cell (o := 3) (by omega)
        have x4 := k17.cell (o := 4) (by omega)
        have x5 := k17.cell (o := 5) (by omega)
        simp only [c6] at x0 x1 x2 x3 x4 x5
        have xl := k17.lt
        have xz := k17.frozen
        have y0 := k18.cell (o := 0) (by omega)
        have y1 := k18.cell (o := 1) (by omega)
        have y2 := k18.cell (o := 2) (by omega)
        have y3 := k18.cell (o := 3) (by omega)
        have y4 := k18.cell (o := 4) (by omega)
        have y5 := k18.cell (o := 5) (by omega)
        simp only [c6] at y0 y1 y2 y3 y4 y5
        have yl := k18.lt
        have yz := k18.frozen
        clear k10 k11 k17 k18
        have m1 : b17 ≠ w.heap.size ∧ b17 ≠ w.heap.size + 1 ∧ b18 ≠ w.heap.size ∧ b18 ≠ w.heap.size + 1 := by omega
        obtain ⟨m1, m2, m3, m4⟩ := m1
        have HQ : Hid _ := And.intro (And.intro q0 (And.intro q1 (And.intro q2 (And.intro q3 (And.intro q4 q5))))) (And.intro r0 (And.intro r1 (And.intro r2 (And.intro r3 (And.intro r4 r5)))))
        clear q0 r0 q1 r1 q2 r2 q3 r3 q4 r4 q5 r5
        go_upto_region 21 with fail
        refine wp_region_tree (.run [2] (.fork 0 (.fork 1 (.run [3, 4, 5, 6] .fin) 3 (.run [1, 4, 5, 6] .fin)) 1 (.run [0, 3, 4, 5, 6] .fin))) (by kernel_rfl) (by kernel_rfl) ?_
        simp only [wpTL, pick, List.filterMap_cons, List.filterMap_nil, List.getElem?_cons_zero, List.getElem?_cons_succ]
        go_wp2_with fail
        refine ⟨⟨?_, ?_⟩⟩
        · go_wp2_with fail
          refine ⟨⟨?_, ?_⟩⟩
          · go_wp2_with fail
            refine ⟨?_⟩
            go_wp2_with fail
            refine ⟨?_⟩
            refine ⟨by kernel_rfl, ?_⟩
            go_wp2_with fail
            obtain ⟨⟨q0, q1, q2, q3, q4, q5⟩, r0, r1, r2, r3, r4, r5⟩ := HQ.out
            refine bodyPost_ret (v := .tuple #[resV er po en rt (.slice a1 L.length L.length) fu, resV er po en rt (.slice a2 L.length L.length) fu, .slice ia I.length I.length, .bool true]) (by simp [results, Tryz.results12, go_sem, resV, q0, q1, q2, q3, q4, q5, r0, r1, r2, r3, r4, r5]) rfl ?_
            exact ⟨er, po, en, rt, fu, L, _, _, _, I.length, S1, s1, t1, cv1, iv1, M2, sm2, tm2, O2, rfl, HSR.out⟩
          · go_wp2_with fail
            refine ⟨?_⟩
            go_wp2_with fail
            refine ⟨?_⟩
            refine ⟨by kernel_rfl, ?_⟩
            go_wp2_with fail
            obtain ⟨⟨q0, q1, q2, q3, q4, q5⟩, r0, r1, r2, r3, r4, r5⟩ := HQ.out
            refine bodyPost_ret (v := .tuple #[resV er po en rt (.slice a1 L.length L.length) fu, resV er po en rt (.slice a2 L.length L.length) fu, .slice ia I.length I.length, .bool true]) (by simp [results, Tryz.results12, go_sem, resV, q0, q1, q2, q3, q4, q5, r0, r1, r2, r3, r4, r5]) rfl ?_
            exact ⟨er, po, en, rt, fu, L, _, _, _, I.length, S1, s1, t1, cv1, iv1, M2, sm2, tm2, O2, rfl, HSR.out⟩
        · go_wp2_with fail
          refine ⟨?_⟩
          go_wp2_with fail
          refine ⟨?_⟩
          refine ⟨by kernel_rfl, ?_⟩
          go_wp2_with fail
          obtain ⟨⟨q0, q1, q2, q3, q4, q5⟩, r0, r1, r2, r3, r4, r5⟩ := HQ.out
          refine bodyPost_ret (v := .tuple #[resV er po en rt (.slice a1 L.length L.length) fu, resV er po en rt (.slice a2 L.length L.length) fu, .slice ia I.length I.length, .bool true]) (by simp [results, Tryz.results12, go_sem, resV, q0, q1, q2, q3, q4, q5, r0, r1, r2, r3, r4, r5]) rfl ?_
          exact ⟨er, po, en, rt, fu, L, _, _, _, I.length, S1, s1, t1, cv1, iv1, M2, sm2, tm2, O2, rfl, HSR.out⟩
end
end Go.Proofs.Qxb6500281aGreat
