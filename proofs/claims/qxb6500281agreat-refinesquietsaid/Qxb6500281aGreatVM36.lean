/- The model machine: Run (written by genVM36.py). -/
import Derived.Test.Qxb6500281aGreatVM34
import Derived.Test.Qxb6500281aGreatVM35
import Derived.Test.Qxb6500281aGreatMake
import Derived.Test.Qxb6500281aGreatText7
namespace Go.Proofs.Qxb6500281aGreat
open Go Go.RowKit

section
variable {w w' w5 wB wr wl : World} {m rn hm k j : Nat} {C : List Nat} {I : List Int} {V V' Vx : Vs} {M M' : MS} {O P F : Nat → Prop} {cv iv ov fv xv yv : Value} {g : Nat → Value} {fuel s t : Int}
theorem Bo.mk' (k : Fr (fun _ => False) w5 wl) (hc : BAt wl cv C) (hi : KiAt wl iv I) (c1 : ∀ b, isB cv b → w5.heap.size ≤ b) (i1 : ∀ b, isB iv b → w5.heap.size ≤ b ∧ ¬ isB cv b) : Bo w5 hm C I fuel wl.heap.size cv iv (wl.alloc (.cells #[cv, iv, .int .i64 0, .int .i64 fuel, nilS, nilS, .int .i64 0, .pointer (some ⟨hm, 0, none⟩), .int .i64 0, .int .i64 0, .int .i64 0, .int .i64 0] 85)) := by
  have kA := (Fr.refl (fun _ => False) wl).alloc (.cells #[cv, iv, .int .i64 0, .int .i64 fuel, nilS, nilS, .int .i64 0, .pointer (some ⟨hm, 0, none⟩), .int .i64 0, .int .i64 0, .int .i64 0, .int .i64 0] 85)
  refine ⟨k.trans kA (fun _ _ h => h), hc.frame kA (fun _ _ h => h), hi.frame kA (fun _ _ h => h), Blk.new wl _ _ _ (fun o ho => ?_), fun b hb => ⟨c1 b hb, fun e => ?_⟩, fun b hb => ⟨(i1 b hb).1, fun e => ?_, (i1 b hb).2⟩, k.size⟩
  · have ho : o < 12 := ho
    rcases lt12 ho with rfl | rfl | rfl | rfl | rfl | rfl | rfl | rfl | rfl | rfl | rfl | rfl <;> rfl
  · have := hc.bk hb; omega
  · have := hi.bk hb; omega
set_option maxRecDepth 100000 in
set_option maxHeartbeats 4000000 in
theorem runXF (H : MX w m hm M s t O) (h24 : M.rt.length ≤ 24) (hx : BRd w xv C) (hy : KiAt w yv I) (hC : C.length ≤ 4096) (hI : I.length ≤ 128) (hcb : ∀ i, byteAt C i < 256) (hxd : ∀ b, isB xv b → ¬ O b) (hyd : ∀ b, isB yv b → ¬ O b) (hfu : fuel ≤ 9223372036854775807) (hR : RunR C I (X1 C fuel) k) :
    Calls Tryz.prog 27 #[.pointer (some ⟨m, 0, none⟩), xv, yv, .int .i64 fuel] w (RunM w m hm (itV C I k (X1 C fuel)) O) := by
  have k0 := (Fr.refl (fun _ => False) w).alloc box6
  have hB := box6_blk w
  have Ha := H.same k0
  have hxa := hx.frame k0 (fun _ _ h => h)
  have hya := hy.frame k0 (fun _ _ h => h)
  have hsz : (w.alloc box6).heap.size = w.heap.size + 1 := by simp [World.size_alloc]
  obtain ⟨xa, xc, exv, hxc⟩ := hx.sl
  obtain ⟨ya, yc, eyv, hyc⟩ := hy.sl
  rw [exv] at hxa hxd ⊢
  rw [eyv] at hya hyd ⊢
  have c0 := Ha.blk.cell (o := 0) (by omega)
  simp only [mC3] at c0
  have hlt := Ha.blk.lt
  have hD := depthMF Ha.mm
  have hP := popMF Ha.mm h24 (M.rt.length : Nat)
  have hpz : (popM M (M.rt.length : Nat)).2 = ⟨[], []⟩ := by unfold popM; rw [if_neg (by omega), if_pos rfl]
  rw [hpz] at hP
  generalize (popM M (M.rt.length : Nat)).1 = pe at hP
  obtain ⟨d, hd⟩ : ∃ d, d = M.rt.length := ⟨_, rfl⟩
  rw [← hd] at hD hP h24
  have HX : Hid _ := And.intro k0 (And.intro hB (And.intro hsz (And.intro Ha (And.intro hxa (And.intro hya H)))))
  have z1 : decide ((C.length : Int) > 4096) = false := decide_eq_false (by omega)
  have z2 : decide ((4096 : Int) < C.length) = false := decide_eq_false (by omega)
  have z3 : decide ((I.length : Int) > 128) = false := decide_eq_false (by omega)
  have z4 : decide ((128 : Int) < I.length) = false := decide_eq_false (by omega)
  clear hB Ha hxa hya hx hy exv eyv H k0 hsz hpz hd
  unfold box6 at c0 hlt hD hP
  go_enter Tryz.func27, Tryz.ntmps27
  go_wp2_with fail
  refine hD.mono ?_
  rintro v w1 ⟨rfl, rfl⟩
  clear hD
  go_wp2_with fail
  refine hP.mono ?_
  rintro v w5 ⟨rfl, M5, F5⟩
  clear hP c0 hlt z1 z2 z3 z4
  obtain ⟨k0, hB, hsz, Ha, hxa, hya, H⟩ := HX.out
  have hOl := H.lt.2
  have hx5 := hxa.frame F5 hxd
  have hy5 := hya.frame F5 hyd
  have hb5 : Blk w5 w.heap.size 6 z6 := hB.frame F5 (fun h => by have := hOl _ h; omega)
  have hm5 : Blk w5 m 3 (mC3 hm s t) := Ha.blk.frame F5 H.nm
  have s5 : w.heap.size + 1 ≤ w5.heap.size := by have h1 := F5.size; have h2 : (w.alloc box6).heap.size = w.heap.size + 1 := hsz; have h3 : (w.alloc box6).heap.size ≤ w5.heap.size := h1; omega
  have FO5 : Fr O w w5 := (k0.mono (fun _ _ h => h.elim)).trans F5 (fun _ _ h => h)
  have hO5 : ∀ c, Gw O (w.alloc box6) w5 c → O c ∨ w.heap.size + 1 ≤ c := fun c hc => hc.imp id (fun h => by have h1 : (w.alloc box6).heap.size ≤ c := h.1; omega)
  have hxF : ∀ w0, Fr (fun _ => False) w5 w0 → BRd w0 (.slice xa C.length xc) C := fun w0 k => hx5.frame k (fun _ _ h => h)
  have hyF : ∀ w0, Fr (fun _ => False) w5 w0 → KiAt w0 (.slice ya I.length yc) I := fun w0 k => hy5.frame k (fun _ _ h => h)
  have hmF : ∀ w0, Fr (fun _ => False) w5 w0 → w0.cell? ⟨m, 0, none⟩ = some (.pointer (some ⟨hm, 0, none⟩)) ∧ m < w0.heap.size := fun w0 k => ⟨by have := (hm5.frame k (fun h => h)).cell (o := 0) (by omega); simpa only [mC3] using this, (hm5.frame k (fun h => h)).lt⟩
  have HY : Hid _ := And.intro M5 (And.intro hb5 (And.intro hm5 (And.intro s5 (And.intro FO5 (And.intro hO5 (And.intro H hOl))))))
  clear HX M5 F5 hx5 hy5 hb5 hm5 s5 FO5 hO5 k0 hB hsz Ha hxa hya H hOl hxd hyd
  go_upto_region 7 with fail
  go_cut [10] from 12 (fun s10 wx => ∃ rn cv iv, s10 = .pointer (some ⟨rn, 0, none⟩) ∧ Bo w5 hm C I fuel rn cv iv wx)
  case first =>
    refine wp_region_tree (.run [0, 2, 4, 5, 6, 7] (.fork 1 (.fork 3 (.run [8, 9, 10, 11] .fin) 8 (.run [3] (.run [9, 10, 11] .fin))) 8 (.run [1] (.run [3] (.run [9, 10, 11] .fin))))) (by kernel_rfl) (by kernel_rfl) ?_
    simp only [wpTL, pick, List.filterMap_cons, List.filterMap_nil, List.getElem?_cons_zero, List.getElem?_cons_succ]
    obtain ⟨cm0, cml⟩ := hmF _ ((Fr.refl (fun _ => False) w5).drew)
    go_wp2_with fail
    refine ⟨⟨?_, ?_⟩⟩
    all_goals clear cm0 cml
    · refine wpList_appB0 (by rfl) _ _ (by rfl) nilS (.slice xa C.length xc) C (by rfl) (by rfl) (.inl ⟨rfl, rfl⟩) (hxF _ ((Fr.refl (fun _ => False) w5).drew)) (by omega) ?_
      intro cv wc hcB hbB fB
      have kB : Fr (fun _ => False) w5 wc := ((Fr.refl (fun _ => False) w5).drew).trans (fB.mono (S' := fun _ => False) (fun b _ h => (nil_noB b h))) (fun _ _ h => h)
      have sB := fB.size
      obtain ⟨ca, cc, ecv, _⟩ := hcB.sl
      subst ecv
      obtain ⟨cm0, cml⟩ := hmF _ kB
      go_wp2_with fail
      refine ⟨⟨?_, ?_⟩⟩
      · refine wpList_appI0 (by rfl) _ _ (by rfl) nilS (.slice ya I.length yc) I (by rfl) (by rfl) (.inl ⟨rfl, rfl⟩) (hyF _ kB) (by omega) ?_
        intro iv wi hiI hbI fI
        have kI : Fr (fun _ => False) w5 wi := kB.trans (fI.mono (S' := fun _ => False) (fun b _ h => (nil_noB b h))) (fun _ _ h => h)
        have sI := fI.size
        obtain ⟨ia, ic, eiv, _⟩ := hiI.sl
        subst eiv
        clear cm0 cml
        obtain ⟨cm0, cml⟩ := hmF _ kI
        go_wp2_with fail
        refine ⟨?_⟩
        go_wp2_with fail
        refine ⟨?_⟩
        refine ⟨by kernel_rfl, ?_⟩
        go_wp2_with fail
        go_meet
        exact ⟨_, _, _, rfl, Bo.mk' kI (hcB.frame (fI.mono (S' := fun _ => False) (fun b _ h => (nil_noB b h))) (fun _ _ h => h)) hiI (fun b hb => (hbB b hb).elim (fun h => h) (fun h => absurd h (nil_noB b))) (fun b hb => ⟨Nat.le_trans kB.size ((hbI b hb).elim (fun h => h) (fun h => absurd h (nil_noB b))), fun h => by have h1 := (hbI b hb).elim (fun h => h) (fun h => absurd h (nil_noB b)); have h2 := hcB.bk h; omega⟩)⟩
      · go_wp2_with fail
        refine ⟨?_⟩
        refine wpList_appI0 (by rfl) _ _ (by rfl) nilS (.slice ya I.length yc) I (by rfl) (by rfl) (.inl ⟨rfl, rfl⟩) (hyF _ kB) (by omega) ?_
        intro iv wi hiI hbI fI
        have kI : Fr (fun _ => False) w5 wi := kB.trans (fI.mono (S' := fun _ => False) (fun b _ h => (nil_noB b h))) (fun _ _ h => h)
        have sI := fI.size
        obtain ⟨ia, ic, eiv, _⟩ := hiI.sl
        subst eiv
        go_wp2_with fail
        refine ⟨?_⟩
        go_wp2_with fail
        refine ⟨?_⟩
        refine ⟨by kernel_rfl, ?_⟩
        go_wp2_with fail
        go_meet
        exact ⟨_, _, _, rfl, Bo.mk' kI (hcB.frame (fI.mono (S' := fun _ => False) (fun b _ h => (nil_noB b h))) (fun _ _ h => h)) hiI (fun b hb => (hbB b hb).elim (fun h => h) (fun h => absurd h (nil_noB b))) (fun b hb => ⟨Nat.le_trans kB.size ((hbI b hb).elim (fun h => h) (fun h => absurd h (nil_noB b))), fun h => by have h1 := (hbI b hb).elim (fun h => h) (fun h => absurd h (nil_noB b)); have h2 := hcB.bk h; omega⟩)⟩
    · obtain ⟨cm0, cml⟩ := hmF _ ((Fr.refl (fun _ => False) w5).drew)
      go_wp2_with fail
      refine ⟨?_⟩
      refine wpList_appB0 (by rfl) _ _ (by rfl) nilS (.slice xa C.length xc) C (by rfl) (by rfl) (.inl ⟨rfl, rfl⟩) (hxF _ ((Fr.refl (fun _ => False) w5).drew)) (by omega) ?_
      intro cv wc hcB hbB fB
      have kB : Fr (fun _ => False) w5 wc := ((Fr.refl (fun _ => False) w5).drew).trans (fB.mono (S' := fun _ => False) (fun b _ h => (nil_noB b h))) (fun _ _ h => h)
      have sB := fB.size
      obtain ⟨ca, cc, ecv, _⟩ := hcB.sl
      subst ecv
      go_wp2_with fail
      refine ⟨?_⟩
      refine wpList_appI0 (by rfl) _ _ (by rfl) nilS (.slice ya I.length yc) I (by rfl) (by rfl) (.inl ⟨rfl, rfl⟩) (hyF _ kB) (by omega) ?_
      intro iv wi hiI hbI fI
      have kI : Fr (fun _ => False) w5 wi := kB.trans (fI.mono (S' := fun _ => False) (fun b _ h => (nil_noB b h))) (fun _ _ h => h)
      have sI := fI.size
      obtain ⟨ia, ic, eiv, _⟩ := hiI.sl
      subst eiv
      go_wp2_with fail
      refine ⟨?_⟩
      go_wp2_with fail
      refine ⟨?_⟩
      refine ⟨by kernel_rfl, ?_⟩
      go_wp2_with fail
      go_meet
      exact ⟨_, _, _, rfl, Bo.mk' kI (hcB.frame (fI.mono (S' := fun _ => False) (fun b _ h => (nil_noB b h))) (fun _ _ h => h)) hiI (fun b hb => (hbB b hb).elim (fun h => h) (fun h => absurd h (nil_noB b))) (fun b hb => ⟨Nat.le_trans kB.size ((hbI b hb).elim (fun h => h) (fun h => absurd h (nil_noB b))), fun h => by have h1 := (hbI b hb).elim (fun h => h) (fun h => absurd h (nil_noB b)); have h2 := hcB.bk h; omega⟩)⟩
  case rest =>
    obtain ⟨rn, cv, iv, rfl, HB⟩ := hcut
    obtain ⟨M5, hb5, hm5, s5, FO5, hO5, H, hOl⟩ := HY.out
    obtain ⟨wB, hwB⟩ : ∃ wB, wB = wc := ⟨_, rfl⟩
    rw [← hwB] at HB
    subst hwB
    obtain ⟨P, hPe⟩ : ∃ P, P = Gw (Gw O (w.alloc box6) w5) w5 wB := ⟨_, rfl⟩
    have hP : ∀ c, P c → O c ∨ w.heap.size + 1 ≤ c := fun c hc => by
      rw [hPe] at hc
      exact hc.elim (hO5 c) (fun h => .inr (by have := h.1; omega))
    have E : ME wB rn hm C I (V0 fuel) ⟨[], []⟩ (Gw (Gw O (w.alloc box6) w5) w5 wB) := MR.new M5 HB.fr HB.code HB.inp HB.blk HB.c1 HB.i1 HB.r1 hC hcb hI
    rw [← hPe] at E
    obtain ⟨col, cv', iv', ov', fv', g, R⟩ := E
    have hCa := callMF R 0 0 hfu (Nat.zero_le _) (fun f r z => by cases z) (Nat.zero_le _) (Nat.zero_le _)
    rw [show ((0 : Nat) : Int) = 0 from rfl] at hCa
    have hlt := HB.blk.lt
    have hmB := hm5.frame HB.fr (fun h => h)
    have hbB := hb5.frame HB.fr (fun h => h)
    have FB : Fr O w wB := FO5.trans HB.fr (fun _ _ h => h.elim)
    have HZ : Hid _ := And.intro hmB (And.intro hbB (And.intro FB (And.intro hP (And.intro H hOl))))
    clear HY hxF hyF hmF HB M5 hb5 hm5 s5 FO5 hO5 H hOl hPe hP R hmB hbB FB
    go_wp2_with fail
    refine hCa.mono ?_
    rintro v w1 ⟨rfl, Z1⟩
    have J0 : Hid (RunJ wB w1 rn hm C I (X1 C fuel) k 0 (X1 C fuel).1 P) := ⟨Nat.zero_le _, SameE.refl _, Z1⟩
    clear hCa hlt Z1
    go_wp2_with fail
    go_loopg [] k (fun g wr => ∃ j Vx, RunJ wB wr rn hm C I (X1 C fuel) k j Vx P ∧ j + g = k)
    case atStart => exact ⟨0, _, J0.out, by omega⟩
    case round =>
      obtain ⟨j, Vx, J, hg⟩ := hrel
      have hg' : j + gk = k := hg
      clear hg J0
      have HJ : Hid _ := J
      by_cases hj : j < k
      · have G := hR.good j hj
        have eV : Vx = (itV C I j (X1 C fuel)).1 := J.same.2.2.2.2.2.2 G.en
        subst eV
        obtain ⟨⟨col, cv, iv, ov, fv, g, R⟩, kk⟩ := J.z
        have c8 := R.cl' (o := 8) (by omega)
        simp only [rC] at c8
        rw [G.en] at c8
        have hS := stepMF R G.ok G.ne G.fu
        have hlt := R.rlt
        clear R kk J G
        go_wp2_with fail
        refine hS.mono ?_
        rintro v w6 ⟨rfl, V2, hs2, z2⟩
        have HJ2 : Hid (RunJ wB w6 rn hm C I (X1 C fuel) k (j + 1) V2 P) := ⟨by omega, hs2, MZ.then HJ.out.z z2⟩
        clear hS c8 hlt hs2 z2
        go_wp2_with fail
        go_roundg (gk - 1)
        case measure => omega
        case rel => exact ⟨j + 1, V2, HJ2.out, by omega⟩
      · obtain rfl : j = k := by have := J.le; omega
        obtain ⟨se, sr, so, sf, ss, sm, _⟩ := J.same
        have hen : Vx.en ≠ 0 := by rw [se]; exact hR.en
        have hou : Vx.out.length ≤ 1024 := by rw [so]; exact hR.ok.ou
        obtain ⟨⟨col, cv, iv, ov, fv, g, R⟩, kk⟩ := J.z
        obtain ⟨hmB, hbB, FB, hP, H, hOl⟩ := HZ.out
        have sB := FB.size
        have sr' := kk.size
        have hQ : ∀ c, Gw P wB wr c → O c ∨ w.heap.size + 1 ≤ c := fun c hc => hc.elim (hP c) (fun h => .inr (by have := h.1; have := hbB.lt; omega))
        have hml := H.lt.1
        have hmP : ¬ P m := fun h => (hP m h).elim H.nm (fun h => by omega)
        have hbP : ¬ P w.heap.size := fun h => (hP _ h).elim (fun h => by have := hOl _ h; omega) (fun h => by omega)
        have hmr := hmB.frame kk hmP
        have hbr := hbB.frame kk hbP
        have hQm : ∀ c, Gw P wB wr c → ¬ c = m := fun c hc e => by
          subst e
          exact (hQ c hc).elim H.nm (fun h => by omega)
        have Fr' : Fr O w wr := FB.trans kk (fun c hc h => (hP c h).elim id (fun h => by omega))
        have hm1 := hmr.cell (o := 1) (by omega)
        have hm2 := hmr.cell (o := 2) (by omega)
        simp only [mC3] at hm1 hm2
        have hmz := hmr.frozen
        have hmlt := hmr.lt
        have c8 := R.cl' (o := 8) (by omega)
        have c10 := R.cl' (o := 10) (by omega)
        have c11 := R.cl' (o := 11) (by omega)
        simp only [rC] at c8 c10 c11
        have hlt := R.rlt
        have hrm : rn ≠ m := fun e => by
          have h1 := R.crn.2
          exact hQm _ h1 e
        have y1 : ((Vx.en) == 0) = false := by simpa using hen
        have HW : Hid _ := And.intro R (And.intro hmr (And.intro hbr (And.intro Fr' (And.intro hQ (And.intro hQm (And.intro hml (And.intro hOl H)))))))
        have HSE : Hid _ := And.intro se (And.intro sr (And.intro so (And.intro sf (And.intro ss sm))))
        generalize hve : Vx.en = ven at *
        generalize hvs : Vx.steps = vst at *
        generalize hvm : Vx.most = vmo at *
        have HV : Hid _ := And.intro hve (And.intro hvs hvm)
        clear R kk J HJ hmB hbB FB hP H hOl sB sr' hQ hml hmP hbP hmr hbr hQm Fr' se sr so sf ss sm hen hve hvs hvm
        go_upto_region 11 with fail
        clear y1 c8
        refine wp_region_text (by kernel_rfl) (by kernel_rfl) ?_
        go_wp2_with fail
        refine ⟨by kernel_rfl, ?_⟩
        generalize hwa : World.drew _ = wa
        obtain ⟨R, hmr, hbr, Fr', hQ, hQm, hml, hOl, H⟩ := HW.out
        have Fa : Fr (fun c => c = m) wr wa := by rw [← hwa]; exact (((Fr.refl (fun c => c = m) wr).setC m 1 _ (fun _ => rfl)).setC m 2 _ (fun _ => rfl)).drew
        have Ba : Blk wa m 3 (mC3 hm vst (vmo : Nat)) := by
          rw [← hwa]
          refine (((hmr.set 1 (.int .i64 vst)).set 2 (.int .i64 (vmo : Nat))).congr (fun o ho => ?_)).drew
          have : o = 0 ∨ o = 1 ∨ o = 2 := by omega
          rcases this with rfl | rfl | rfl <;> rfl
        have Ra := R.frame Fa hQm
        have Bx := hbr.frame Fa (fun e => by omega)
        have HA : Hid _ := And.intro Ra (And.intro Ba (And.intro Bx Fa))
        have e4 := Ra.cl' (o := 4) (by omega)
        have e8 := Ra.cl' (o := 8) (by omega)
        have e9 := Ra.cl' (o := 9) (by omega)
        have e3 := Ra.cl' (o := 3) (by omega)
        simp only [rC] at e4 e8 e9 e3
        have hlt := Ra.rlt
        obtain ⟨oa, oc, eov, hoc⟩ := Ra.out.sl
        have hoX := Ra.out
        clear hwa hm1 hm2 hmz hmlt c10 c11 R hmr hbr Ra Ba Bx Fa hrm
        by_cases ho : Vx.out = []
        · have HE : Hid _ := And.intro HA.out.1 (And.intro HA.out.2.1 (And.intro HA.out.2.2.1 (And.intro HA.out.2.2.2 (And.intro (show KiX wa nilS Vx.out from .inl ⟨rfl, ho⟩) (fun b (hb : isB nilS b) => (absurd hb (nil_noB b) : wr.heap.size ≤ b))))))
          rw [eov, ho, List.length_nil] at e4
          clear eov hoc hoX
          have f8 := (HE.out.1.cl' (o := 8) (by omega))
          have f9 := (HE.out.1.cl' (o := 9) (by omega))
          have f3 := (HE.out.1.cl' (o := 3) (by omega))
          simp only [rC] at f8 f9 f3
          have gl := HE.out.1.rlt
          have o0 := HE.out.2.2.1.cell (o := 0) (by omega)
          have o1 := HE.out.2.2.1.cell (o := 1) (by omega)
          have o2 := HE.out.2.2.1.cell (o := 2) (by omega)
          have o3 := HE.out.2.2.1.cell (o := 3) (by omega)
          have o4 := HE.out.2.2.1.cell (o := 4) (by omega)
          have o5 := HE.out.2.2.1.cell (o := 5) (by omega)
          simp only [z6] at o0 o1 o2 o3 o4 o5
          have oz := HE.out.2.2.1.frozen
          have ol := HE.out.2.2.1.lt
          generalize hvr : Vx.rt = vrt at *
          generalize hvf : Vx.fuel = vfu at *
          generalize hve : Vx.en = ven' at *
          have HV2 : Hid _ := And.intro hvr (And.intro hvf hve)
          have hrb : rn ≠ w.heap.size := fun e => by
            have h1 := HW.out.2.2.2.2.1 _ HW.out.1.crn.2
            have h2 := HW.out.2.2.2.2.2.2.2.1
            rw [e] at h1
            exact h1.elim (fun h => by have := h2 _ h; omega) (fun h => by omega)
          clear hvr hvf hve
          go_wp2_with fail
          refine wp_region_text (by kernel_rfl) (by kernel_rfl) ?_
          go_wp2_with fail
          refine ⟨by kernel_rfl, ?_⟩
          go_wp2_with fail
          have B2 := (HE.out.2.2.1.set6 (.int .i64 0) (.int .i64 0) (.int .i64 ven') (.int .i64 vrt) (nilS) (.int .i64 vfu)).drew
          have F2 := ((Fr.refl (fun b => b = w.heap.size) wa).set6 (b := w.heap.size) (fun _ => rfl) (.int .i64 0) (.int .i64 0) (.int .i64 ven') (.int .i64 vrt) (nilS) (.int .i64 vfu)).drew
          unfold set6 at B2 F2
          have q0 := B2.cell (o := 0) (by omega)
          have q1 := B2.cell (o := 1) (by omega)
          have q2 := B2.cell (o := 2) (by omega)
          have q3 := B2.cell (o := 3) (by omega)
          have q4 := B2.cell (o := 4) (by omega)
          have q5 := B2.cell (o := 5) (by omega)
          simp only [c6] at q0 q1 q2 q3 q4 q5
          refine bodyPost_ret (v := resV 0 0 ven' vrt (nilS) vfu) (by simp [results, Tryz.results27, go_sem, resV, q0, q1, q2, q3, q4, q5]) rfl ?_
          obtain ⟨RE, BE, _, FE, KE, oE⟩ := HE.out
          obtain ⟨OH, m1, m2⟩ := RE.hp
          obtain ⟨_, _, _, Fr', hQ, hQm, hml, hOl, H⟩ := HW.out
          have hbn : ∀ c, Gw P wB wr c → ¬ c = w.heap.size := fun c hc e => by
            have h1 := hQ c hc
            rw [e] at h1
            exact h1.elim (fun h => by have := hOl _ h; omega) (fun h => by omega)
          obtain ⟨se, sr, so, sf, ss, sm⟩ := HSE.out
          obtain ⟨v1, v2, v3⟩ := HV2.out
          obtain ⟨v4, v5, v6⟩ := HV.out
          refine ⟨nilS, OH, ?_, ?_, fun b hb => ⟨by have := (oE b hb); have := Fr'.size; omega, fun h => ?_⟩, ⟨?_, m1.frame F2 (fun c hc => hbn c (m2 c hc).2), fun h => hQm _ (m2 _ h).2 rfl⟩, fun c hc => (hQ c (m2 c hc).2).imp id (fun h => by omega), ?_⟩
          · rw [← se, ← sr, ← sf, v4]
          · rw [← so]
            exact KE.frame F2 (fun b hb e => by have := oE b hb; have := HW.out.2.2.1.lt; omega)
          · have h1 := (m2 b h).2
            have h2 := oE b hb
            have h3 := HW.out.1.lt b h1
            omega
          · rw [← ss, ← sm]
            exact BE.frame F2 (fun e => by omega)
          · exact ((Fr'.mono (S' := fun c => c = m ∨ O c) (fun _ _ h => .inr h)).trans FE (fun c hc h => .inl h)).trans F2 (fun c hc h => by omega)
        · obtain ⟨ob, ocap, fo, eo2, hcap, hBo, hfo⟩ : ∃ ob ocap fo, ov = .slice (some ⟨ob, 0, none⟩) Vx.out.length ocap ∧ Vx.out.length ≤ ocap ∧ Blk wa ob ocap fo ∧ ∀ i (h : i < Vx.out.length), fo i = .int .i64 Vx.out[i] := by
            rcases hoX with ⟨_, h⟩ | ⟨b, cap, f, h1, h2, h3, h4⟩
            · exact absurd h ho
            · exact ⟨b, cap, f, h1, h2, h3, h4⟩
          have hpos : 0 < Vx.out.length := List.length_pos_iff.2 ho
          have y2 : decide ((Vx.out.length : Int) > 0) = true := decide_eq_true (by omega)
          have y3 : decide ((0 : Int) < Vx.out.length) = true := decide_eq_true (by omega)
          have hfo1 : ∀ j, j < Vx.out.length * 1 → (fo (0 + j)).oneCell' = true := fun j hj => by rw [Nat.zero_add, hfo j (by omega)]; rfl
          have hobl := hBo.lt
          rw [eo2] at e4
          have HB0 : Hid _ := And.intro hBo (And.intro hfo (And.intro hcap eo2))
          clear eov hoc hoX hBo
          obtain ⟨nb, hnb⟩ : ∃ nb, nb = wa.heap.size := ⟨_, rfl⟩
          have Hnb : Hid _ := hnb
          have hnbo : ob ≠ nb := by omega
          clear hnb eo2
          go_upto_region 16 with (first
            | (refine wpList_makeB (w := wa) (by rfl) 35 _ _ (by rfl) 3 1 8 (.int .i64 0) Vx.out.length (by rfl) (by rfl) Tryz.underlying35 (by kernel_rfl) (by kernel_rfl) (by kernel_rfl) (by omega) (by omega) ?_
               intro w4 F4 s4 B4
               have R4 := HA.out.1.same F4
               have d4 := R4.cl' (o := 4) (by omega)
               simp only [rC] at d4
               rw [HB0.out.2.2.2] at d4
               have dl := R4.rlt
               have hBo4 := HB0.out.1.frame F4 (fun h => h)
               rw [← Hnb.out] at B4 ⊢
               have HB4 : Hid _ := And.intro F4 (And.intro B4 R4)
               clear e4 e8 e9 e3 hlt F4 R4)
            | (refine wpList_copyA (w := w4) (by rfl) _ _ 35 35 (by rfl) 3 1 nb 0 Vx.out.length Vx.out.length ob 0 Vx.out.length ocap (Vx.out.length * 1) ocap Vx.out.length _ fo (by rfl) (by rfl) Tryz.underlying35 (by kernel_rfl) (Nat.min_self _).symm B4 hBo4 (by omega) (by omega) hfo1 ?_
               intro w7 F7 B7
               have HB7 : Hid _ := And.intro F7 B7
               clear F7 B7))
          have hki : KiX w7 (.slice (some ⟨nb, 0, none⟩) Vx.out.length Vx.out.length) Vx.out := by
            have hb5 := HB7.out.2
            rw [Nat.mul_one] at hb5
            refine .inr ⟨nb, _, ho, rfl, hb5, fun i hi => ?_⟩
            rw [lay_in _ _ _ _ (by omega) (by rw [rowOf_length]; omega)]
            have := rowOf_get fo 0 (Vx.out.length) i hi
            rw [Nat.zero_add, hfo i hi] at this
            simp only [Nat.sub_zero]
            obtain ⟨_, h2⟩ := List.getElem?_eq_some_iff.1 this
            exact h2
          have hnw : wr.heap.size ≤ nb := by rw [Hnb.out]; exact HA.out.2.2.2.size
          have R7 := HB4.out.2.2.frame HB7.out.1 (fun c hc e => by have := HW.out.1.lt c hc; omega)
          have HE : Hid _ := And.intro R7 (And.intro ((HA.out.2.1.frame HB4.out.1 (fun h => h)).frame HB7.out.1 (fun e => by have := HA.out.2.1.lt; have := Hnb.out; omega)) (And.intro ((HA.out.2.2.1.frame HB4.out.1 (fun h => h)).frame HB7.out.1 (fun e => by have := HA.out.2.2.1.lt; have := Hnb.out; omega)) (And.intro ((HA.out.2.2.2.trans HB4.out.1 (fun _ _ h => h.elim)).trans HB7.out.1 (fun c hc h => by omega)) (And.intro hki (fun b (hb : isB (.slice (some ⟨nb, 0, none⟩) Vx.out.length Vx.out.length) b) => (show wr.heap.size ≤ b by rw [isB_one hb]; exact hnw))))))
          clear hki R7 HB0 hfo hfo1 dl d4 hBo4 B4
          have f8 := (HE.out.1.cl' (o := 8) (by omega))
          have f9 := (HE.out.1.cl' (o := 9) (by omega))
          have f3 := (HE.out.1.cl' (o := 3) (by omega))
          simp only [rC] at f8 f9 f3
          have gl := HE.out.1.rlt
          have o0 := HE.out.2.2.1.cell (o := 0) (by omega)
          have o1 := HE.out.2.2.1.cell (o := 1) (by omega)
          have o2 := HE.out.2.2.1.cell (o := 2) (by omega)
          have o3 := HE.out.2.2.1.cell (o := 3) (by omega)
          have o4 := HE.out.2.2.1.cell (o := 4) (by omega)
          have o5 := HE.out.2.2.1.cell (o := 5) (by omega)
          simp only [z6] at o0 o1 o2 o3 o4 o5
          have oz := HE.out.2.2.1.frozen
          have ol := HE.out.2.2.1.lt
          generalize hvr : Vx.rt = vrt at *
          generalize hvf : Vx.fuel = vfu at *
          generalize hve : Vx.en = ven' at *
          have HV2 : Hid _ := And.intro hvr (And.intro hvf hve)
          have hrb : rn ≠ w.heap.size := fun e => by
            have h1 := HW.out.2.2.2.2.1 _ HW.out.1.crn.2
            have h2 := HW.out.2.2.2.2.2.2.2.1
            rw [e] at h1
            exact h1.elim (fun h => by have := h2 _ h; omega) (fun h => by omega)
          clear hvr hvf hve
          go_wp2_with fail
          refine wp_region_text (by kernel_rfl) (by kernel_rfl) ?_
          go_wp2_with fail
          refine ⟨by kernel_rfl, ?_⟩
          go_wp2_with fail
          have B2 := (HE.out.2.2.1.set6 (.int .i64 0) (.int .i64 0) (.int .i64 ven') (.int .i64 vrt) (.slice (some ⟨nb, 0, none⟩) Vx.out.length Vx.out.length) (.int .i64 vfu)).drew
          have F2 := ((Fr.refl (fun b => b = w.heap.size) w7).set6 (b := w.heap.size) (fun _ => rfl) (.int .i64 0) (.int .i64 0) (.int .i64 ven') (.int .i64 vrt) (.slice (some ⟨nb, 0, none⟩) Vx.out.length Vx.out.length) (.int .i64 vfu)).drew
          unfold set6 at B2 F2
          have q0 := B2.cell (o := 0) (by omega)
          have q1 := B2.cell (o := 1) (by omega)
          have q2 := B2.cell (o := 2) (by omega)
          have q3 := B2.cell (o := 3) (by omega)
          have q4 := B2.cell (o := 4) (by omega)
          have q5 := B2.cell (o := 5) (by omega)
          simp only [c6] at q0 q1 q2 q3 q4 q5
          refine bodyPost_ret (v := resV 0 0 ven' vrt (.slice (some ⟨nb, 0, none⟩) Vx.out.length Vx.out.length) vfu) (by simp [results, Tryz.results27, go_sem, resV, q0, q1, q2, q3, q4, q5]) rfl ?_
          obtain ⟨RE, BE, _, FE, KE, oE⟩ := HE.out
          obtain ⟨OH, m1, m2⟩ := RE.hp
          obtain ⟨_, _, _, Fr', hQ, hQm, hml, hOl, H⟩ := HW.out
          have hbn : ∀ c, Gw P wB wr c → ¬ c = w.heap.size := fun c hc e => by
            have h1 := hQ c hc
            rw [e] at h1
            exact h1.elim (fun h => by have := hOl _ h; omega) (fun h => by omega)
          obtain ⟨se, sr, so, sf, ss, sm⟩ := HSE.out
          obtain ⟨v1, v2, v3⟩ := HV2.out
          obtain ⟨v4, v5, v6⟩ := HV.out
          refine ⟨.slice (some ⟨nb, 0, none⟩) Vx.out.length Vx.out.length, OH, ?_, ?_, fun b hb => ⟨by have := (oE b hb); have := Fr'.size; omega, fun h => ?_⟩, ⟨?_, m1.frame F2 (fun c hc => hbn c (m2 c hc).2), fun h => hQm _ (m2 _ h).2 rfl⟩, fun c hc => (hQ c (m2 c hc).2).imp id (fun h => by omega), ?_⟩
          · rw [← se, ← sr, ← sf, v4]
          · rw [← so]
            exact KE.frame F2 (fun b hb e => by have := oE b hb; have := HW.out.2.2.1.lt; omega)
          · have h1 := (m2 b h).2
            have h2 := oE b hb
            have h3 := HW.out.1.lt b h1
            omega
          · rw [← ss, ← sm]
            exact BE.frame F2 (fun e => by omega)
          · exact ((Fr'.mono (S' := fun c => c = m ∨ O c) (fun _ _ h => .inr h)).trans FE (fun c hc h => .inl h)).trans F2 (fun c hc h => by omega)
end
end Go.Proofs.Qxb6500281aGreat
