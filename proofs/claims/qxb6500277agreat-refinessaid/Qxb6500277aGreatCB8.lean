/- The real checker: Check of a text that the parser takes. -/
import Derived.Test.Qxb6500277aGreatCB8c
namespace Go.Proofs.Qxb6500277aGreat
open Go Go.RowKit

set_option maxRecDepth 100000 in
set_option maxHeartbeats 16000000 in
theorem check_ok {w : World} {c p : Nat} {Op : Nat → Prop} (R : RIx w p Op) (C : CI w c p) (hc : ¬ Op c) (src : ByteArray) (he : ∀ ns root err pos, Ans src ns root err pos → err = 0) : Calls Tryz.prog 45 #[.pointer (some ⟨c, 0, none⟩), .string src] w (CkR w c p Op src) := by
  obtain ⟨f, X, cur, s, er, po, b, rf⟩ := C
  have hlt := b.lt
  have c0 := b.cell (o := 0) (by omega)
  rw [rf.1.ps] at c0
  have k0 := (Fr.refl (fun _ => False) w).alloc box10
  have RA := R.frame k0 (fun _ _ h => h)
  have hP := parseR RA src
  have hB := box10_blk w
  have hOl : ∀ d, Op d → d < w.heap.size := by obtain ⟨_, _, _, _, H⟩ := R; exact H.lt
  have HB : Hid (Blk (w.alloc box10) w.heap.size 10 z10) := hB
  have Hk0 : Hid _ := k0
  have Hb : Hid (Blk w c 420 f ∧ f 0 = .pointer (some ⟨p, 0, none⟩)) := ⟨b, rf.1.ps⟩
  have hs1 : (w.alloc box10).heap.size = w.heap.size + 1 := by simp [World.size_alloc]
  have Hs1 : Hid _ := hs1
  clear hB k0 RA b hs1 rf
  go_enter Tryz.func45, Tryz.ntmps45
  go_wp2_with fail
  refine hP.mono ?_
  rintro e w1 ⟨O', v, ns, root, err, pos, rfl, R1, hO', F1, hv, hvb, hA, hl⟩
  obtain rfl := he _ _ _ _ hA
  obtain ⟨gs, hgs⟩ : ∃ gs, gs = treeOf src := ⟨_, rfl⟩
  obtain ⟨ok1, ok2, ok3, ok4, ok5⟩ := treeOf_spec hA
  rw [← hgs] at ok1 ok2 ok3
  have hKA0 : Ans src (flFs 0 (treeOf src)) (hdF 0 (treeOf src)) 0 0 := by rw [← hgs, ← ok2, ← ok3]; rw [ok4] at hA; exact hA
  subst ok4 ok3
  obtain ⟨a, ev⟩ := hv.sl
  have X2 := trC_blk w1 v (hdF 0 gs) 0 0
  have K2 := (Fr.refl (fun _ => False) w1).alloc (.cells #[v, .int .i64 (hdF 0 gs), .int .i64 0, .int .i64 0] 66)
  have hbx := HB.out.frame F1 (fun h => by have := hOl _ h; omega)
  have hw1 : w.heap.size < w1.heap.size := by have := hbx.lt; omega
  have hcb := (Hb.out.1.frame Hk0.out (fun h => h)).frame F1 hc
  have hcl := clearC (hcb.frame K2 (fun h => h)) Hb.out.2
  have HX : Hid _ := And.intro R1 (And.intro hO' (And.intro F1 (And.intro hv (And.intro hvb (And.intro hbx (And.intro K2 (And.intro hcb X2)))))))
  have HG : Hid _ := And.intro ok1 (And.intro ok2 (And.intro ok5 (And.intro hl (And.intro hKA0 hgs))))
  have hL : ns.length ≤ 200 := hl
  have hcn : c < w1.heap.size := by omega
  clear hP R1 hO' F1 hv hvb hA hl hbx K2 X2 ok1 ok2 ok5 hKA0 hcb hgs
  unfold treeV
  rw [ev] at hcl HX
  rw [ev]
  go_wp2_with fail
  refine hcl.mono ?_
  rintro e w2 ⟨rfl, ⟨f2, B2, RF2, e415, e416, e417⟩, F2⟩
  clear hcl
  obtain ⟨R1, hO', F1, hv, hvb, hbx, K2, hcb, X2⟩ := HX.out
  have X3 := X2.frame F2 (by omega)
  have x0 := X3.cell (o := 0) (by omega)
  simp only [trC] at x0
  have xl := X3.lt
  have d415 := B2.cell (o := 415) (by omega)
  have d416 := B2.cell (o := 416) (by omega)
  have d417 := B2.cell (o := 417) (by omega)
  have dz := B2.frozen
  have dl := B2.lt
  have txn : w1.heap.size ≠ c := by omega
  have BW := B2.set 415 (.slice a ns.length ns.length)
  have HBW : Hid (Blk _ c 420 _) := BW
  have HX3 : Hid (Blk w2 w1.heap.size 4 _) := X3
  have hw2 : w1.heap.size < w2.heap.size := xl
  obtain ⟨tb, htb⟩ : ∃ tb, w2.heap.size = tb := ⟨_, rfl⟩
  have FW := (Fr.refl (fun d => d = c) w2).setC c 415 (.slice a ns.length ns.length) (fun _ => rfl)
  have HFW : Hid _ := FW
  have Htb : Hid _ := htb
  clear R1 hO' F1 hv hvb hbx K2 hcb X2 BW FW B2 X3 xl
  rw [htb] at hw2 dl
  clear htb
  go_wp2_with (first
    | (refine wpList_makeB (w := w2.setCell ⟨c, 415, none⟩ (.slice a ns.length ns.length)) (by rfl) 36 _ _ (by rfl) 3 1 8 (.int .i64 0) ns.length (by rfl) (by rfl) Tryz.underlying36 (by kernel_rfl) (by kernel_rfl) (by kernel_rfl) (by omega) (by omega) ?_
       intro w3 F3 s3 B3
       have b3 := HBW.out.frame F3 (fun h => h)
       have X4 := (HX3.out.setOther ⟨c, 415, none⟩ (.slice a ns.length ns.length) txn).frame F3 (fun h => h)
       rw [show (w2.setCell ⟨c, 415, none⟩ (.slice a ns.length ns.length)).heap.size = tb by simp [Htb.out]] at s3 B3 ⊢
       have y416 := b3.cell (o := 416) (by omega)
       have y417 := b3.cell (o := 417) (by omega)
       have yz := b3.frozen
       have yl := b3.lt
       have x0' := X4.cell (o := 0) (by omega)
       simp only [trC] at x0'
       have xl' := X4.lt
       have Hb3 : Hid (Blk w3 c 420 _) := b3
       have HX4 : Hid (Blk w3 w1.heap.size 4 _) := X4
       have HB3 : Hid (Blk w3 tb _ _) := B3
       have HF3 : Hid _ := F3
       clear F3 b3 X4 B3)
    | (refine wpList_makeB (by rfl) 36 _ _ (by rfl) 3 1 8 (.int .i64 0) ns.length (by rfl) (by rfl) Tryz.underlying36 (by kernel_rfl) (by kernel_rfl) (by kernel_rfl) (by omega) (by omega) ?_
       intro w4 F4 s4 B4
       have b4 := (Hb3.out.set 416 (.slice (some ⟨tb, 0, none⟩) ns.length ns.length)).frame F4 (fun h => h)
       rw [show (w3.setCell ⟨c, 416, none⟩ (.slice (some ⟨tb, 0, none⟩) ns.length ns.length)).heap.size = tb + 1 by simp [s3]] at s4 B4 ⊢
       have v417 := b4.cell (o := 417) (by omega)
       have vz := b4.frozen
       have vl := b4.lt
       have Hb4 : Hid (Blk w4 c 420 _) := b4
       have HB4 : Hid (Blk w4 (tb + 1) _ _) := B4
       have HF4 : Hid _ := F4
       clear F4 b4 B4))
  generalize hw5 : w4.setCell _ _ = w5
  obtain ⟨R1, hO', F1, hv, hvb, hbx, K2, hcb, X2⟩ := HX.out
  have B5 : Blk w5 c 420 _ := hw5 ▸ Hb4.out.set 417 (.slice (some ⟨tb + 1, 0, none⟩) ns.length ns.length)
  have F24 : Fr (fun d => d = c) w2 w4 := (((HFW.out.trans HF3.out (fun _ _ h => h.elim)).setC c 416 (.slice (some ⟨tb, 0, none⟩) ns.length ns.length) (fun _ => rfl)).trans HF4.out (fun _ _ h => h.elim))
  have F25 : Fr (fun d => d = c) w2 w5 := hw5 ▸ F24.setC c 417 (.slice (some ⟨tb + 1, 0, none⟩) ns.length ns.length) (fun _ => rfl)
  have F15 : Fr (fun d => d = c) w1 w5 := ((K2.mono (S' := fun d => d = c) (fun _ _ h => h.elim)).trans F2 (fun _ _ h => h)).trans F25 (fun _ _ h => h)
  have htb := Htb.out
  have s5 : w5.heap.size = tb + 2 := by rw [← hw5]; simp [s4]
  have BT5 : Blk w5 tb ns.length (fun _ => .int .i64 0) := by
    have h1 := ((HB3.out.setOther ⟨c, 416, none⟩ (.slice (some ⟨tb, 0, none⟩) ns.length ns.length) (by show tb ≠ c; omega)).frame HF4.out (fun h => h)).setOther ⟨c, 417, none⟩ (.slice (some ⟨tb + 1, 0, none⟩) ns.length ns.length) (by show tb ≠ c; omega)
    rw [Nat.mul_one, hw5] at h1
    exact h1.congr fun o ho => by show (Value.int .i64 0).cells[o % 1]! = _; rw [Nat.mod_one]; rfl
  have BR5 : Blk w5 (tb + 1) ns.length (fun _ => .int .i64 0) := by
    have h1 := HB4.out.setOther ⟨c, 417, none⟩ (.slice (some ⟨tb + 1, 0, none⟩) ns.length ns.length) (by show tb + 1 ≠ c; omega)
    rw [Nat.mul_one, hw5] at h1
    exact h1.congr fun o ho => by show (Value.int .i64 0).cells[o % 1]! = _; rw [Nat.mod_one]; rfl
  have X5 : Blk w5 w1.heap.size 4 (trC (.slice a ns.length ns.length) (hdF 0 gs) 0 0) := HX3.out.frame F25 txn
  have hcO : ¬ O' c := fun h => by
    rcases hO' c h with h | h
    · exact hc h
    · have := Hs1.out; omega
  have R5 : RIx w5 p O' := R1.frame F15 (fun d hd e => hcO (e ▸ hd))
  have B10 : Blk w5 w.heap.size 10 z10 := hbx.frame F15 (by omega)
  have hOl' : ∀ d, O' d → d < w1.heap.size := by obtain ⟨_, _, _, _, H⟩ := R1; exact H.lt
  obtain ⟨nb, hnb1, hnb2, hnb3, hnb4⟩ : ∃ nb, (ns ≠ [] → a = some ⟨nb, 0, none⟩ ∧ ∃ g, Blk w5 nb (ns.length * 8) g ∧ NdP g ns) ∧ w.heap.size < nb ∧ nb ≤ w1.heap.size ∧ ¬ O' nb := by
    rcases hv with ⟨h1, h2⟩ | ⟨b, g, h1, h2, h3, _⟩
    · exact ⟨w1.heap.size, fun h => absurd h2 h, hw1, Nat.le_refl _, fun h => by have := hOl' _ h; omega⟩
    · obtain ⟨q1, q2⟩ := hvb b (by rw [h1]; exact ⟨_, _, rfl⟩)
      have hlb := h2.lt
      have := Hs1.out
      injection h1 with h1 _ _
      exact ⟨b, fun _ => ⟨h1, g, h2.frame F15 (by omega), h3⟩, by omega, by omega, q2⟩
  have HS5 : Hid _ := And.intro R5 (And.intro B10 (And.intro X5 (And.intro B5 (And.intro hnb1 (And.intro hOl' (And.intro hcO (And.intro F15 hv)))))))
  have HRF : Hid (∀ ty rf, RF f2 p ⟨[], []⟩ 0 (blank ty rf) 0 0) := RF2
  have hne : tb ≠ c ∧ tb + 1 ≠ c := ⟨by omega, by omega⟩
  have hcell : w5.cell? ⟨w1.heap.size, 0, none⟩ = some (.slice a ns.length ns.length) := X5.cell (o := 0) (by omega)
  have hHid : Hid (w1.heap.size < tb) := hw2
  clear R1 hO' F1 hv hvb hbx K2 hcb X2 B5 F24 F25 F15 X5 R5 B10 hw5 HBW HX3 HFW Htb Hb3 HX4 HB3 HF3 Hb4 HB4 HF4 RF2 e415 e416 e417 F2 x0 d415 d416 d417 dz dl y416 y417 yz yl x0' xl' v417 vz vl s3 s4
  go_loopg [6] ns.length (fun g iv wr => ∃ (i : Nat) (gt gr : Nat → Value), iv = .int .i64 i ∧ i + g = ns.length ∧ Blk wr tb ns.length gt ∧ Blk wr (tb + 1) ns.length gr ∧ (∀ o, o < i → gt o = .int .i64 (-1) ∧ gr o = .int .i64 (-1)) ∧ Fr (fun d => d = tb ∨ d = tb + 1) w5 wr)
  case atStart => exact ⟨0, _, _, rfl, by omega, BT5, BR5, fun o ho => by omega, Fr.refl _ _⟩
  case round =>
    obtain ⟨i, gt, gr, rfl, hig, BT, BR, hfill, F⟩ := hrel
    have Hig : Hid _ := hig
    obtain ⟨R5, B10, X5, B5, hnb1, hOl', hcO, F15, hv⟩ := HS5.out
    have x0 := (X5.frame F (by omega)).cell (o := 0) (by omega)
    simp only [trC] at x0
    have xl := (X5.frame F (by omega)).lt
    have Bc := B5.frame F (by omega)
    have y416 := Bc.cell (o := 416) (by omega)
    rw [upd_other _ _ _ _ (by omega), upd_same] at y416
    have y417 := Bc.cell (o := 417) (by omega)
    rw [upd_same] at y417
    have yl := Bc.lt
    have tl := BT.lt
    have rl := BR.lt
    have tz := BT.frozen
    have rz := BR.frozen
    by_cases hi : i < ns.length
    · have z0 : decide ((i : Int) < ((ns.length : Nat) : Int)) = true := decide_eq_true (by omega)
      have t0 := BT.cell (o := i) hi
      have r0 := BR.cell (o := i) hi
      have hii : (i : Int) < 200 := by omega
      have hne2 : tb ≠ tb + 1 := by omega
      have HN : Hid _ := And.intro ((BT.set i (.int .i64 (-1))).setOther ⟨tb + 1, i, none⟩ (.int .i64 (-1)) (by show tb ≠ tb + 1; omega)) (And.intro ((BR.setOther ⟨tb, i, none⟩ (.int .i64 (-1)) (by show tb + 1 ≠ tb; omega)).set i (.int .i64 (-1))) (And.intro hfill ((F.setC tb i (.int .i64 (-1)) (fun _ => .inl rfl)).setC (tb + 1) i (.int .i64 (-1)) (fun _ => .inr rfl))))
      clear R5 B10 X5 B5 hnb1 hOl' hcO F15 hv Bc BT BR hfill F hig
      go_wp2_with fail
      go_roundg (gk - 1)
      case measure => have := Hig.out; omega
      case rel =>
        obtain ⟨n1, n2, n3, n4⟩ := HN.out
        refine ⟨i + 1, _, _, by simp, by have := Hig.out; omega, n1, n2, fun o ho => ?_, n4⟩
        by_cases e : o = i
        · subst e; exact ⟨upd_same _ _ _, upd_same _ _ _⟩
        · exact ⟨by rw [upd_other _ _ _ _ e]; exact (n3 o (by omega)).1, by rw [upd_other _ _ _ _ e]; exact (n3 o (by omega)).2⟩
    · have z0 : decide ((i : Int) < ((ns.length : Nat) : Int)) = false := decide_eq_false (by omega)
      have z1 : decide (i < ns.length) = false := decide_eq_false hi
      have BTf : Blk wr tb ns.length (iL (List.replicate ns.length (-1))) := BT.congr fun o ho => by rw [(hfill o (by omega)).1]; simp [iL, List.getD_eq_getElem?_getD, ho]
      have BRf : Blk wr (tb + 1) ns.length (iL (List.replicate ns.length (-1))) := BR.congr fun o ho => by rw [(hfill o (by omega)).2]; simp [iL, List.getD_eq_getElem?_getD, ho]
      have FA := (Fr.refl (fun _ => False) wr).alloc box10
      obtain ⟨ox, hox⟩ : ∃ ox, wr.heap.size = ox := ⟨_, rfl⟩
      have HO : Hid (Blk (wr.alloc box10) ox 10 z10) := by rw [← hox]; exact box10_blk wr
      obtain ⟨ok1, ok2, ok5, hl, hKA0, hgs⟩ := HG.out
      rw [hox] at xl yl
      have hsz5 : tb + 2 ≤ ox := by have := F.size; omega
      have Hnb : Hid (ns ≠ [] → a = some ⟨nb, 0, none⟩) := fun hn => (hnb1 hn).1
      have B6 := (B5.frame F (by omega)).frame FA (fun h => h)
      have hnb6 : ns ≠ [] → a = some ⟨nb, 0, none⟩ ∧ ∃ g, Blk (wr.alloc box10) nb (ns.length * 8) g ∧ NdP g ns := fun hn => by
        obtain ⟨q1, g, q2, q3⟩ := hnb1 hn
        exact ⟨q1, g, (q2.frame F (by omega)).frame FA (fun h => h), q3⟩
      have C6 : CM (wr.alloc box10) ⟨c, p, nb, tb, tb + 1, ns⟩ ⟨[], []⟩ 0 (blank (List.replicate ns.length (-1)) (List.replicate ns.length (-1))) 0 0 := CM.begin B6 HRF.out hnb6 (BTf.frame FA (fun h => h)) (BRf.frame FA (fun h => h)) (by omega) (by omega) hl ok5
      have LL : Lie ns 0 (flFs 0 gs) := by rw [← ok2]; exact Lie.all ns
      have HSd : Hid (Sd (wr.alloc box10) p w.heap.size w1.heap.size ox O' (.slice a ns.length ns.length) (hdF 0 gs)) := ⟨(R5.frame F (fun d hd => by have := hOl' _ hd; omega)).frame FA (fun _ _ h => h), (B10.frame F (by omega)).frame FA (fun h => h), (X5.frame F (by omega)).frame FA (fun h => h), HO.out⟩
      have HDis : Hid (∀ d, O' d ∨ d = w.heap.size ∨ d = w1.heap.size ∨ d = ox → ¬ CS ⟨c, p, nb, tb, tb + 1, ns⟩ d) := fun d hd => by
        unfold CS; simp only
        rcases hd with h | h | h | h
        · have := hOl' _ h
          have : d ≠ c := fun e => hcO (e ▸ h)
          omega
        · omega
        · omega
        · omega
      have hF16 : Fr (fun d => d = c) w1 (wr.alloc box10) := (F15.trans F (fun d hd h => by omega)).trans FA (fun _ _ h => h.elim)
      have HF16 : Hid _ := hF16
      have hH := headsC C6 ok1 LL
      have x1 := (X5.frame F (by omega)).cell (o := 1) (by omega)
      simp only [trC] at x1
      have hK := And.intro ok1 (And.intro ok2 (And.intro LL (And.intro hKA0 (And.intro hgs (And.intro hcO (And.intro hOl' hl))))))
      have HK : Hid _ := hK
      clear hK C6 hnb6 B6 BT BR BTf BRf hfill F R5 B10 X5 B5 hnb1 hOl' hcO F15 hv Bc FA HO ok1 ok2 ok5 hl hKA0 hgs LL hF16 hig HS5 HRF y416 y417 tl rl tz rz
      go_wp2_with fail
      refine hH.mono ?_
      rintro e w7 ⟨FC8, h⟩
      generalize hw6 : wr.alloc box10 = w6 at HSd HF16 FC8
      clear hH hw6 hox
      cases hq : ckH 0 gs ⟨[], []⟩ with
      | bad er po =>
        rw [hq] at h
        obtain ⟨rfl, h0, X', s', C8⟩ := h
        have HKq : Hid (ckAll gs src.size = .bad er po) := ckAll_h hq
        have HS7 : Hid (er ≠ 0) := h0
        clear hq h0
        have S8 := HSd.out.frame FC8 (fun d hd => HDis.out d hd)
        obtain ⟨r0, r161, r162, r163, r164, r325, r414, r416, r417, r418, r419, hz⟩ := C8.regs
        have r415 : ∃ u, w7.cell? ⟨c, 415, none⟩ = some u := by obtain ⟨f, q1, _⟩ := C8.blk; exact ⟨_, q1.cell (o := 415) (by omega)⟩
        obtain ⟨u415, r415⟩ := r415
        simp only at r0 r161 r162 r163 r164 r325 r414 r416 r417 r418 r419 hz
        have hl8 := C8.blt.1
        simp only at hl8
        have hrf := refusedC (w7.drew) er po
        have HC8 : Hid (CM w7 _ _ _ _ _ _) := C8
        have HS8 : Hid (Sd w7 _ _ _ _ _ _ _) := S8
        have HF8 : Hid (Fr _ _ w7) := FC8
        clear C8 S8 FC8
        go_wp2_with fail
        refine wp_region_text (by kernel_rfl) (by kernel_rfl) ?_
        go_wp2_with fail
        refine hrf.mono ?_
        rintro v' w9 ⟨rfl, F9⟩
        clear hrf
        have F89 : Fr (fun _ => False) w7 w9 := ((Fr.refl _ _).drew).trans F9 (fun _ _ h => h)
        have S9 := HS8.out.frame F89 (fun _ _ h => h)
        have C9 := HC8.out.same F89
        obtain ⟨g0, g161, g162, g163, g164, g325, g414, g416, g417, g418, g419, gz⟩ := C9.regs
        have g415 : w9.cell? ⟨c, 415, none⟩ = some u415 := by rw [F89.cell (p := ⟨c, 415, none⟩) hl8 (fun h => h)]; exact r415
        simp only at g0 g161 g162 g163 g164 g325 g414 g416 g417 g418 g419 gz
        have gl9 := C9.blt.1
        simp only at gl9
        have o0 := S9.b3.cell (o := 0) (by omega)
        have o1 := S9.b3.cell (o := 1) (by omega)
        have o2 := S9.b3.cell (o := 2) (by omega)
        have o3 := S9.b3.cell (o := 3) (by omega)
        have o4 := S9.b3.cell (o := 4) (by omega)
        have o5 := S9.b3.cell (o := 5) (by omega)
        have o6 := S9.b3.cell (o := 6) (by omega)
        have o7 := S9.b3.cell (o := 7) (by omega)
        have o8 := S9.b3.cell (o := 8) (by omega)
        have o9 := S9.b3.cell (o := 9) (by omega)
        simp only [z10] at o0 o1 o2 o3 o4 o5 o6 o7 o8 o9
        have oz := S9.b3.frozen
        have ol := S9.b3.lt
        have x0 := S9.b1.cell (o := 0) (by omega)
        have x1 := S9.b1.cell (o := 1) (by omega)
        have x2 := S9.b1.cell (o := 2) (by omega)
        have x3 := S9.b1.cell (o := 3) (by omega)
        have x4 := S9.b1.cell (o := 4) (by omega)
        have x5 := S9.b1.cell (o := 5) (by omega)
        have x6 := S9.b1.cell (o := 6) (by omega)
        have x7 := S9.b1.cell (o := 7) (by omega)
        have x8 := S9.b1.cell (o := 8) (by omega)
        have x9 := S9.b1.cell (o := 9) (by omega)
        simp only [z10] at x0 x1 x2 x3 x4 x5 x6 x7 x8 x9
        have xz := S9.b1.frozen
        have xl := S9.b1.lt
        have KO := (S9.b3.set10 (.slice none 0 0) (.int .i64 (-1)) (.int .i64 0) (.int .i64 0) (.slice none 0 0) (.slice none 0 0) (.slice none 0 0) (.int .i64 (-1)) (.int .i64 er) (.int .i64 po))
        have HFin : Hid _ := And.intro C9 (And.intro S9 (And.intro F89 KO))
        clear C9 S9 F89 KO F9
        unfold refV chkV
        have hox1 : ox ≠ c := by omega
        have hox2 : ox ≠ w.heap.size := by omega
        have hox3 : w.heap.size ≠ c := by omega
        go_wp2_with fail
        refine ⟨by kernel_rfl, ?_⟩
        go_wp2_with fail
        obtain ⟨C9, S9, F89, KO⟩ := HFin.out
        obtain ⟨_, hO', F1, _, _, _, _, _, _⟩ := HX.out
        obtain ⟨ok1, ok2, LL, hKA0, hgs, hcO, hOl', hl⟩ := HK.out
        have WY : Way w w1 w6 w9 c p nb tb ox Op O' ns := ⟨Hk0.out, F1, HF16.out, HF8.out.trans F89 (fun _ _ h => h.elim), hw1, hHid.out, hsz5, hO', hOl', hcO, hlt, hOl⟩
        have hnx : nb ≠ ox := by have := hHid.out; omega
        have hKq := HKq.out
        rw [hgs] at hKq
        have RES := WY.bad hnx C9 S9 hKA0 hKq (.slice none 0 0) (.int .i64 (-1)) (.int .i64 0) (.int .i64 0) (.slice none 0 0) (.slice none 0 0) (.slice none 0 0) (.int .i64 (-1)) (.int .i64 er) (.int .i64 po) (.slice none 0 0) (.int .i64 (-1)) (.int .i64 0) (.int .i64 0) (.slice none 0 0) (.slice none 0 0) (.slice none 0 0) (.int .i64 (-1)) (.int .i64 er) (.int .i64 po)
        obtain ⟨_, _, _, _, BB, _⟩ := WY.end hnx C9 S9 (.slice none 0 0) (.int .i64 (-1)) (.int .i64 0) (.int .i64 0) (.slice none 0 0) (.slice none 0 0) (.slice none 0 0) (.int .i64 (-1)) (.int .i64 er) (.int .i64 po) (.slice none 0 0) (.int .i64 (-1)) (.int .i64 0) (.int .i64 0) (.slice none 0 0) (.slice none 0 0) (.slice none 0 0) (.int .i64 (-1)) (.int .i64 er) (.int .i64 po)
        have q0 := BB.cell (o := 0) (by omega)
        have q1 := BB.cell (o := 1) (by omega)
        have q2 := BB.cell (o := 2) (by omega)
        have q3 := BB.cell (o := 3) (by omega)
        have q4 := BB.cell (o := 4) (by omega)
        have q5 := BB.cell (o := 5) (by omega)
        have q6 := BB.cell (o := 6) (by omega)
        have q7 := BB.cell (o := 7) (by omega)
        have q8 := BB.cell (o := 8) (by omega)
        have q9 := BB.cell (o := 9) (by omega)
        simp only [c10, set10, nil3] at q0 q1 q2 q3 q4 q5 q6 q7 q8 q9
        exact bodyPost_ret (v := refV er po) (by simp [results, Tryz.results45, go_sem, refV, chkV, q0, q1, q2, q3, q4, q5, q6, q7, q8, q9]) rfl RES
      | ok X' =>
        rw [hq] at h
        obtain ⟨rfl, C7⟩ := h
        have HQ1 : Hid (_ = _) := hq
        have hHD := (ckH_ok gs 0 ⟨[], []⟩ X' hq rfl).1
        have C7' : CM w7 ⟨c, p, nb, tb, tb + 1, ns⟩ X' 0 (bdS X' ns) 0 0 := C7
        have hBo := bodiesC C7' (bdS_blank X' ns) HK.out.1 HK.out.2.2.1 hHD
        have HHD : Hid _ := hHD
        have HF7 : Hid (Fr _ _ w7) := FC8
        clear hq C7 C7' hHD FC8
        go_wp2_with fail
        refine hBo.mono ?_
        rintro e w8 ⟨FC2, h⟩
        clear hBo
        have FC8 := HF7.out.trans FC2 (fun _ _ h => h)
        cases hq2 : ckFs X' 0 0 gs (bdS X' ns) with
        | bad er po =>
          rw [hq2] at h
          obtain ⟨rfl, h0, cur', s', C8⟩ := h
          have HKq : Hid (ckAll gs src.size = .bad er po) := ckAll_b HQ1.out HK.out.2.1 hq2
          have HS7 : Hid (er ≠ 0) := h0
          clear hq2 h0 FC2
          have S8 := HSd.out.frame FC8 (fun d hd => HDis.out d hd)
          obtain ⟨r0, r161, r162, r163, r164, r325, r414, r416, r417, r418, r419, hz⟩ := C8.regs
          have r415 : ∃ u, w8.cell? ⟨c, 415, none⟩ = some u := by obtain ⟨f, q1, _⟩ := C8.blk; exact ⟨_, q1.cell (o := 415) (by omega)⟩
          obtain ⟨u415, r415⟩ := r415
          simp only at r0 r161 r162 r163 r164 r325 r414 r416 r417 r418 r419 hz
          have hl8 := C8.blt.1
          simp only at hl8
          have hrf := refusedC (w8.drew) er po
          have HC8 : Hid (CM w8 _ _ _ _ _ _) := C8
          have HS8 : Hid (Sd w8 _ _ _ _ _ _ _) := S8
          have HF8 : Hid (Fr _ _ w8) := FC8
          clear C8 S8 FC8
          go_wp2_with fail
          refine wp_region_text (by kernel_rfl) (by kernel_rfl) ?_
          go_wp2_with fail
          refine hrf.mono ?_
          rintro v' w9 ⟨rfl, F9⟩
          clear hrf
          have F89 : Fr (fun _ => False) w8 w9 := ((Fr.refl _ _).drew).trans F9 (fun _ _ h => h)
          have S9 := HS8.out.frame F89 (fun _ _ h => h)
          have C9 := HC8.out.same F89
          obtain ⟨g0, g161, g162, g163, g164, g325, g414, g416, g417, g418, g419, gz⟩ := C9.regs
          have g415 : w9.cell? ⟨c, 415, none⟩ = some u415 := by rw [F89.cell (p := ⟨c, 415, none⟩) hl8 (fun h => h)]; exact r415
          simp only at g0 g161 g162 g163 g164 g325 g414 g416 g417 g418 g419 gz
          have gl9 := C9.blt.1
          simp only at gl9
          have o0 := S9.b3.cell (o := 0) (by omega)
          have o1 := S9.b3.cell (o := 1) (by omega)
          have o2 := S9.b3.cell (o := 2) (by omega)
          have o3 := S9.b3.cell (o := 3) (by omega)
          have o4 := S9.b3.cell (o := 4) (by omega)
          have o5 := S9.b3.cell (o := 5) (by omega)
          have o6 := S9.b3.cell (o := 6) (by omega)
          have o7 := S9.b3.cell (o := 7) (by omega)
          have o8 := S9.b3.cell (o := 8) (by omega)
          have o9 := S9.b3.cell (o := 9) (by omega)
          simp only [z10] at o0 o1 o2 o3 o4 o5 o6 o7 o8 o9
          have oz := S9.b3.frozen
          have ol := S9.b3.lt
          have x0 := S9.b1.cell (o := 0) (by omega)
          have x1 := S9.b1.cell (o := 1) (by omega)
          have x2 := S9.b1.cell (o := 2) (by omega)
          have x3 := S9.b1.cell (o := 3) (by omega)
          have x4 := S9.b1.cell (o := 4) (by omega)
          have x5 := S9.b1.cell (o := 5) (by omega)
          have x6 := S9.b1.cell (o := 6) (by omega)
          have x7 := S9.b1.cell (o := 7) (by omega)
          have x8 := S9.b1.cell (o := 8) (by omega)
          have x9 := S9.b1.cell (o := 9) (by omega)
          simp only [z10] at x0 x1 x2 x3 x4 x5 x6 x7 x8 x9
          have xz := S9.b1.frozen
          have xl := S9.b1.lt
          have KO := (S9.b3.set10 (.slice none 0 0) (.int .i64 (-1)) (.int .i64 0) (.int .i64 0) (.slice none 0 0) (.slice none 0 0) (.slice none 0 0) (.int .i64 (-1)) (.int .i64 er) (.int .i64 po))
          have HFin : Hid _ := And.intro C9 (And.intro S9 (And.intro F89 KO))
          clear C9 S9 F89 KO F9
          unfold refV chkV
          have hox1 : ox ≠ c := by omega
          have hox2 : ox ≠ w.heap.size := by omega
          have hox3 : w.heap.size ≠ c := by omega
          go_wp2_with fail
          refine ⟨by kernel_rfl, ?_⟩
          go_wp2_with fail
          obtain ⟨C9, S9, F89, KO⟩ := HFin.out
          obtain ⟨_, hO', F1, _, _, _, _, _, _⟩ := HX.out
          obtain ⟨ok1, ok2, LL, hKA0, hgs, hcO, hOl', hl⟩ := HK.out
          have WY : Way w w1 w6 w9 c p nb tb ox Op O' ns := ⟨Hk0.out, F1, HF16.out, HF8.out.trans F89 (fun _ _ h => h.elim), hw1, hHid.out, hsz5, hO', hOl', hcO, hlt, hOl⟩
          have hnx : nb ≠ ox := by have := hHid.out; omega
          have hKq := HKq.out
          rw [hgs] at hKq
          have RES := WY.bad hnx C9 S9 hKA0 hKq (.slice none 0 0) (.int .i64 (-1)) (.int .i64 0) (.int .i64 0) (.slice none 0 0) (.slice none 0 0) (.slice none 0 0) (.int .i64 (-1)) (.int .i64 er) (.int .i64 po) (.slice none 0 0) (.int .i64 (-1)) (.int .i64 0) (.int .i64 0) (.slice none 0 0) (.slice none 0 0) (.slice none 0 0) (.int .i64 (-1)) (.int .i64 er) (.int .i64 po)
          obtain ⟨_, _, _, _, BB, _⟩ := WY.end hnx C9 S9 (.slice none 0 0) (.int .i64 (-1)) (.int .i64 0) (.int .i64 0) (.slice none 0 0) (.slice none 0 0) (.slice none 0 0) (.int .i64 (-1)) (.int .i64 er) (.int .i64 po) (.slice none 0 0) (.int .i64 (-1)) (.int .i64 0) (.int .i64 0) (.slice none 0 0) (.slice none 0 0) (.slice none 0 0) (.int .i64 (-1)) (.int .i64 er) (.int .i64 po)
          have q0 := BB.cell (o := 0) (by omega)
          have q1 := BB.cell (o := 1) (by omega)
          have q2 := BB.cell (o := 2) (by omega)
          have q3 := BB.cell (o := 3) (by omega)
          have q4 := BB.cell (o := 4) (by omega)
          have q5 := BB.cell (o := 5) (by omega)
          have q6 := BB.cell (o := 6) (by omega)
          have q7 := BB.cell (o := 7) (by omega)
          have q8 := BB.cell (o := 8) (by omega)
          have q9 := BB.cell (o := 9) (by omega)
          simp only [c10, set10, nil3] at q0 q1 q2 q3 q4 q5 q6 q7 q8 q9
          exact bodyPost_ret (v := refV er po) (by simp [results, Tryz.results45, go_sem, refV, chkV, q0, q1, q2, q3, q4, q5, q6, q7, q8, q9]) rfl RES
        | ok u s3 =>
          rw [hq2] at h
          obtain ⟨rfl, cur', C8⟩ := h
          have HQ2 : Hid (_ = _) := hq2
          have hM := mainC C8 HK.out.2.2.1 HHD.out (src.size : Int)
          have HF8' : Hid (Fr _ _ w8) := FC8
          clear hq2 C8 FC8 FC2
          go_wp2_with fail
          refine hM.mono ?_
          rintro e w9 ⟨FC3, h⟩
          clear hM
          have FC8 := HF8'.out.trans FC3 (fun _ _ h => h)
          cases hq3 : mainT X' gs (src.size : Int) with
          | some pz =>
            rw [hq3] at h
            obtain ⟨rfl, C8⟩ := h
            have HKq : Hid (ckAll gs src.size = .bad 20 pz) := ckAll_m HQ1.out HK.out.2.1 HQ2.out hq3
            clear hq3 FC3
            have S8 := HSd.out.frame FC8 (fun d hd => HDis.out d hd)
            obtain ⟨r0, r161, r162, r163, r164, r325, r414, r416, r417, r418, r419, hz⟩ := C8.regs
            have r415 : ∃ u, w9.cell? ⟨c, 415, none⟩ = some u := by obtain ⟨f, q1, _⟩ := C8.blk; exact ⟨_, q1.cell (o := 415) (by omega)⟩
            obtain ⟨u415, r415⟩ := r415
            simp only at r0 r161 r162 r163 r164 r325 r414 r416 r417 r418 r419 hz
            have hl8 := C8.blt.1
            simp only at hl8
            have hrf := refusedC (w9.drew) 20 pz
            have HC8 : Hid (CM w9 _ _ _ _ _ _) := C8
            have HS8 : Hid (Sd w9 _ _ _ _ _ _ _) := S8
            have HF8 : Hid (Fr _ _ w9) := FC8
            clear C8 S8 FC8
            go_wp2_with fail
            refine wp_region_text (by kernel_rfl) (by kernel_rfl) ?_
            go_wp2_with fail
            refine hrf.mono ?_
            rintro v' wE ⟨rfl, F9⟩
            clear hrf
            have F89 : Fr (fun _ => False) w9 wE := ((Fr.refl _ _).drew).trans F9 (fun _ _ h => h)
            have S9 := HS8.out.frame F89 (fun _ _ h => h)
            have C9 := HC8.out.same F89
            obtain ⟨g0, g161, g162, g163, g164, g325, g414, g416, g417, g418, g419, gz⟩ := C9.regs
            have g415 : wE.cell? ⟨c, 415, none⟩ = some u415 := by rw [F89.cell (p := ⟨c, 415, none⟩) hl8 (fun h => h)]; exact r415
            simp only at g0 g161 g162 g163 g164 g325 g414 g416 g417 g418 g419 gz
            have gl9 := C9.blt.1
            simp only at gl9
            have o0 := S9.b3.cell (o := 0) (by omega)
            have o1 := S9.b3.cell (o := 1) (by omega)
            have o2 := S9.b3.cell (o := 2) (by omega)
            have o3 := S9.b3.cell (o := 3) (by omega)
            have o4 := S9.b3.cell (o := 4) (by omega)
            have o5 := S9.b3.cell (o := 5) (by omega)
            have o6 := S9.b3.cell (o := 6) (by omega)
            have o7 := S9.b3.cell (o := 7) (by omega)
            have o8 := S9.b3.cell (o := 8) (by omega)
            have o9 := S9.b3.cell (o := 9) (by omega)
            simp only [z10] at o0 o1 o2 o3 o4 o5 o6 o7 o8 o9
            have oz := S9.b3.frozen
            have ol := S9.b3.lt
            have x0 := S9.b1.cell (o := 0) (by omega)
            have x1 := S9.b1.cell (o := 1) (by omega)
            have x2 := S9.b1.cell (o := 2) (by omega)
            have x3 := S9.b1.cell (o := 3) (by omega)
            have x4 := S9.b1.cell (o := 4) (by omega)
            have x5 := S9.b1.cell (o := 5) (by omega)
            have x6 := S9.b1.cell (o := 6) (by omega)
            have x7 := S9.b1.cell (o := 7) (by omega)
            have x8 := S9.b1.cell (o := 8) (by omega)
            have x9 := S9.b1.cell (o := 9) (by omega)
            simp only [z10] at x0 x1 x2 x3 x4 x5 x6 x7 x8 x9
            have xz := S9.b1.frozen
            have xl := S9.b1.lt
            have KO := (S9.b3.set10 (.slice none 0 0) (.int .i64 (-1)) (.int .i64 0) (.int .i64 0) (.slice none 0 0) (.slice none 0 0) (.slice none 0 0) (.int .i64 (-1)) (.int .i64 20) (.int .i64 pz))
            have HFin : Hid _ := And.intro C9 (And.intro S9 (And.intro F89 KO))
            clear C9 S9 F89 KO F9
            unfold refV chkV
            have hox1 : ox ≠ c := by omega
            have hox2 : ox ≠ w.heap.size := by omega
            have hox3 : w.heap.size ≠ c := by omega
            go_wp2_with fail
            refine ⟨by kernel_rfl, ?_⟩
            go_wp2_with fail
            obtain ⟨C9, S9, F89, KO⟩ := HFin.out
            obtain ⟨_, hO', F1, _, _, _, _, _, _⟩ := HX.out
            obtain ⟨ok1, ok2, LL, hKA0, hgs, hcO, hOl', hl⟩ := HK.out
            have WY : Way w w1 w6 wE c p nb tb ox Op O' ns := ⟨Hk0.out, F1, HF16.out, HF8.out.trans F89 (fun _ _ h => h.elim), hw1, hHid.out, hsz5, hO', hOl', hcO, hlt, hOl⟩
            have hnx : nb ≠ ox := by have := hHid.out; omega
            have hKq := HKq.out
            rw [hgs] at hKq
            have RES := WY.bad hnx C9 S9 hKA0 hKq (.slice none 0 0) (.int .i64 (-1)) (.int .i64 0) (.int .i64 0) (.slice none 0 0) (.slice none 0 0) (.slice none 0 0) (.int .i64 (-1)) (.int .i64 20) (.int .i64 pz) (.slice none 0 0) (.int .i64 (-1)) (.int .i64 0) (.int .i64 0) (.slice none 0 0) (.slice none 0 0) (.slice none 0 0) (.int .i64 (-1)) (.int .i64 20) (.int .i64 pz)
            obtain ⟨_, _, _, _, BB, _⟩ := WY.end hnx C9 S9 (.slice none 0 0) (.int .i64 (-1)) (.int .i64 0) (.int .i64 0) (.slice none 0 0) (.slice none 0 0) (.slice none 0 0) (.int .i64 (-1)) (.int .i64 20) (.int .i64 pz) (.slice none 0 0) (.int .i64 (-1)) (.int .i64 0) (.int .i64 0) (.slice none 0 0) (.slice none 0 0) (.slice none 0 0) (.int .i64 (-1)) (.int .i64 20) (.int .i64 pz)
            have q0 := BB.cell (o := 0) (by omega)
            have q1 := BB.cell (o := 1) (by omega)
            have q2 := BB.cell (o := 2) (by omega)
            have q3 := BB.cell (o := 3) (by omega)
            have q4 := BB.cell (o := 4) (by omega)
            have q5 := BB.cell (o := 5) (by omega)
            have q6 := BB.cell (o := 6) (by omega)
            have q7 := BB.cell (o := 7) (by omega)
            have q8 := BB.cell (o := 8) (by omega)
            have q9 := BB.cell (o := 9) (by omega)
            simp only [c10, set10, nil3] at q0 q1 q2 q3 q4 q5 q6 q7 q8 q9
            exact bodyPost_ret (v := refV 20 pz) (by simp [results, Tryz.results45, go_sem, refV, chkV, q0, q1, q2, q3, q4, q5, q6, q7, q8, q9]) rfl RES
          | none =>
            rw [hq3] at h
            obtain ⟨rfl, C8⟩ := h
            have HQ3 : Hid (_ = _) := hq3
            clear hq3 FC3
            have hOl0 := HK.out.2.2.2.2.2.2.1
            obtain ⟨mm, hmm, hall⟩ := ckAll_o HQ1.out HK.out.2.1 HQ2.out HQ3.out
            have HMM : Hid _ := hmm
            have HALL : Hid _ := hall
            obtain ⟨r0, r161, r162, r163, r164, r325, r414, r416, r417, r418, r419, hz⟩ := C8.regs
            simp only at r0 r161 r162 r163 r164 r325 r414 r416 r417 r418 r419 hz
            have hl8 := C8.blt.1
            simp only at hl8
            have hx8 := C8.xok.le
            have hf0 : 0 < X'.fs.length := by have := (lst_some hmm).1; omega
            have S8 := HSd.out.frame FC8 (fun d hd => HDis.out d hd)
            have HC8 : Hid (CM w9 _ _ _ _ _ _) := C8
            have HS8 : Hid (Sd w9 _ _ _ _ _ _ _) := S8
            have HF8 : Hid (Fr _ _ w9) := FC8
            obtain ⟨fb, hfb⟩ : ∃ fb, w9.heap.size = fb := ⟨_, rfl⟩
            have Hfb : Hid _ := hfb
            have hfo : ox < fb := by have := S8.b3.lt; omega
            rw [hfb] at hl8
            clear C8 S8 FC8 hmm hall hfb
            go_wp2_with (refine wpList_makeB (by rfl) 67 _ _ (by rfl) 109 7 64 zFunc X'.fs.length (by rfl) (by rfl) Tryz.underlying67 (by kernel_rfl) (by kernel_rfl) (by kernel_rfl) (by omega) (by omega) ?_; intro wA FA sA BA; rw [Hfb.out] at BA ⊢)
            have HBA : Hid (Blk wA fb _ _ ∧ Fr (fun _ => False) w9 wA) := ⟨BA, FA⟩
            clear BA FA sA r0 r161 r162 r163 r164 r325 r414 r416 r417 r418 r419 hz
            go_loopg [10] X'.fs.length (fun g iv wq => ∃ (i : Nat) (gf : Nat → Value), iv = .int .i64 i ∧ i + g = X'.fs.length ∧ Blk wq fb (X'.fs.length * 7) gf ∧ FrP gf ((X'.fs.zip s3.lim).take i) ∧ Fr (fun d => d = fb) w9 wq)
            case atStart => exact ⟨0, _, rfl, by omega, HBA.out.1, (fun j hj => by simp at hj), HBA.out.2.mono (fun _ _ h => h.elim)⟩
            case round =>
              clear HBA
              obtain ⟨i2, gf, rfl, hig2, BF, hP, F⟩ := hrel
              have Hig2 : Hid _ := hig2
              have CQ := HC8.out.frame F (by show c ≠ fb; omega) (fun _ => by show nb ≠ fb; have := hHid.out; omega) (by show tb ≠ fb; omega) (by show tb + 1 ≠ fb; omega)
              obtain ⟨r0, r161, r162, r163, r164, r325, r414, r416, r417, r418, r419, hz⟩ := CQ.regs
              simp only at r0 r161 r162 r163 r164 r325 r414 r416 r417 r418 r419 hz
              have hlq := CQ.blt.1
              simp only at hlq
              by_cases hi2 : i2 < X'.fs.length
              · have z5 : decide ((i2 : Int) < ((X'.fs.length : Nat) : Int)) = true := decide_eq_true (by omega)
                obtain ⟨f0', f1', f2', f3', f4', f5', f6'⟩ := CQ.func hi2
                simp only at f0' f1' f2' f3' f4' f5' f6'
                have hi8 : i2 < 8 := by omega
                obtain ⟨g2, B2, p0, p1, p2, p3, p4, p5, p6, p7⟩ := BF.set7 (i2 * 7) (.int .i64 (fAt X'.fs i2).node) (.int .i64 (fAt X'.fs i2).ret) (.int .i64 (fAt X'.fs i2).pi) (.int .i64 (fAt X'.fs i2).pr) (.int .i64 (lAt s3.lim i2).1) (.int .i64 (lAt s3.lim i2).2) (.string (fAt X'.fs i2).name)
                have F2' := F.set7 (c := fb) rfl (i2 * 7) (.int .i64 (fAt X'.fs i2).node) (.int .i64 (fAt X'.fs i2).ret) (.int .i64 (fAt X'.fs i2).pi) (.int .i64 (fAt X'.fs i2).pr) (.int .i64 (lAt s3.lim i2).1) (.int .i64 (lAt s3.lim i2).2) (.string (fAt X'.fs i2).name)
                obtain ⟨hzl, hze⟩ := zip_at HC8.out.lim hi2
                have hP2 : FrP g2 ((X'.fs.zip s3.lim).take (i2 + 1)) := hP.push hzl (fun o ho => by
                  rw [hze]
                  rcases lt7c ho with rfl | rfl | rfl | rfl | rfl | rfl | rfl
                  · exact p0
                  · exact p1
                  · exact p2
                  · exact p3
                  · exact p4
                  · exact p5
                  · exact p6) p7
                have b0 := BF.cell (o := i2 * 7) (by omega)
                have b1 := BF.cell (o := i2 * 7 + 1) (by omega)
                have b2 := BF.cell (o := i2 * 7 + 2) (by omega)
                have b3 := BF.cell (o := i2 * 7 + 3) (by omega)
                have b4 := BF.cell (o := i2 * 7 + 4) (by omega)
                have b5 := BF.cell (o := i2 * 7 + 5) (by omega)
                have b6 := BF.cell (o := i2 * 7 + 6) (by omega)
                have bz := BF.frozen
                have bl := BF.lt
                have HN : Hid (_ ∧ _ ∧ _) := ⟨B2, hP2, F2'⟩
                clear B2 hP2 F2' p0 p1 p2 p3 p4 p5 p6 p7 hze hzl BF hP F CQ hig2
                go_wp2_with fail
                go_roundg (gk - 1)
                case measure => have := Hig2.out; omega
                case rel => exact ⟨i2 + 1, g2, by simp, by have := Hig2.out; omega, HN.out.1, HN.out.2.1, HN.out.2.2⟩
              · have z5 : decide ((i2 : Int) < ((X'.fs.length : Nat) : Int)) = false := decide_eq_false (by omega)
                have z6 : decide (i2 < X'.fs.length) = false := decide_eq_false hi2
                obtain rfl : i2 = X'.fs.length := by omega
                rw [List.take_of_length_le (by rw [List.length_zip]; omega)] at hP
                have hFd := CQ.findF (nm := mainB) (by decide)
                rw [HMM.out] at hFd
                have SQ := HS8.out.frame F (fun d hd e => by
                  have := hOl0
                  rcases hd with h | h | h | h
                  · have := hOl0 _ h; have := hHid.out; omega
                  · omega
                  · have := hHid.out; omega
                  · omega)
                have HQQ : Hid _ := And.intro CQ (And.intro SQ (And.intro BF (And.intro hP F)))
                clear CQ SQ BF hP F hi2 hig2
                go_wp2_with fail
                refine hFd.mono ?_
                rintro v' wB ⟨rfl, mq, rfl⟩
                rw [show oi (some mm) = (mm : Int) from rfl]
                obtain ⟨CQ, SQ, BF, hP, F⟩ := HQQ.out
                generalize hwB : World.drewN _ mq = wB
                have CB' : CM wB ⟨c, p, nb, tb, tb + 1, ns⟩ X' cur' s3 0 0 := by rw [← hwB]; exact CQ.same ((Fr.refl _ _).drewN mq)
                have SB := SQ.frame (w' := wB) (by rw [← hwB]; exact (Fr.refl (fun _ => False) _).drewN mq) (fun _ _ h => h)
                have BB := BF.frame (w' := wB) (by rw [← hwB]; exact (Fr.refl (fun _ => False) _).drewN mq) (fun h => h)
                have F9B : Fr (fun d => d = fb) w9 wB := by rw [← hwB]; exact F.drewN mq
                have hn0 : ns ≠ [] := fun e => by
                  have h1 := HHD.out.pre
                  have h2 := HK.out.2.1
                  rw [e] at h2
                  have h3 := congrArg List.length h2
                  rw [flFs_len] at h3
                  cases hgg : gs with
                  | nil => rw [hgg] at h1; simp at h1; omega
                  | cons f r => rw [hgg] at h3; simp only [szFs, List.length_nil] at h3; have := szF_pos f; omega
                obtain rfl := Hnb.out hn0
                obtain ⟨r0, r161, r162, r163, r164, r325, r414, r416, r417, r418, r419, hz⟩ := CB'.regs
                simp only at r0 r161 r162 r163 r164 r325 r414 r416 r417 r418 r419 hz
                have hlB := CB'.blt.1
                simp only at hlB
                have r415 : ∃ u, wB.cell? ⟨c, 415, none⟩ = some u := by obtain ⟨f, q1, _⟩ := CB'.blk; exact ⟨_, q1.cell (o := 415) (by omega)⟩
                obtain ⟨u415, r415⟩ := r415
                have t0 := SB.b2.cell (o := 0) (by omega)
                have t1 := SB.b2.cell (o := 1) (by omega)
                have t2 := SB.b2.cell (o := 2) (by omega)
                have t3 := SB.b2.cell (o := 3) (by omega)
                simp only [trC] at t0 t1 t2 t3
                have tl2 := SB.b2.lt
                have o0 := SB.b3.cell (o := 0) (by omega)
                have o1 := SB.b3.cell (o := 1) (by omega)
                have o2 := SB.b3.cell (o := 2) (by omega)
                have o3 := SB.b3.cell (o := 3) (by omega)
                have o4 := SB.b3.cell (o := 4) (by omega)
                have o5 := SB.b3.cell (o := 5) (by omega)
                have o6 := SB.b3.cell (o := 6) (by omega)
                have o7 := SB.b3.cell (o := 7) (by omega)
                have o8 := SB.b3.cell (o := 8) (by omega)
                have o9 := SB.b3.cell (o := 9) (by omega)
                simp only [z10] at o0 o1 o2 o3 o4 o5 o6 o7 o8 o9
                have oz := SB.b3.frozen
                have ol := SB.b3.lt
                have x0 := SB.b1.cell (o := 0) (by omega)
                have x1 := SB.b1.cell (o := 1) (by omega)
                have x2 := SB.b1.cell (o := 2) (by omega)
                have x3 := SB.b1.cell (o := 3) (by omega)
                have x4 := SB.b1.cell (o := 4) (by omega)
                have x5 := SB.b1.cell (o := 5) (by omega)
                have x6 := SB.b1.cell (o := 6) (by omega)
                have x7 := SB.b1.cell (o := 7) (by omega)
                have x8 := SB.b1.cell (o := 8) (by omega)
                have x9 := SB.b1.cell (o := 9) (by omega)
                simp only [z10] at x0 x1 x2 x3 x4 x5 x6 x7 x8 x9
                have xz := SB.b1.frozen
                have xl2 := SB.b1.lt
                have hox1 : ox ≠ c := by omega
                have hox2 : ox ≠ w.heap.size := by omega
                have hox3 : w.heap.size ≠ c := by omega
                have HFIN : Hid _ := And.intro CB' (And.intro SB (And.intro BB (And.intro hP (And.intro F9B hn0))))
                clear CB' SB BB hP F9B CQ SQ BF F hwB HQQ hFd hn0
                go_wp2_with fail
                refine wp_region_text (by kernel_rfl) (by kernel_rfl) ?_
                go_wp2_with fail
                refine ⟨by kernel_rfl, ?_⟩
                go_wp2_with fail
                obtain ⟨CB', SB, BB, hP, F9B, hn0⟩ := HFIN.out
                have hO' := HX.out.2.1
                have F1 := HX.out.2.2.1
                obtain ⟨ok1, ok2, LL, hKA0, hgs, hcO, hOl', hl⟩ := HK.out
                have WY : Way w w1 w6 wB c p nb tb ox Op O' ns := ⟨Hk0.out, F1, HF16.out, HF8.out.trans F9B (fun d hd e => by have := HF8.out.size; have := Hfb.out; omega), hw1, hHid.out, hsz5, hO', hOl', hcO, hlt, hOl⟩
                have hnx : nb ≠ ox := by have := hHid.out; omega
                have hall := HALL.out
                rw [hgs] at hall
                have RES := WY.good hnx CB' SB hKA0 hall (by rw [ok2, hgs]) (by rw [hgs]) hn0 BB hP hf0 hfo hnb2 hnb3 hnb4
                obtain ⟨_, _, _, _, BW, _⟩ := WY.end hnx CB' SB (.slice (some ⟨nb, 0, none⟩) ns.length ns.length) (.int .i64 (hdF 0 gs)) (.int .i64 0) (.int .i64 0) (.slice (some ⟨tb, 0, none⟩) ns.length ns.length) (.slice (some ⟨tb + 1, 0, none⟩) ns.length ns.length) (.slice (some ⟨fb, 0, none⟩) X'.fs.length X'.fs.length) (.int .i64 mm) (.int .i64 0) (.int .i64 0) (.slice (some ⟨nb, 0, none⟩) ns.length ns.length) (.int .i64 (hdF 0 gs)) (.int .i64 0) (.int .i64 0) (.slice (some ⟨tb, 0, none⟩) ns.length ns.length) (.slice (some ⟨tb + 1, 0, none⟩) ns.length ns.length) (.slice (some ⟨fb, 0, none⟩) X'.fs.length X'.fs.length) (.int .i64 mm) (.int .i64 0) (.int .i64 0)
                have q0 := BW.cell (o := 0) (by omega)
                have q1 := BW.cell (o := 1) (by omega)
                have q2 := BW.cell (o := 2) (by omega)
                have q3 := BW.cell (o := 3) (by omega)
                have q4 := BW.cell (o := 4) (by omega)
                have q5 := BW.cell (o := 5) (by omega)
                have q6 := BW.cell (o := 6) (by omega)
                have q7 := BW.cell (o := 7) (by omega)
                have q8 := BW.cell (o := 8) (by omega)
                have q9 := BW.cell (o := 9) (by omega)
                simp only [c10, set10, nil3] at q0 q1 q2 q3 q4 q5 q6 q7 q8 q9
                exact bodyPost_ret (v := chkV (.slice (some ⟨nb, 0, none⟩) ns.length ns.length) (hdF 0 gs) 0 0 (.slice (some ⟨tb, 0, none⟩) ns.length ns.length) (.slice (some ⟨tb + 1, 0, none⟩) ns.length ns.length) (.slice (some ⟨fb, 0, none⟩) X'.fs.length X'.fs.length) mm 0 0) (by simp [results, Tryz.results45, go_sem, chkV, q0, q1, q2, q3, q4, q5, q6, q7, q8, q9]) rfl (RES.post ((Fr.refl _ _).drew))
end Go.Proofs.Qxb6500277aGreat
