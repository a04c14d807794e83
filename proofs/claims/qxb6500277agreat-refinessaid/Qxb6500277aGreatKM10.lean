/- The model heap: Alloc, New. -/
import Derived.Test.Qxb6500277aGreatKM9
import Derived.Deep.Cut
namespace Go.Proofs.Qxb6500277aGreat
open Go Go.RowKit

/-- An object of its own. -/
structure Mk (w : World) (p q tb b1 b2 : Nat) (wx : World) : Prop where
  blk : Blk wx tb 2 (mc (.slice (some ⟨b1, 0, none⟩) p p) (.slice (some ⟨b2, 0, none⟩) q q))
  k1 : Blk wx b1 p (fun _ => .int .i64 0)
  k2 : Blk wx b2 q (fun _ => .int .i64 0)
  lo : w.heap.size ≤ tb ∧ w.heap.size ≤ b1 ∧ w.heap.size ≤ b2
  ne : tb ≠ b1 ∧ tb ≠ b2 ∧ b1 ≠ b2
  fr : Fr (fun _ => False) w wx
theorem made0 {w : World} {b n : Nat} (h : Blk w b (n * 1) (fun k => (iv 0).cells[k % (iv 0).cells.size]!)) : Blk w b n (fun _ => .int .i64 0) := by
  rw [Nat.mul_one] at h
  exact h.congr fun o _ => iv0 o
theorem objz (w : World) (x y : Value) : Blk (w.alloc (.cells #[x, y] 195)) w.heap.size 2 (mc x y) := Blk.new w _ _ _ fun o ho => by
  have ho : o < 2 := by simpa using ho
  obtain rfl | rfl : o = 0 ∨ o = 1 := by omega
  all_goals rfl
theorem Mk.mkA {w w4 : World} {p q b1 b2 : Nat} (F : Fr (fun _ => False) w w4) (h1 : Blk w4 b1 p (fun _ => .int .i64 0)) (h2 : Blk w4 b2 q (fun _ => .int .i64 0)) (l1 : w.heap.size ≤ b1) (l2 : w.heap.size ≤ b2) (hn : b1 ≠ b2) : Mk w p q w4.heap.size b1 b2 (w4.alloc (.cells #[.slice (some ⟨b1, 0, none⟩) p p, .slice (some ⟨b2, 0, none⟩) q q] 195)) := by
  have a1 := h1.lt
  have a2 := h2.lt
  exact ⟨objz w4 _ _, h1.alloc _, h2.alloc _, ⟨F.size, l1, l2⟩, ⟨by omega, by omega, hn⟩, F.alloc _⟩
theorem Mk.mkB {w w5 : World} {p q tb b1 b2 : Nat} {g : Nat → Value} (F : Fr (fun _ => False) w w5) (hT : Blk w5 tb 2 g) (h1 : Blk w5 b1 p (fun _ => .int .i64 0)) (h2 : Blk w5 b2 q (fun _ => .int .i64 0)) (l0 : w.heap.size ≤ tb) (l1 : w.heap.size ≤ b1) (l2 : w.heap.size ≤ b2) (hn : tb ≠ b1 ∧ tb ≠ b2 ∧ b1 ≠ b2) : Mk w p q tb b1 b2 ((w5.setCell ⟨tb, 0, none⟩ (.slice (some ⟨b1, 0, none⟩) p p)).setCell ⟨tb, 1, none⟩ (.slice (some ⟨b2, 0, none⟩) q q)) := by
  have k := ((Fr.refl (fun c => c = tb) w5).setC tb 0 (.slice (some ⟨b1, 0, none⟩) p p) (fun _ => rfl)).setC tb 1 (.slice (some ⟨b2, 0, none⟩) q q) (fun _ => rfl)
  refine ⟨((hT.set 0 _).set 1 _).congr (fun o ho => ?_), h1.frame k (Ne.symm hn.1), h2.frame k (Ne.symm hn.2.1), ⟨l0, l1, l2⟩, hn, F.trans k (fun c hc e => by omega)⟩
  obtain rfl | rfl : o = 0 ∨ o = 1 := by omega
  all_goals simp [upd, mc]
theorem sum_le (wf : Int → Nat) (n : Nat) : ∀ (l : List Int), (∀ x ∈ l, wf x ≤ n) → (l.map wf).sum ≤ n * l.length
  | [], _ => by simp
  | a :: r, h => by
    have h1 := h a (by simp)
    have h2 := sum_le wf n r (fun x hx => h x (by simp [hx]))
    simp only [List.map_cons, List.sum_cons, List.length_cons, Nat.mul_add]
    omega
theorem MInv.live_le {M : MS} (mi : MInv M) : M.gh.live ≤ 97 * 48 := by
  have hok := mi.ok
  have hl := mi.part ⟨hok.nd, hok.sub⟩
  have h := sum_le (fun a => 1 + (M.gh.R a).length + (M.gh.I a).length) 97 M.gh.ord (fun x hx => by
    have hst := stock_mem.1 (hok.sub x hx)
    have hg := rfM_get (os := M.objs) (i := x) (by omega)
    have hsz := mi.sz _ (List.getElem_mem (show x.toNat < M.objs.length by omega))
    show 1 + (rfM M.objs x).length + (itM M.objs x).length ≤ 97
    rw [hg.1, hg.2]; omega)
  unfold Gh.live
  have := Nat.mul_le_mul_left 97 hl
  omega
set_option maxRecDepth 100000 in
set_option maxHeartbeats 16000000 in
theorem allocMF {w : World} {m : Nat} {M : MS} {O : Nat → Prop} (H : MM w m M O) (mi : MInv M) (h24 : M.rt.length ≤ 24) (p q : Int) : Calls Tryz.prog 138 #[.pointer (some ⟨m, 0, none⟩), .int .i64 p, .int .i64 q] w fun e w' => e = .returned (.int .i64 (allocM M p q).1) ∧ MM w' m (allocM M p q).2 (Gw O w w') ∧ Fr O w w' := by
  have hG : MM w m M (Gw O w w) := H.grow (Nat.le_refl _)
  have hG' : ∀ w', Fr (fun _ => False) w w' → MM w' m M (Gw O w w') := fun w' k => (H.same k).grow k.size
  obtain ⟨ov, rv, f, V⟩ := H
  obtain ⟨c0, c1, hlt, hz⟩ := V.cells
  obtain ⟨ra, rc, hrv, hrc⟩ := V.rt.sl
  rw [hrv] at c1
  have LVF := liveMF V mi h24
  have Hrv : Hid _ := hrv
  clear hrv
  unfold allocM
  by_cases h1 : p < 0 ∨ q < 0
  · rw [if_pos h1]
    have h1 : p < 0 ∨ (0 ≤ p ∧ q < 0) := by omega
    rcases h1 with h1 | ⟨h1, h2⟩
    all_goals
      go_enter Tryz.func138, Tryz.ntmps138
      go_wp2_with fail
      go_ret
      exact ⟨rfl, hG, Fr.refl _ _⟩
  rw [if_neg h1]
  obtain ⟨p, rfl⟩ := Int.eq_ofNat_of_zero_le (show 0 ≤ p by omega)
  obtain ⟨q, rfl⟩ := Int.eq_ofNat_of_zero_le (show 0 ≤ q by omega)
  clear h1
  by_cases h2 : 24 ≤ M.rt.length
  · rw [if_pos h2]
    go_enter Tryz.func138, Tryz.ntmps138
    go_wp2_with fail
    go_ret
    exact ⟨rfl, hG, Fr.refl _ _⟩
  rw [if_neg h2]
  have h2' : M.rt.length < 24 := by omega
  clear h2
  by_cases h3 : (48 : Int) < p ∨ (48 : Int) < q
  · rw [if_pos (by omega)]
    have h3 : (48 : Int) < p ∨ ((p : Int) ≤ 48 ∧ (48 : Int) < q) := by omega
    rcases h3 with h3 | ⟨h3, h4⟩
    all_goals
      go_enter Tryz.func138, Tryz.ntmps138
      go_wp2_with fail
      go_ret
      exact ⟨rfl, hG, Fr.refl _ _⟩
  have hp : p ≤ 48 := by omega
  have hq : q ≤ 48 := by omega
  clear h3
  have hlb : M.gh.live ≤ 48 * 97 := by have := mi.live_le; omega
  generalize hlv : M.gh.live = lv at *
  by_cases h4 : (48 : Int) < (lv : Int) + 1 + p + q
  · rw [if_pos (by omega)]
    go_enter Tryz.func138, Tryz.ntmps138
    go_wp2_with fail
    refine LVF.mono ?_
    rintro e w1 ⟨rfl, _, f1⟩
    go_wp2_with fail
    go_ret
    exact ⟨rfl, hG' _ f1, f1.mono (fun _ _ h => h.elim)⟩
  · rw [if_neg (by omega)]
    have h4' : ¬ ((48 : Int) < (lv : Int) + 1 + p + q) := h4
    have Hlv : Hid _ := hlv
    clear hlv h4
    simp only [Int.toNat_natCast]
    have hO := V.lt
    have hmO := V.om
    go_enter Tryz.func138, Tryz.ntmps138
    go_wp2_with fail
    refine LVF.mono ?_
    rintro e w1 ⟨rfl, V1, f1⟩
    go_wp2_with fail
    refine (tidyMF V1 mi h24).mono ?_
    rintro e w2 ⟨rfl, ⟨ov2, rv2, g2, V2⟩, f2⟩
    have F2 : Fr O w w2 := (f1.mono (fun _ _ h => h.elim)).trans f2 (fun _ _ h => h)
    have hTM : (tidyM M).rt.length < 24 := by simp [tidyM]; omega
    have hTL : (tidyM M).objs.length ≤ 47 := by have := live_len M.gh; have := (tidied mi).2.2; rw [Hlv.out] at *; omega
    have Hw12 : Hid (w.heap.size ≤ w1.heap.size ∧ w1.heap.size ≤ w2.heap.size) := ⟨f1.size, f2.size⟩
    obtain ⟨TM, hTMd⟩ : ∃ TM, tidyM M = TM := ⟨_, rfl⟩
    rw [hTMd] at V2 hTM hTL
    have HTM : Hid _ := hTMd
    clear hTMd
    clear c0 c1 hlt hz V V1 hG hG' LVF f1 f2
    go_wp2_with fail
    go_cut [7] from 39 (fun t wx => ∃ tb b1 b2, t = .pointer (some ⟨tb, 0, none⟩) ∧ Mk w2 p q tb b1 b2 wx)
    case first =>
      refine wp_region_six [0, 2] 1 3 5 [4, 5, 6] [3, 4, 6] [4, 5, 6] [1, 4, 6] [3, 4, 6] [1, 4, 6] 3 (by kernel_rfl) (by kernel_rfl) ?_
      simp only [pick, List.filterMap_cons, List.filterMap_nil, List.getElem?_cons_zero, List.getElem?_cons_succ]
      go_wp2_with fail
      refine ⟨?_, ?_, ?_⟩
      · refine wpList_makeB (by rfl) 36 _ _ (by rfl) 3 1 8 (iv 0) p (by rfl) (by rfl) Tryz.underlying36 (by kernel_rfl) (by kernel_rfl) (by kernel_rfl) (by omega) (by omega) ?_
        intro wa fwa zwa bwa
        have B1 : Blk wa w2.heap.size p (fun _ => .int .i64 0) := made0 bwa
        have hza : wa.heap.size = w2.heap.size + 1 := zwa
        clear zwa bwa
        have FA : Fr (fun _ => False) w2 wa := (Fr.refl (fun _ => False) w2).drew.trans fwa (fun _ _ h => h)
        go_wp2_with fail
        refine ⟨?_, ?_⟩
        · refine wpList_makeB (by rfl) 36 _ _ (by rfl) 3 1 8 (iv 0) q (by rfl) (by rfl) Tryz.underlying36 (by kernel_rfl) (by kernel_rfl) (by kernel_rfl) (by omega) (by omega) ?_
          intro wb fwb zwb bwb
          have B2 := made0 bwb
          rw [hza] at B2
          have hzb : wb.heap.size = w2.heap.size + 1 + 1 := by omega
          have B1' := B1.frame fwb (fun h => h)
          have HM := Mk.mkA (FA.trans fwb (fun _ _ h => h)) B1' B2 (Nat.le_refl _) (by omega) (by omega)
          rw [hzb] at HM
          have Hk : Hid _ := HM
          clear zwb bwb HM
          go_wp2_with fail
          go_meet
          exact ⟨_, _, _, rfl, Hk.out⟩
        · have hZ := objz wa (.slice none 0 0) (.slice none 0 0)
          refine wpList_run (by rfl) (.pointer (some ⟨wa.heap.size, 0, none⟩)) (wa.alloc (.cells #[.slice none 0 0, .slice none 0 0] 195)) (by kernel_rfl) ?_
          refine wpList_makeB (by rfl) 36 _ _ (by rfl) 3 1 8 (iv 0) q (by rfl) (by rfl) Tryz.underlying36 (by kernel_rfl) (by kernel_rfl) (by kernel_rfl) (by omega) (by omega) ?_
          intro wb fwb zwb bwb
          have hZ5 := hZ.frame fwb (fun h => h)
          rw [hza] at hZ5
          have o0 := hZ5.cell (o := 0) (by omega)
          have o1 := hZ5.cell (o := 1) (by omega)
          have ol := hZ5.lt
          have oz := hZ5.frozen
          simp only [mc] at o0 o1
          have B2 := made0 bwb
          have B1' := (B1.alloc (.cells #[.slice none 0 0, .slice none 0 0] 195)).frame fwb (fun h => h)
          have hzb := zwb
          simp only [World.size_alloc, hza] at B2 hzb
          have Hk : Hid _ := Mk.mkB ((FA.alloc _).trans fwb (fun _ _ h => h)) hZ5 B1' B2 (by omega) (Nat.le_refl _) (by omega) ⟨by omega, by omega, by omega⟩
          clear zwb bwb
          go_wp2_with fail
          go_meet
          exact ⟨_, _, _, rfl, Hk.out⟩
      · refine wpList_makeB (by rfl) 36 _ _ (by rfl) 3 1 8 (iv 0) q (by rfl) (by rfl) Tryz.underlying36 (by kernel_rfl) (by kernel_rfl) (by kernel_rfl) (by omega) (by omega) ?_
        intro wa fwa zwa bwa
        have B2 : Blk wa w2.heap.size q (fun _ => .int .i64 0) := made0 bwa
        have hza : wa.heap.size = w2.heap.size + 1 := zwa
        clear zwa bwa
        have FA : Fr (fun _ => False) w2 wa := (Fr.refl (fun _ => False) w2).drew.trans fwa (fun _ _ h => h)
        go_wp2_with fail
        refine ⟨?_, ?_⟩
        · refine wpList_makeB (by rfl) 36 _ _ (by rfl) 3 1 8 (iv 0) p (by rfl) (by rfl) Tryz.underlying36 (by kernel_rfl) (by kernel_rfl) (by kernel_rfl) (by omega) (by omega) ?_
          intro wb fwb zwb bwb
          have B1 := made0 bwb
          rw [hza] at B1
          have hzb : wb.heap.size = w2.heap.size + 1 + 1 := by omega
          have B2' := B2.frame fwb (fun h => h)
          have HM := Mk.mkA (FA.trans fwb (fun _ _ h => h)) B1 B2' (by omega) (Nat.le_refl _) (by omega)
          rw [hzb] at HM
          have Hk : Hid _ := HM
          clear zwb bwb HM
          go_wp2_with fail
          go_meet
          exact ⟨_, _, _, rfl, Hk.out⟩
        · have hZ := objz wa (.slice none 0 0) (.slice none 0 0)
          refine wpList_run (by rfl) (.pointer (some ⟨wa.heap.size, 0, none⟩)) (wa.alloc (.cells #[.slice none 0 0, .slice none 0 0] 195)) (by kernel_rfl) ?_
          refine wpList_makeB (by rfl) 36 _ _ (by rfl) 3 1 8 (iv 0) p (by rfl) (by rfl) Tryz.underlying36 (by kernel_rfl) (by kernel_rfl) (by kernel_rfl) (by omega) (by omega) ?_
          intro wb fwb zwb bwb
          have hZ5 := hZ.frame fwb (fun h => h)
          rw [hza] at hZ5
          have o0 := hZ5.cell (o := 0) (by omega)
          have o1 := hZ5.cell (o := 1) (by omega)
          have ol := hZ5.lt
          have oz := hZ5.frozen
          simp only [mc] at o0 o1
          have B1 := made0 bwb
          have B2' := (B2.alloc (.cells #[.slice none 0 0, .slice none 0 0] 195)).frame fwb (fun h => h)
          have hzb := zwb
          simp only [World.size_alloc, hza] at B1 hzb
          have Hk : Hid _ := Mk.mkB ((FA.alloc _).trans fwb (fun _ _ h => h)) hZ5 B1 B2' (by omega) (by omega) (Nat.le_refl _) ⟨by omega, by omega, by omega⟩
          clear zwb bwb
          go_wp2_with fail
          go_meet
          exact ⟨_, _, _, rfl, Hk.out⟩
      · have hZ := objz w2 (.slice none 0 0) (.slice none 0 0)
        go_wp2_with fail
        have FZ : Fr (fun _ => False) w2 (w2.alloc (.cells #[.slice none 0 0, .slice none 0 0] 195)).drew := ((Fr.refl (fun _ => False) w2).alloc _).drew
        have hZd := hZ.drew
        have hzD : (w2.alloc (.cells #[.slice none 0 0, .slice none 0 0] 195)).drew.heap.size = w2.heap.size + 1 := by simp
        refine ⟨?_, ?_⟩
        · refine wpList_makeB (by rfl) 36 _ _ (by rfl) 3 1 8 (iv 0) p (by rfl) (by rfl) Tryz.underlying36 (by kernel_rfl) (by kernel_rfl) (by kernel_rfl) (by omega) (by omega) ?_
          intro wa fwa zwa bwa
          refine wpList_makeB (by rfl) 36 _ _ (by rfl) 3 1 8 (iv 0) q (by rfl) (by rfl) Tryz.underlying36 (by kernel_rfl) (by kernel_rfl) (by kernel_rfl) (by omega) (by omega) ?_
          intro wb fwb zwb bwb
          have hZ5 := (hZd.frame fwa (fun h => h)).frame fwb (fun h => h)
          have o0 := hZ5.cell (o := 0) (by omega)
          have o1 := hZ5.cell (o := 1) (by omega)
          have ol := hZ5.lt
          have oz := hZ5.frozen
          simp only [mc] at o0 o1
          have B1 := made0 bwa
          have B2 := made0 bwb
          have B1' := B1.frame fwb (fun h => h)
          have hzb := zwb
          have hza := zwa
          rw [hzD] at hza B1'
          rw [hza] at B2 hzb
          have Hk : Hid _ := Mk.mkB ((FZ.trans fwa (fun _ _ h => h)).trans fwb (fun _ _ h => h)) hZ5 B1' B2 (Nat.le_refl _) (by omega) (by omega) ⟨by omega, by omega, by omega⟩
          clear zwa zwb bwa bwb hzD
          go_wp2_with fail
          go_meet
          exact ⟨_, _, _, rfl, Hk.out⟩
        · refine wpList_makeB (by rfl) 36 _ _ (by rfl) 3 1 8 (iv 0) q (by rfl) (by rfl) Tryz.underlying36 (by kernel_rfl) (by kernel_rfl) (by kernel_rfl) (by omega) (by omega) ?_
          intro wa fwa zwa bwa
          refine wpList_makeB (by rfl) 36 _ _ (by rfl) 3 1 8 (iv 0) p (by rfl) (by rfl) Tryz.underlying36 (by kernel_rfl) (by kernel_rfl) (by kernel_rfl) (by omega) (by omega) ?_
          intro wb fwb zwb bwb
          have hZ5 := (hZd.frame fwa (fun h => h)).frame fwb (fun h => h)
          have o0 := hZ5.cell (o := 0) (by omega)
          have o1 := hZ5.cell (o := 1) (by omega)
          have ol := hZ5.lt
          have oz := hZ5.frozen
          simp only [mc] at o0 o1
          have B2 := made0 bwa
          have B1 := made0 bwb
          have B2' := B2.frame fwb (fun h => h)
          have hzb := zwb
          have hza := zwa
          rw [hzD] at hza B2'
          rw [hza] at B1 hzb
          have Hk : Hid _ := Mk.mkB ((FZ.trans fwa (fun _ _ h => h)).trans fwb (fun _ _ h => h)) hZ5 B1 B2' (Nat.le_refl _) (by omega) (by omega) ⟨by omega, by omega, by omega⟩
          clear zwa zwb bwa bwb hzD
          go_wp2_with fail
          go_meet
          exact ⟨_, _, _, rfl, Hk.out⟩
    case rest =>
      obtain ⟨tb, b1, b2, rfl, HM⟩ := hcut
      have hO2 := V2.lt
      have V3 := V2.frame HM.fr (fun _ _ h => h)
      have hlo := HM.lo
      have hne := HM.ne
      have t0 := HM.blk.cell (o := 0) (by omega)
      have tl := HM.blk.lt
      simp only [mc] at t0
      have Hw := Hw12.out
      have F3 : Fr O w wc := F2.trans HM.fr (fun _ _ h => h.elim)
      go_wp2_with fail
      go_loopg [47] p (fun g kv wr => ∃ i : Nat, kv = .int .i64 i ∧ i + g = p ∧ Blk wr b1 p (fun t => if t < i then .int .i64 (-1) else .int .i64 0) ∧ Fr (fun c => c = b1) wc wr)
      case atStart => exact ⟨0, rfl, by omega, HM.k1.congr (fun o _ => by simp), Fr.refl _ _⟩
      case round =>
        clear t0 tl
        obtain ⟨i, rfl, hig, hB1, k4⟩ := hrel
        have hig' : i + gk = p := hig
        clear hig
        have hT := HM.blk.frame k4 hne.1
        have t0 := hT.cell (o := 0) (by omega)
        have tl := hT.lt
        simp only [mc] at t0
        by_cases hi : i < p
        · have hi' : (i : Int) < p := by omega
          have cb := hB1.cell hi
          have zb := hB1.frozen i
          have lb := hB1.lt
          simp only [Nat.lt_irrefl, if_false] at cb
          have kS := k4.setC b1 i (.int .i64 (-1)) (fun _ => rfl)
          have bS := (hB1.set i (.int .i64 (-1))).congr (g := fun t => if t < i + 1 then .int .i64 (-1) else .int .i64 0) (fun o _ => by
            simp only [upd]
            by_cases e : o = i
            · subst e; simp
            · by_cases h : o < i
              · simp [e, h, show o < i + 1 by omega]
              · simp [e, h, show ¬ o < i + 1 by omega])
          have Hk : Hid (_ ∧ _) := ⟨bS, kS⟩
          clear bS kS hB1 hT
          go_wp2_with fail
          go_roundg (gk - 1)
          case measure => omega
          case rel => exact ⟨i + 1, by simp, by omega, Hk.out.1, Hk.out.2⟩
        · have hin : i = p := by omega
          subst hin
          have hi2 : ¬ ((i : Int) < i) := by omega
          have V4 := V3.frame k4 (fun c hc e => by have := hO2 c hc; omega)
          have hB2 := HM.k2.frame k4 (Ne.symm hne.2.2)
          have t1 := hT.cell (o := 1) (by omega)
          simp only [mc] at t1
          have kA := ((Fr.refl (fun _ => False) wr).alloc (.cells #[.slice (some ⟨b1, 0, none⟩) i i, .slice (some ⟨b2, 0, none⟩) q q] 195)).drew
          have VA := V4.frame kA (fun _ _ h => h)
          have hx := (objz wr (.slice (some ⟨b1, 0, none⟩) i i) (.slice (some ⟨b2, 0, none⟩) q q)).drew
          have x0 := hx.cell (o := 0) (by omega)
          have x1 := hx.cell (o := 1) (by omega)
          simp only [mc] at x0 x1
          have K1 : KiAt (wr.alloc (.cells #[.slice (some ⟨b1, 0, none⟩) i i, .slice (some ⟨b2, 0, none⟩) q q] 195)).drew (.slice (some ⟨b1, 0, none⟩) i i) (List.replicate i (-1)) := .inr ⟨b1, i, _, by simp, by simp, (hB1.alloc _).drew, fun t ht => by simp at ht; simp [ht]⟩
          have K2 : KiAt (wr.alloc (.cells #[.slice (some ⟨b1, 0, none⟩) i i, .slice (some ⟨b2, 0, none⟩) q q] 195)).drew (.slice (some ⟨b2, 0, none⟩) q q) (List.replicate q 0) := .inr ⟨b2, q, _, by simp, by simp, (hB2.alloc _).drew, fun t ht => by simp at ht; simp⟩
          have ho1 : ¬ Gw O w1 w2 b1 := fun h => by have := hO2 _ h; omega
          have ho2 : ¬ Gw O w1 w2 b2 := fun h => by have := hO2 _ h; omega
          have FA : Fr O w (wr.alloc (.cells #[.slice (some ⟨b1, 0, none⟩) i i, .slice (some ⟨b2, 0, none⟩) q q] 195)).drew := (F3.trans k4 (fun c hc e => by omega)).trans kA (fun _ _ h => h.elim)
          obtain ⟨c0, c1, hlt, hz⟩ := V4.cells
          have hwr := k4.size
          have hwc := HM.fr.size
          clear hB1 hT hig'
          go_wp2_with fail
          refine wp_region_stop [0, 1, 2, 3, 4, 5, 6] [7, 8, 9, 10] (by kernel_rfl) (by kernel_rfl) ?_
          simp only [pick, List.filterMap_cons, List.filterMap_nil, List.getElem?_cons_zero, List.getElem?_cons_succ]
          go_wp2_with fail
          refine ⟨?_⟩
          refine wpList_appendO (by rfl) _ _ (by rfl) _ TM.objs.length g2 (.slice (some ⟨b1, 0, none⟩) i i) (.slice (some ⟨b2, 0, none⟩) q q) wr.heap.size 1 (by rfl) (by rfl) VA.ob x0 x1 VA.one1 ⟨rfl, rfl⟩ (by omega) ?_
          rintro v' w5 f' hO' hf hf1 hf2 hb5 ⟨b', m', c', hv'⟩ k5
          have VG := VA.growOb k5 hO' hf hf1 hf2 K1 K2 ho1 ho2 hne.2.2 hb5
          have hm' : m' = TM.objs.length + 1 := by
            rcases hO' with ⟨h, _⟩ | ⟨_, _, h, _⟩
            · rw [hv'] at h; cases h
            · rw [hv'] at h; cases h; rfl
          subst hm'
          subst hv'
          have ovO : ∀ c, isB ov2 c → Gw O w1 w2 c := fun c hc => (V2.own 1 c (by omega) hc).1
          have cm := VA.blk.frame k5 (fun h => (V2.own 1 m (by omega) h).2 rfl)
          have cm0 := cm.cell (o := 0) (by omega)
          have cml := cm.lt
          have cmz := cm.frozen
          have k5s := k5.size
          have F5 : Fr O w (w5.setCell ⟨m, 0, none⟩ (.slice (some ⟨b', 0, none⟩) (TM.objs.length + 1) c')) := (FA.trans k5 (fun c hc h => by
            rcases ovO c h with h | h
            · exact h
            · omega)).setC m 0 _ (fun _ => hmO)
          have hAs : (wr.alloc (.cells #[.slice (some ⟨b1, 0, none⟩) i i, .slice (some ⟨b2, 0, none⟩) q q] 195)).drew.heap.size = wr.heap.size + 1 := by simp
          rw [hAs] at k5s
          have kB := ((Fr.refl (fun _ => False) (w5.setCell ⟨m, 0, none⟩ (.slice (some ⟨b', 0, none⟩) (TM.objs.length + 1) c'))).alloc (.cells #[.int .i64 (TM.objs.length : Nat)] 3)).drew
          have VB := VG.frame kB (fun _ _ h => h)
          have hx2 : KiP ((w5.setCell ⟨m, 0, none⟩ (.slice (some ⟨b', 0, none⟩) (TM.objs.length + 1) c')).alloc (.cells #[.int .i64 (TM.objs.length : Nat)] 3)).drew (w5.setCell ⟨m, 0, none⟩ (.slice (some ⟨b', 0, none⟩) (TM.objs.length + 1) c')).heap.size [((TM.objs.length : Nat) : Int)] := KiP.one ((Blk.new _ #[.int .i64 (TM.objs.length : Nat)] 3 (fun _ => .int .i64 (TM.objs.length : Nat)) (fun o ho => by
            have ho : o < 1 := by simpa using ho
            obtain rfl : o = 0 := by omega
            rfl)).drew.cell (by simp))
          obtain ⟨e0, e1, elt, ez⟩ := VG.cells
          have hW6 : (w5.setCell ⟨m, 0, none⟩ (.slice (some ⟨b', 0, none⟩) (TM.objs.length + 1) c')).heap.size = w5.heap.size := by simp
          rw [hW6] at hx2
          go_wp2_with fail
          refine ⟨by kernel_rfl, ?_⟩
          go_wp2_with fail
          refine wp_region_stop [0, 1, 2, 3, 4, 5, 6, 7, 8, 9, 10, 11] [12, 13, 14, 15] (by kernel_rfl) (by kernel_rfl) ?_
          simp only [pick, List.filterMap_cons, List.filterMap_nil, List.getElem?_cons_zero, List.getElem?_cons_succ]
          go_wp2_with fail
          refine ⟨?_⟩
          refine wpList_appendI (by rfl) _ _ (by rfl) _ _ [((TM.objs.length : Nat) : Int)] _ 1 1 (by rfl) (by rfl) rfl VB.rt hx2 (.inr (by simp)) (by simp; omega) ?_
          intro v7 w7 hc7 hb7 f7
          obtain ⟨va, vc, hvv, _⟩ := hc7.sl
          simp only [List.length_append, List.length_singleton] at hvv
          subst hvv
          have VR := VB.growRt f7 hc7 hb7
          have dm := VB.blk.frame f7 (fun hh => (VB.own 0 m (by omega) hh).2 rfl)
          have dm1 := dm.cell (o := 1) (by omega)
          have dml := dm.lt
          have dmz := dm.frozen
          have f7s := f7.size
          have hBs : ((w5.setCell ⟨m, 0, none⟩ (.slice (some ⟨b', 0, none⟩) (TM.objs.length + 1) c')).alloc (.cells #[.int .i64 (TM.objs.length : Nat)] 3)).drew.heap.size = w5.heap.size + 1 := by simp
          rw [hBs] at f7s
          have rvO : ∀ c, isB rv2 c → Gw O w1 w2 c := fun c hc => (V2.own 0 c (by omega) hc).1
          have F7 : Fr O w (w7.setCell ⟨m, 1, none⟩ (.slice va (TM.rt.length + 1) vc)) := ((F5.trans kB (fun _ _ h => h.elim)).trans f7 (fun c hc h => by
            rcases rvO c h with h | h
            · exact h
            · omega)).setC m 1 _ (fun _ => hmO)
          have hV : MM (w7.setCell ⟨m, 1, none⟩ (.slice va (TM.rt.length + 1) vc)) m (bornG TM i q) (Gw O w (w7.setCell ⟨m, 1, none⟩ (.slice va (TM.rt.length + 1) vc))) := by
            refine ⟨_, _, _, VR.up (fun c hc => ?_) (fun c hc => ?_)⟩
            · have hs : (w7.setCell ⟨m, 1, none⟩ (.slice va (TM.rt.length + 1) vc)).heap.size = w7.heap.size := by simp
              unfold Gw at hc ⊢
              rw [hs]
              rcases hc with (hc | hc | hc | hc) | hc
              · rcases hc with hc | hc
                · exact .inl hc
                · exact .inr (by omega)
              · have := HM.k1.lt; exact .inr (by omega)
              · have := HM.k2.lt; exact .inr (by omega)
              · rw [hAs] at hc; exact .inr (by omega)
              · rw [hBs] at hc; exact .inr (by omega)
            · have hs : (w7.setCell ⟨m, 1, none⟩ (.slice va (TM.rt.length + 1) vc)).heap.size = w7.heap.size := by simp
              rw [hs]
              unfold Gw at hc
              rw [hs] at hc
              rcases hc with hc | hc
              · have := hO c hc; omega
              · exact hc.2
          have Hk : Hid (_ ∧ _) := ⟨hV, F7⟩
          clear hV F7 VR
          go_wp2_with fail
          refine ⟨by kernel_rfl, ?_⟩
          go_wp2_with fail
          go_ret
          rw [HTM.out]
          exact ⟨rfl, Hk.out.1, Hk.out.2⟩
set_option maxHeartbeats 1000000 in
theorem newMF (w : World) : Calls Tryz.prog 26 #[] w fun e w' => e = .returned (.pointer (some ⟨w.heap.size, 0, none⟩)) ∧ MM w' w.heap.size ⟨[], []⟩ (fun c => c = w.heap.size) ∧ Fr (fun _ => False) w w' := by
  have hb : Blk (w.alloc (.cells #[.slice none 0 0, .slice none 0 0] 127)) w.heap.size 2 (mc (.slice none 0 0) (.slice none 0 0)) := Blk.new w _ _ _ fun o ho => by
    have ho : o < 2 := by simpa using ho
    obtain rfl | rfl : o = 0 ∨ o = 1 := by omega
    all_goals rfl
  have k := (Fr.refl (fun _ => False) w).alloc (.cells #[.slice none 0 0, .slice none 0 0] 127)
  have hz : ∀ p c, p < 2 + 2 * ([] : List (List Int × List Int)).length → ¬ isB (vl (.slice none 0 0) (.slice none 0 0) (fun _ => .slice none 0 0) p) c := fun p c hp hc => by
    simp at hp
    obtain rfl | rfl : p = 0 ∨ p = 1 := by omega
    all_goals exact nil_noB c hc
  go_enter Tryz.func26, Tryz.ntmps26
  go_wp2_with fail
  go_ret
  exact ⟨rfl, ⟨_, _, fun _ => .slice none 0 0, hb, .inl ⟨rfl, rfl⟩, .inl ⟨rfl, rfl⟩, fun i hi => by simp at hi, fun p q c hp _ h1 _ => absurd h1 (hz p c hp), fun p c hp h1 => absurd h1 (hz p c hp), rfl, fun c hc => by simp [hc], fun i hi => by simp at hi⟩, k⟩
end Go.Proofs.Qxb6500277aGreat
