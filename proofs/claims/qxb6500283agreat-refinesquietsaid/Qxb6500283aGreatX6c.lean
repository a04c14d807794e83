/- ways: grp. -/
import Derived.Test.Qxb6500283aGreatX5
namespace Go.Proofs.Qxb6500283aGreat
open Go Go.RowKit

section
variable {ns : List Nd} {bk cp : Nat} {y g : Int} {s : ByteArray} {k A B C : Nat} {mn mx na nb cap : Int} {lz : Bool} {st : BSet} {f h : Wf} {w : World} {i : Nat} {c : Cp}
def gw (K i : Nat) (w : Wy) : Wy := (w.1, setC (setC w.2 (2 * K) i) (2 * K + 1) w.1)
theorem grp_at (f : Nat → Value) (l : List Wy) (K i j : Nat) (hK : K ≤ 3) (hj : j < l.length) (hf : Holds9 f ((l.take j).map (gw K i) ++ l.drop j)) : Holds9 (upd (upd f (j * 9 + 1 + 2 * K) (.int .i64 (i : Nat))) (j * 9 + 1 + (2 * K + 1)) (.int .i64 (l[j].1 : Nat))) ((l.take (j + 1)).map (gw K i) ++ l.drop (j + 1)) := by
  have e1 : (l.take (j + 1)).map (gw K i) ++ l.drop (j + 1) = ((l.take j).map (gw K i) ++ l.drop j).set j (gw K i l[j]) := by
    apply List.ext_getElem?
    intro m
    have lj : ((l.take j).map (gw K i)).length = j := by simp; omega
    have lj1 : ((l.take (j + 1)).map (gw K i)).length = j + 1 := by simp; omega
    by_cases hm : m = j
    · subst hm
      rw [List.getElem?_append_left (by omega), List.getElem?_set_self (by simp; omega)]
      simp [hj]
    · rw [List.getElem?_set_ne (fun h => hm h.symm)]
      by_cases hlt : m < j
      · rw [List.getElem?_append_left (by omega), List.getElem?_append_left (by omega)]
        simp [hlt, show m < j + 1 by omega]
      · rw [List.getElem?_append_right (by omega), List.getElem?_append_right (by omega), lj, lj1, List.getElem?_drop, List.getElem?_drop]
        congr 1
        omega
  rw [e1]
  intro m hm x hx
  rw [List.length_set] at hm
  rw [List.getElem_set]
  by_cases he : j = m
  · subst he
    rw [if_pos rfl]
    have h0 := hf j hm x hx
    have e2 : ((l.take j).map (gw K i) ++ l.drop j)[j] = l[j] := by
      rw [List.getElem_append_right (by simp; omega)]
      simp
      congr 1
      omega
    rw [e2] at h0
    by_cases h1 : x = 2 * K + 1 + 1
    · subst h1
      rw [show j * 9 + (2 * K + 1 + 1) = j * 9 + 1 + (2 * K + 1) by omega, upd_same]
      simp [wyCell, gw, setC]
    · rw [upd_other _ _ _ _ (by omega)]
      by_cases h2 : x = 2 * K + 1
      · subst h2
        rw [show j * 9 + (2 * K + 1) = j * 9 + 1 + 2 * K by omega, upd_same]
        simp [wyCell, gw, setC]
      · rw [upd_other _ _ _ _ (by omega), h0]
        cases x with
        | zero => rfl
        | succ x => simp [wyCell, gw, setC, show ¬ x = 2 * K + 1 by omega, show ¬ x = 2 * K by omega]
  · rw [if_neg he, upd_other _ _ _ _ (by omega), upd_other _ _ _ _ (by omega)]
    exact hf m hm x hx
set_option maxRecDepth 100000 in
set_option maxHeartbeats 16000000 in
theorem ways_grp (hN : NPAt w bk ns) (hbl : bk < w.heap.size) (hs : s.size ≤ 256) (hi : i ≤ s.size) (hk24 : (k : Int) < ns.length) (n0 : w.cell? ⟨bk, k * 11, none⟩ = some (.int .i64 7)) (n1 : w.cell? ⟨bk, k * 11 + 1, none⟩ = some (.int .i64 (A : Nat))) (n2 : w.cell? ⟨bk, k * 11 + 2, none⟩ = some (.int .i64 nb)) (n3 : w.cell? ⟨bk, k * 11 + 3, none⟩ = some (.int .i64 mn)) (n4 : w.cell? ⟨bk, k * 11 + 4, none⟩ = some (.int .i64 mx)) (n5 : w.cell? ⟨bk, k * 11 + 5, none⟩ = some (.int .i64 (C : Nat))) (n6 : w.cell? ⟨bk, k * 11 + 6, none⟩ = some (.bool lz)) (n7 : w.cell? ⟨bk, k * 11 + 7, none⟩ = some (.int .u64 (wd st 0 : Nat))) (n8 : w.cell? ⟨bk, k * 11 + 8, none⟩ = some (.int .u64 (wd st 1 : Nat))) (n9 : w.cell? ⟨bk, k * 11 + 9, none⟩ = some (.int .u64 (wd st 2 : Nat))) (n10 : w.cell? ⟨bk, k * 11 + 10, none⟩ = some (.int .u64 (wd st 3 : Nat))) (hC3 : C ≤ 3) (gf : Good s.size f) (hF : WC ns bk cp y g s A f) :
    Calls Tryz.prog 106 #[.agg #[.slice (some ⟨bk, 0, none⟩) ns.length cp, .int .i64 y, .int .i64 g, .int .i64 0, .int .i64 0], .string s, .int .i64 (k : Nat), .int .i64 (i : Nat), capV c] w (WPost w (grpF f C i c)) := by
  have f3 := (((Fr.refl (fun _ => False) w).alloc (.cells #[.slice (some ⟨bk, 0, none⟩) ns.length cp, .int .i64 y, .int .i64 g, .int .i64 0, .int .i64 0] 148)).alloc (.cells #[.int .i64 (c 0), .int .i64 (c 1), .int .i64 (c 2), .int .i64 (c 3), .int .i64 (c 4), .int .i64 (c 5), .int .i64 (c 6), .int .i64 (c 7)] 64)).alloc (.cells #[.int .i64 7, .int .i64 (A : Nat), .int .i64 nb, .int .i64 mn, .int .i64 mx, .int .i64 (C : Nat), .bool lz, .int .u64 (wd st 0 : Nat), .int .u64 (wd st 1 : Nat), .int .u64 (wd st 2 : Nat), .int .u64 (wd st 3 : Nat)] 97)
  have hNd := Blk.nd ((w.alloc (.cells #[.slice (some ⟨bk, 0, none⟩) ns.length cp, .int .i64 y, .int .i64 g, .int .i64 0, .int .i64 0] 148)).alloc (.cells #[.int .i64 (c 0), .int .i64 (c 1), .int .i64 (c 2), .int .i64 (c 3), .int .i64 (c 4), .int .i64 (c 5), .int .i64 (c 6), .int .i64 (c 7)] 64)) ⟨7, (A : Nat), nb, mn, mx, (C : Nat), lz, st⟩
  have hTv := ((Blk.tv w (.slice (some ⟨bk, 0, none⟩) ns.length cp) (.int .i64 y) (.int .i64 g) (.int .i64 0) (.int .i64 0)).alloc (.cells #[.int .i64 (c 0), .int .i64 (c 1), .int .i64 (c 2), .int .i64 (c 3), .int .i64 (c 4), .int .i64 (c 5), .int .i64 (c 6), .int .i64 (c 7)] 64)).alloc (.cells #[.int .i64 7, .int .i64 (A : Nat), .int .i64 nb, .int .i64 mn, .int .i64 mx, .int .i64 (C : Nat), .bool lz, .int .u64 (wd st 0 : Nat), .int .u64 (wd st 1 : Nat), .int .u64 (wd st 2 : Nat), .int .u64 (wd st 3 : Nat)] 97)
  have hCp := (Blk.cap (w.alloc (.cells #[.slice (some ⟨bk, 0, none⟩) ns.length cp, .int .i64 y, .int .i64 g, .int .i64 0, .int .i64 0] 148)) c).alloc (.cells #[.int .i64 7, .int .i64 (A : Nat), .int .i64 nb, .int .i64 mn, .int .i64 mx, .int .i64 (C : Nat), .bool lz, .int .u64 (wd st 0 : Nat), .int .u64 (wd st 1 : Nat), .int .u64 (wd st 2 : Nat), .int .u64 (wd st 3 : Nat)] 97)
  simp only [World.size_alloc] at hNd hTv hCp
  have hiI : (i : Int) ≤ s.size := by omega
  have hsI : (s.size : Int) ≤ 256 := by omega
  unfold capV
  have hCI : (C : Int) ≤ 3 := by omega
  have hF4 := hF _ i c (hN.frame f3 (fun h => h)) (by simp only [World.size_alloc]; omega) hi
  unfold capV at hF4
  have HF4 : Hid _ := hF4
  clear hF4
  go_enter Tryz.func106, Tryz.ntmps106
  go_wp2_with fail
  refine Calls.mono HF4.out ?_
  rintro v w5 ⟨av, rfl, hA5, hAo, f5⟩
  have hNd5 := hNd.frame f5 (fun h => h)
  have F5 := f3.trans f5 (fun _ _ h => h)
  have hsz5 := f5.size
  simp only [World.size_alloc] at hAo hsz5
  have lo := gf.lo i c hi
  have nd := gf.nd i c hi
  have hlen := ways_len nd (fun x hx => (lo x hx).2)
  clear hNd hTv hCp f3 f5 n0 n1 n2 n3 n4 n5 n6 n7 n8 n9 n10 HF4
  obtain ⟨al, Hal⟩ : ∃ al, Hid (al = f i c) := ⟨_, rfl⟩
  rw [← Hal.out] at hlen lo nd hA5
  have halI : (al.length : Int) ≤ 257 := by omega
  rcases hA5 with ⟨rfl, hnil⟩ | ⟨q, ac, fa, rfl, hac, hqb, hqf⟩
  · have hFin : grpF f C i c = [] := by unfold grpF; rw [← Hal.out, hnil]; rfl
    go_wp2_with fail
    refine wp_loop_rounds 1 ?_
    rw [rounds_succ]
    go_wp2_with fail
    go_ret
    exact ⟨_, rfl, .inl ⟨rfl, hFin⟩, fun q ⟨n', c', e⟩ => (by cases e), F5⟩
  have hqo := hAo q ⟨_, _, rfl⟩
  have hql := hqb.lt
  go_wp2_with fail
  go_loopg [19] al.length (fun gq kv wr => ∃ (j : Nat) (fb : Nat → Value), kv = .int .i64 (j : Nat) ∧ j + gq = al.length ∧ Blk wr q (ac * 9) fb ∧ Holds9 fb ((al.take j).map (gw C i) ++ al.drop j) ∧ Fr (fun b => b = q) w5 wr)
  case atStart => exact ⟨0, fa, rfl, by omega, hqb, by simpa using hqf, Fr.refl _ _⟩
  case round =>
    obtain ⟨j, fb, rfl, hjg, hB, hH9, hfr⟩ := hrel
    have hjg' : j + gk = al.length := hjg
    clear hjg
    have hszr := hfr.size
    have hNdr := hNd5.frame hfr (by omega)
    have lNd := hNdr.lt
    have m5 := hNdr.cell (o := 5) (by omega)
    simp only [ndCell] at m5
    by_cases hjl : j < al.length
    · have hjI : decide ((j : Int) < al.length) = true := decide_eq_true (by omega)
      have hjn : (j : Int) < al.length := by omega
      have hgl : ((al.take j).map (gw C i) ++ al.drop j).length = al.length := by simp; omega
      have e2 : ((al.take j).map (gw C i) ++ al.drop j)[j]'(by rw [hgl]; exact hjl) = al[j] := by
        rw [List.getElem_append_right (by simp; omega)]
        simp
        congr 1
        omega
      have hcE := hH9 j (by rw [hgl]; exact hjl) 0 (by omega)
      rw [e2] at hcE
      simp only [wyCell, Nat.add_zero] at hcE
      have cE := hB.cell (o := j * 9) (by omega)
      rw [hcE] at cE
      have z := hB.frozen
      have lB := hB.lt
      have c1 := hB.cell (o := j * 9 + 1 + 2 * C) (by omega)
      have c2 := hB.cell (o := j * 9 + 1 + (2 * C + 1)) (by omega)
      have hB2 := (hB.set (j * 9 + 1 + 2 * C) (.int .i64 (i : Nat))).set (j * 9 + 1 + (2 * C + 1)) (.int .i64 (al[j].1 : Nat))
      have hG := grp_at fb al C i j hC3 hjl hH9
      have FK := (hfr.setC q (j * 9 + 1 + 2 * C) (.int .i64 (i : Nat)) (fun _ => rfl)).setC q (j * 9 + 1 + (2 * C + 1)) (.int .i64 (al[j].1 : Nat)) (fun _ => rfl)
      have HG : Hid _ := hG
      have hB2d := hB2.drew.drew
      have FKd := FK.drew.drew
      clear hG hH9 hcE e2
      generalize al[j].1 = e at *
      go_wp2_with fail
      refine wp_region_text (by kernel_rfl) (by kernel_rfl) ?_
      go_wp2_with fail
      refine ⟨by kernel_rfl, ?_⟩
      go_wp2_with fail
      refine wp_region_text (by kernel_rfl) (by kernel_rfl) ?_
      go_wp2_with fail
      refine ⟨by kernel_rfl, ?_⟩
      go_wp2_with fail
      go_roundg (gk - 1)
      case measure => omega
      case rel => exact ⟨j + 1, _, by simp, by omega, hB2d, HG.out, FKd⟩
    · have hjI : decide ((j : Int) < al.length) = false := decide_eq_false (by omega)
      have hj : (al.take j).map (gw C i) ++ al.drop j = al.map (gw C i) := by
        rw [List.take_of_length_le (by omega), List.drop_of_length_le (by omega), List.append_nil]
      rw [hj] at hH9
      have HH9 : Hid _ := hH9
      clear hH9
      go_wp2_with fail
      go_ret
      obtain rfl := Hal.out
      have hl : (List.map (gw C i) (f i c)).length = (f i c).length := by simp
      exact ⟨_, rfl, .inr ⟨q, ac, fb, by show Value.slice _ _ _ = Value.slice _ (List.map (gw C i) (f i c)).length _; rw [hl], by show (List.map (gw C i) (f i c)).length ≤ ac; rw [hl]; exact hac, hB, HH9.out⟩, fun q' ⟨n', c', e⟩ => by cases e; omega, F5.trans hfr (fun b hb h => by omega)⟩
end
end Go.Proofs.Qxb6500283aGreat
