/- The real heap: Alloc. -/
import Derived.Test.Qxb6500277aGreatKW6
namespace Go.Proofs.Qxb6500277aGreat
open Go Go.RowKit

/-- An object while it is laid out. -/
def bm (m : Nat → Int) (a : Nat) (hd : Int) (k j : Nat) : Nat → Int := fun o => if o = a then hd else if a < o ∧ o ≤ a + k then -1 else if a + k < o ∧ o ≤ a + k + j then 0 else m o
theorem bm_start (m : Nat → Int) (a : Nat) (hd : Int) : upd m a hd = bm m a hd 0 0 := by
  funext o; simp only [upd, bm]
  by_cases e : o = a
  · rw [if_pos e, if_pos e]
  · rw [if_neg e, if_neg e, if_neg (by omega), if_neg (by omega)]
theorem bm_ref (m : Nat → Int) (a : Nat) (hd : Int) (k : Nat) : upd (bm m a hd k 0) (a + (k + 1)) (-1) = bm m a hd (k + 1) 0 := by
  funext o; simp only [upd, bm]
  by_cases e : o = a + (k + 1)
  · rw [if_pos e, if_neg (by omega), if_pos (by omega)]
  · rw [if_neg e]
    by_cases e1 : o = a
    · rw [if_pos e1, if_pos e1]
    · rw [if_neg e1, if_neg e1]
      by_cases e2 : a < o ∧ o ≤ a + k
      · rw [if_pos e2, if_pos (by omega)]
      · rw [if_neg e2, if_neg (by omega), if_neg (by omega), if_neg (by omega)]
theorem bm_int (m : Nat → Int) (a : Nat) (hd : Int) (p j : Nat) : upd (bm m a hd p j) (a + p + (j + 1)) 0 = bm m a hd p (j + 1) := by
  funext o; simp only [upd, bm]
  by_cases e : o = a + p + (j + 1)
  · rw [if_pos e, if_neg (by omega), if_neg (by omega), if_pos (by omega)]
  · rw [if_neg e]
    by_cases e1 : o = a
    · rw [if_pos e1, if_pos e1]
    · rw [if_neg e1, if_neg e1]
      by_cases e2 : a < o ∧ o ≤ a + p
      · rw [if_pos e2, if_pos e2]
      · rw [if_neg e2, if_neg e2]
        by_cases e3 : a + p < o ∧ o ≤ a + p + j
        · rw [if_pos e3, if_pos (by omega)]
        · rw [if_neg e3, if_neg (by omega)]
theorem bm_end (m : Nat → Int) (a p q : Nat) : bm m a ((p * 49 + q : Nat) : Int) p q = bornM m a p q := rfl
set_option maxRecDepth 100000 in
set_option maxHeartbeats 16000000 in
theorem allocF {w : World} {h : Nat} {S : HS} {os : List Int} (H : HM w h S) (hI : HInv S os) (p q : Int) :
    Calls Tryz.prog 161 #[.pointer (some ⟨h, 0, none⟩), .int .i64 p, .int .i64 q] w fun e w' => ∃ er S', e = .returned (.int .i64 er) ∧ AllocR S p q er S' ∧ HM w' h S' ∧ Fr (OnlyH h) w w' := by
  have hlt := H.lt
  have ct := H.top
  have htop := hI.top
  have h96 := hI.le96
  by_cases h1 : p < 0 ∨ q < 0
  · have hN : Hid _ := AllocR.neg (S := S) h1
    have h1 : p < 0 ∨ (0 ≤ p ∧ q < 0) := by omega
    rcases h1 with h1 | ⟨h1, h2⟩
    all_goals
      go_enter Tryz.func161, Tryz.ntmps161
      go_wp2_with fail
      go_ret
      exact ⟨1, S, rfl, hN.out, H, Fr.refl _ _⟩
  obtain ⟨p, rfl⟩ := Int.eq_ofNat_of_zero_le (show 0 ≤ p by omega)
  obtain ⟨q, rfl⟩ := Int.eq_ofNat_of_zero_le (show 0 ≤ q by omega)
  have hp0 : (0 : Int) ≤ p := by omega
  have hq0 : (0 : Int) ≤ q := by omega
  clear h1
  by_cases h2 : 24 ≤ S.top
  · have hN : Hid _ := AllocR.full (S := S) hp0 hq0 h2
    go_enter Tryz.func161, Tryz.ntmps161
    go_wp2_with fail
    go_ret
    exact ⟨3, S, rfl, hN.out, H, Fr.refl _ _⟩
  have h2' : S.top < 24 := by omega
  clear h2
  by_cases h3 : (48 : Int) < p ∨ (48 : Int) < q
  · have hN : Hid _ := AllocR.big (S := S) hp0 hq0 h2' h3
    have h3 : (48 : Int) < p ∨ ((p : Int) ≤ 48 ∧ (48 : Int) < q) := by omega
    rcases h3 with h3 | ⟨h3, h4⟩
    all_goals
      go_enter Tryz.func161, Tryz.ntmps161
      go_wp2_with fail
      go_ret
      exact ⟨6, S, rfl, hN.out, H, Fr.refl _ _⟩
  have hp : p ≤ 48 := by omega
  have hq : q ≤ 48 := by omega
  clear h3
  have FR := freeF H (by omega) (by omega)
  by_cases h4 : (1 : Int) + p + q ≤ (S.base : Int) + 48 - S.free
  · have Harm : Hid _ := AllocR.fits (S := S) hp0 hq0 h2' (by omega) (by omega) h4
    simp only [Int.toNat_natCast] at Harm
    have hle := hI.le
    have hTf : S.free + (1 + p + q) ≤ 96 := by omega
    have h4' : ¬ ((S.base : Int) + 48 - S.free < 1 + p + q) := by omega
    go_enter Tryz.func161, Tryz.ntmps161
    go_wp2_with fail
    refine FR.mono ?_
    rintro e w2 ⟨rfl, HT, FT0⟩
    have FT : Fr (OnlyH h) w w2 := FT0.mono (fun _ _ h => h.elim)
    clear FT0 ct hlt FR hI hle htop H
    have cf := HT.free
    have hlt := HT.lt
    go_wp2_with fail
    refine wp_region_ord [0, 1, 2, 3, 5, 6, 4, 7, 8] (by kernel_rfl) (by kernel_rfl) ?_
    simp only [pick, List.filterMap_cons, List.filterMap_nil, List.getElem?_cons_zero, List.getElem?_cons_succ]
    go_wp2_with fail
    refine (header_any p q hp hq _).mono ?_
    rintro e w3 ⟨rfl, rfl⟩
    have cm := HT.mem (o := S.free) (by omega)
    have z0 := Blk.frozen HT S.free
    have key0 := HT.setMem (o := S.free) (by omega) ((p * 49 + q : Nat) : Int)
    rw [bm_start] at key0
    have keyF0 := FT.drew.setC h S.free (.int .i64 ((p * 49 + q : Nat) : Int)) (fun _ => rfl)
    have Hk0 : Hid (_ ∧ _) := ⟨key0, keyF0⟩
    have hfr96 : S.free < 96 := by omega
    clear key0 keyF0 cf HT FT
    go_wp2_with fail
    refine ⟨by kernel_rfl, ?_⟩
    go_wp2_with fail
    go_loopg [9] p (fun g kv wr => ∃ k : Nat, kv = .int .i64 ((k + 1 : Nat) : Int) ∧ k + g = p ∧ HM wr h { S with mem := bm S.mem S.free ((p * 49 + q : Nat) : Int) k 0 } ∧ Fr (OnlyH h) w wr)
    case atStart => exact ⟨0, rfl, by omega, Hk0.out.1, Hk0.out.2⟩
    case round =>
      clear cm z0 Hk0 hlt
      obtain ⟨k, rfl, hkg, HK, hfr⟩ := hrel
      have hkg' : k + gk = p := hkg
      clear hkg
      have hlt := HK.lt
      by_cases hk : k < p
      · have hk' : ((k + 1 : Nat) : Int) ≤ p := by omega
        have c1 := HK.mem (o := S.free + (k + 1)) (by omega)
        have z := Blk.frozen HK (S.free + (k + 1))
        have key := HK.setMem (o := S.free + (k + 1)) (by omega) (-1)
        simp only at key
        rw [bm_ref] at key
        have keyF := hfr.setC h (S.free + (k + 1)) (.int .i64 (-1)) (fun _ => rfl)
        have Hk2 : Hid (_ ∧ _) := ⟨key, keyF⟩
        have hs96 : S.free + (k + 1) < 96 := by omega
        clear key keyF HK hfr
        go_wp2_with fail
        go_roundg (gk - 1)
        case measure => omega
        case rel => exact ⟨k + 1, by simp, by omega, Hk2.out.1, Hk2.out.2⟩
      · have hkn : k = p := by omega
        subst hkn
        have hk2 : ¬ (((k + 1 : Nat) : Int) ≤ k) := by omega
        go_wp2_with fail
        go_loopg [10] q (fun g kv wr => ∃ j : Nat, kv = .int .i64 ((j + 1 : Nat) : Int) ∧ j + g = q ∧ HM wr h { S with mem := bm S.mem S.free ((k * 49 + q : Nat) : Int) k j } ∧ Fr (OnlyH h) w wr)
        case atStart => exact ⟨0, rfl, by omega, HK, hfr⟩
        case round =>
          clear HK hfr hlt
          obtain ⟨j, rfl, hjg, HK, hfr⟩ := hrel
          have hjg' : j + gk = q := hjg
          clear hjg
          have hlt := HK.lt
          by_cases hj : j < q
          · have hj' : ((j + 1 : Nat) : Int) ≤ q := by omega
            have c1 := HK.mem (o := S.free + k + (j + 1)) (by omega)
            have z := Blk.frozen HK (S.free + k + (j + 1))
            have key := HK.setMem (o := S.free + k + (j + 1)) (by omega) 0
            simp only at key
            rw [bm_int] at key
            have keyF := hfr.setC h (S.free + k + (j + 1)) (.int .i64 0) (fun _ => rfl)
            have Hk2 : Hid (_ ∧ _) := ⟨key, keyF⟩
            have hs96 : S.free + k + (j + 1) < 96 := by omega
            clear key keyF HK hfr
            go_wp2_with fail
            go_roundg (gk - 1)
            case measure => omega
            case rel => exact ⟨j + 1, by simp, by omega, Hk2.out.1, Hk2.out.2⟩
          · have hjn : j = q := by omega
            subst hjn
            rw [bm_end] at HK
            have hj2 : ¬ (((j + 1 : Nat) : Int) ≤ j) := by omega
            have c1 := HK.free
            have c2 := HK.top
            have c3 := HK.root (i := S.top) (by omega)
            have z1 := Blk.frozen HK 97
            have z2 := Blk.frozen HK (98 + S.top)
            have z3 := Blk.frozen HK 122
            have key := ((HK.setFree (S.free + (1 + k + j))).setRoot (i := S.top) (by omega) (S.free : Int)).setTop (S.top + 1)
            have keyF := (((hfr.setC h 97 (.int .i64 ((S.free + (1 + k + j) : Nat) : Int)) (fun _ => rfl)).setC h (98 + S.top) (.int .i64 (S.free : Int)) (fun _ => rfl)).setC h 122 (.int .i64 ((S.top + 1 : Nat) : Int)) (fun _ => rfl))
            have Hk2 : Hid (_ ∧ _) := ⟨key, keyF⟩
            clear key keyF HK hfr
            go_wp2_with fail
            refine wp_region_text (by kernel_rfl) (by kernel_rfl) ?_
            go_wp2_with fail
            refine ⟨by kernel_rfl, ?_⟩
            go_wp2_with fail
            go_ret
            exact ⟨0, _, rfl, Harm.out, Hk2.out.1, Hk2.out.2.drew⟩
  · have h4' : (S.base : Int) + 48 - S.free < 1 + p + q := by omega
    clear h4
    go_enter Tryz.func161, Tryz.ntmps161
    go_wp2_with fail
    refine FR.mono ?_
    rintro e w2 ⟨rfl, HT, FT0⟩
    have FT : Fr (OnlyH h) w w2 := FT0.mono (fun _ _ h => h.elim)
    go_wp2_with fail
    refine (collectF HT hI).mono ?_
    rintro e w3 ⟨rfl, ⟨St, hC, HS1⟩, f3⟩
    have F3 := FT.trans f3 (fun _ _ h => h)
    obtain ⟨os1, hI1, _, _, hl1, _⟩ := hC.sim
    have h961 := hI1.le96
    have FR1 := freeF HS1 (by omega) (by omega)
    go_wp2_with fail
    refine FR1.mono ?_
    rintro e w4 ⟨rfl, HT, FT1⟩
    have FT := F3.trans FT1 (fun _ _ h => h.elim)
    by_cases h5 : (1 : Int) + p + q ≤ (St.base : Int) + 48 - St.free
    · have Harm : Hid _ := AllocR.coll (S := S) hp0 hq0 h2' (by omega) (by omega) h4' hC h5
      simp only [Int.toNat_natCast] at Harm
      have hle := hI1.le
      have hTf : St.free + (1 + p + q) ≤ 96 := by omega
      have h2' : St.top < 24 := by rw [hC.top]; exact h2'
      have h5' : ¬ ((St.base : Int) + 48 - St.free < 1 + p + q) := by omega
      clear FT0 ct hlt FR hI hle htop H F3 f3 FR1 hI1 HS1 FT1 h4' hC hl1 h96
      have cf := HT.free
      have hlt := HT.lt
      go_wp2_with fail
      refine wp_region_ord [0, 1, 2, 3, 5, 6, 4, 7, 8] (by kernel_rfl) (by kernel_rfl) ?_
      simp only [pick, List.filterMap_cons, List.filterMap_nil, List.getElem?_cons_zero, List.getElem?_cons_succ]
      go_wp2_with fail
      refine (header_any p q hp hq _).mono ?_
      rintro e w3 ⟨rfl, rfl⟩
      have cm := HT.mem (o := St.free) (by omega)
      have z0 := Blk.frozen HT St.free
      have key0 := HT.setMem (o := St.free) (by omega) ((p * 49 + q : Nat) : Int)
      rw [bm_start] at key0
      have keyF0 := FT.drew.setC h St.free (.int .i64 ((p * 49 + q : Nat) : Int)) (fun _ => rfl)
      have Hk0 : Hid (_ ∧ _) := ⟨key0, keyF0⟩
      have hfr96 : St.free < 96 := by omega
      clear key0 keyF0 cf HT FT
      go_wp2_with fail
      refine ⟨by kernel_rfl, ?_⟩
      go_wp2_with fail
      go_loopg [9] p (fun g kv wr => ∃ k : Nat, kv = .int .i64 ((k + 1 : Nat) : Int) ∧ k + g = p ∧ HM wr h { St with mem := bm St.mem St.free ((p * 49 + q : Nat) : Int) k 0 } ∧ Fr (OnlyH h) w wr)
      case atStart => exact ⟨0, rfl, by omega, Hk0.out.1, Hk0.out.2⟩
      case round =>
        clear cm z0 Hk0 hlt
        obtain ⟨k, rfl, hkg, HK, hfr⟩ := hrel
        have hkg' : k + gk = p := hkg
        clear hkg
        have hlt := HK.lt
        by_cases hk : k < p
        · have hk' : ((k + 1 : Nat) : Int) ≤ p := by omega
          have c1 := HK.mem (o := St.free + (k + 1)) (by omega)
          have z := Blk.frozen HK (St.free + (k + 1))
          have key := HK.setMem (o := St.free + (k + 1)) (by omega) (-1)
          simp only at key
          rw [bm_ref] at key
          have keyF := hfr.setC h (St.free + (k + 1)) (.int .i64 (-1)) (fun _ => rfl)
          have Hk2 : Hid (_ ∧ _) := ⟨key, keyF⟩
          have hs96 : St.free + (k + 1) < 96 := by omega
          clear key keyF HK hfr
          go_wp2_with fail
          go_roundg (gk - 1)
          case measure => omega
          case rel => exact ⟨k + 1, by simp, by omega, Hk2.out.1, Hk2.out.2⟩
        · have hkn : k = p := by omega
          subst hkn
          have hk2 : ¬ (((k + 1 : Nat) : Int) ≤ k) := by omega
          go_wp2_with fail
          go_loopg [10] q (fun g kv wr => ∃ j : Nat, kv = .int .i64 ((j + 1 : Nat) : Int) ∧ j + g = q ∧ HM wr h { St with mem := bm St.mem St.free ((k * 49 + q : Nat) : Int) k j } ∧ Fr (OnlyH h) w wr)
          case atStart => exact ⟨0, rfl, by omega, HK, hfr⟩
          case round =>
            clear HK hfr hlt
            obtain ⟨j, rfl, hjg, HK, hfr⟩ := hrel
            have hjg' : j + gk = q := hjg
            clear hjg
            have hlt := HK.lt
            by_cases hj : j < q
            · have hj' : ((j + 1 : Nat) : Int) ≤ q := by omega
              have c1 := HK.mem (o := St.free + k + (j + 1)) (by omega)
              have z := Blk.frozen HK (St.free + k + (j + 1))
              have key := HK.setMem (o := St.free + k + (j + 1)) (by omega) 0
              simp only at key
              rw [bm_int] at key
              have keyF := hfr.setC h (St.free + k + (j + 1)) (.int .i64 0) (fun _ => rfl)
              have Hk2 : Hid (_ ∧ _) := ⟨key, keyF⟩
              have hs96 : St.free + k + (j + 1) < 96 := by omega
              clear key keyF HK hfr
              go_wp2_with fail
              go_roundg (gk - 1)
              case measure => omega
              case rel => exact ⟨j + 1, by simp, by omega, Hk2.out.1, Hk2.out.2⟩
            · have hjn : j = q := by omega
              subst hjn
              rw [bm_end] at HK
              have hj2 : ¬ (((j + 1 : Nat) : Int) ≤ j) := by omega
              have c1 := HK.free
              have c2 := HK.top
              have c3 := HK.root (i := St.top) (by omega)
              have z1 := Blk.frozen HK 97
              have z2 := Blk.frozen HK (98 + St.top)
              have z3 := Blk.frozen HK 122
              have key := ((HK.setFree (St.free + (1 + k + j))).setRoot (i := St.top) (by omega) (St.free : Int)).setTop (St.top + 1)
              have keyF := (((hfr.setC h 97 (.int .i64 ((St.free + (1 + k + j) : Nat) : Int)) (fun _ => rfl)).setC h (98 + St.top) (.int .i64 (St.free : Int)) (fun _ => rfl)).setC h 122 (.int .i64 ((St.top + 1 : Nat) : Int)) (fun _ => rfl))
              have Hk2 : Hid (_ ∧ _) := ⟨key, keyF⟩
              clear key keyF HK hfr
              go_wp2_with fail
              refine wp_region_text (by kernel_rfl) (by kernel_rfl) ?_
              go_wp2_with fail
              refine ⟨by kernel_rfl, ?_⟩
              go_wp2_with fail
              go_ret
              exact ⟨0, _, rfl, Harm.out, Hk2.out.1, Hk2.out.2.drew⟩
    · have h5' : (St.base : Int) + 48 - St.free < 1 + p + q := by omega
      have Harm : Hid _ := AllocR.no (S := S) hp0 hq0 h2' (by omega) (by omega) h4' hC h5'
      clear h5 hC hI1 hl1 F3 f3 FR1 FR
      go_wp2_with fail
      go_ret
      exact ⟨6, St, rfl, Harm.out, HT, FT⟩
end Go.Proofs.Qxb6500277aGreat
