/- The real heap: collect. -/
import Derived.Test.Qxb6500277aGreatKW5
import Derived.Test.Qxb6500277aGreatText3
namespace Go.Proofs.Qxb6500277aGreat
open Go Go.RowKit

/-- The heap amid a collection. -/
def midS (S : HS) (to : Nat) (l : List Int) (m r : Nat → Int) : HS := { S with mem := m, free := adr S.mem to l l.length, roots := r }
section
variable {w : World} {h : Nat} {S : HS} {os l : List Int} {to s f : Nat} {m r : Nat → Int}
theorem moveC (hb : S.base + 48 ≤ 96) (hto : to + 48 ≤ 96) (H : HM w h (midS S to l m r)) (hC : Col S.mem S.base to S.free os l s f m) {x : Int} (hx : x = -1 ∨ x ∈ os) :
    Calls Tryz.prog 229 #[.pointer (some ⟨h, 0, none⟩), .int .i64 x] w fun e w' => e = .returned (.int .i64 (nwA S.mem to (noteL l x) x)) ∧ (x = -1 ∨ x ∈ noteL l x) ∧ (∃ m', Col S.mem S.base to S.free os (noteL l x) s f m' ∧ HM w' h (midS S to (noteL l x) m' r)) ∧ Fr (OnlyH h) w w' := by
  rcases hC.mv hx with ⟨rfl, h1, h2⟩ | ⟨h0, h1, h2, h3, h4, h5, h6⟩ | ⟨h0, h1, h2, h3, h4, h5, h6, h7, h8, h9, h10⟩
  · refine (move_none H).mono ?_
    rintro e w' ⟨rfl, H', k⟩
    rw [h1, h2]
    exact ⟨rfl, .inl rfl, ⟨m, hC, H'⟩, k⟩
  · obtain ⟨a, rfl⟩ := Int.eq_ofNat_of_zero_le h0
    simp only [Int.toNat_natCast] at h1 h2 h3 h6
    obtain ⟨i, hi, e1, e2⟩ := fnd_mem h5
    have e3 : nwA S.mem to l a = (adr S.mem to l i : Nat) := by
      unfold nwA
      rw [if_neg (by omega), e1]
      simp
    have hle : adr S.mem to l i ≤ adr S.mem to l l.length := adr_le (by omega)
    have hfit := hC.fit
    refine (move_old (t := adr S.mem to l i) H (a := a) (by omega) (by omega) (by show m a = _; rw [e3] at h6; omega)).mono ?_
    rintro e w' ⟨rfl, H', k⟩
    rw [h4, e3]
    exact ⟨rfl, .inr h5, ⟨m, hC, H'⟩, k⟩
  · obtain ⟨a, rfl⟩ := Int.eq_ofNat_of_zero_le h0
    simp only [Int.toNat_natCast] at h3 h4 h5 h6 h8 h10
    have hw : wdO m a = wdO S.mem a := by unfold wdO nrO niO; rw [h5]
    have hh := hC.half
    have hge : to ≤ adr S.mem to l l.length := adr_ge
    have hadd := hC.add h1 h2
    simp only [Int.toNat_natCast] at hadd
    refine (move_new (a := a) (n := wdO S.mem a) H hw (by omega) (by show adr S.mem to l l.length + _ ≤ 96; omega) (by show _ ≤ adr S.mem to l l.length ∨ adr S.mem to l l.length + _ ≤ _; omega) h6).mono ?_
    rintro e w' ⟨rfl, H', k⟩
    rw [h7, h9]
    refine ⟨rfl, .inr (by simp), ⟨_, hadd, ?_⟩, k⟩
    unfold midS
    rw [h10]
    exact H'
end
/-- The slots that have been moved. -/
def RtOk (S : HS) (to : Nat) (l : List Int) (i : Nat) (r : Nat → Int) : Prop := (∀ j, j < i → r j = nwA S.mem to l (S.roots j) ∧ (S.roots j = -1 ∨ S.roots j ∈ l)) ∧ ∀ j, i ≤ j → r j = S.roots j
theorem RtOk.pre {S : HS} {to : Nat} {l l' : List Int} {i : Nat} {r : Nat → Int} (h : RtOk S to l i r) (hp : l <+: l') : RtOk S to l' i r := by
  refine ⟨fun j hj => ?_, h.2⟩
  obtain ⟨h1, h2⟩ := h.1 j hj
  rcases h2 with h2 | h2
  · exact ⟨by rw [h1, h2]; simp [nwA], .inl h2⟩
  · exact ⟨by rw [h1, nwA_pre hp h2], .inr (hp.mem h2)⟩
theorem RtOk.step {S : HS} {to : Nat} {l : List Int} {i : Nat} {r : Nat → Int} (h : RtOk S to l i r) (hx : S.roots i = -1 ∨ S.roots i ∈ noteL l (S.roots i)) : RtOk S to (noteL l (S.roots i)) (i + 1) (upd r i (nwA S.mem to (noteL l (S.roots i)) (S.roots i))) := by
  have h' := h.pre (noteL_sub l (S.roots i))
  refine ⟨fun j hj => ?_, fun j hj => ?_⟩
  · simp only [upd]
    by_cases e : j = i
    · subst e; rw [if_pos rfl]; exact ⟨rfl, hx⟩
    · rw [if_neg e]; exact h'.1 j (by omega)
  · simp only [upd]
    rw [if_neg (by omega)]
    exact h.2 j (by omega)
def rts (S : HS) (i : Nat) : List Int := (List.range i).map S.roots
theorem rts_succ (S : HS) (i : Nat) : (rts S (i + 1)).foldl noteL [] = noteL ((rts S i).foldl noteL []) (S.roots i) := by
  unfold rts
  rw [List.range_succ, List.map_append, List.foldl_append]
  rfl
theorem rf_take {m : Nat → Int} {a : Int} {j : Nat} (h : j < nrO m a.toNat) (l : List Int) : ((rfO m a).take (j + 1)).foldl noteL l = noteL (((rfO m a).take j).foldl noteL l) (m (a.toNat + 1 + j)) := by
  have hj : j < (rfO m a).length := by rw [rfO_len]; exact h
  rw [List.take_succ_eq_append_getElem hj, List.foldl_append, rfO_get]
  rfl
set_option maxRecDepth 100000 in
set_option maxHeartbeats 8000000 in
theorem collectF {w : World} {h : Nat} {S : HS} {os : List Int} (H : HM w h S) (hI : HInv S os) :
    Calls Tryz.prog 203 #[.pointer (some ⟨h, 0, none⟩)] w fun e w' => e = .returned (.tuple #[]) ∧ (∃ S1, Coll S S1 ∧ HM w' h S1) ∧ Fr (OnlyH h) w w' := by
  have hlt := H.lt
  have hbase := hI.base
  have htop := hI.top
  have hb48 : S.base ≤ 48 := by omega
  obtain ⟨to, hto⟩ : ∃ to, to = 48 - S.base := ⟨_, rfl⟩
  have e1 : (48 : Int) - S.base = (to : Int) := by omega
  have ht96 : to + 48 ≤ 96 := by omega
  have c1 := H.base
  have c2 := H.free
  have z := Blk.frozen H 97
  have hhalf : S.free ≤ S.base + 48 ∧ (to + 48 ≤ S.base ∨ S.base + 48 ≤ to) := ⟨hI.le, by omega⟩
  have hC0 : Col S.mem S.base to S.free os [] 0 0 S.mem := Col.start hI.row hhalf hI.cl
  have H0 : HM (w.setCell ⟨h, 97, none⟩ (.int .i64 to)) h (midS S to [] S.mem S.roots) := by
    have := H.setFree to
    unfold midS
    have e : adr S.mem to [] ([] : List Int).length = to := by simp [adr, wdL]
    rw [e]
    exact this
  have F0 : Fr (OnlyH h) w (w.setCell ⟨h, 97, none⟩ (.int .i64 to)) := (Fr.refl (OnlyH h) w).setC h 97 _ (fun _ => rfl)
  have Hk0 : Hid (_ ∧ _) := ⟨H0, F0⟩
  have hR0 : RtOk S to [] 0 S.roots := ⟨fun j hj => by omega, fun _ _ => rfl⟩
  have Hto : Hid _ := hto
  clear H0 F0 hto
  go_enter Tryz.func203, Tryz.ntmps203
  go_wp2_with fail
  go_loopg [3] S.top (fun g kv wr => ∃ i : Nat, kv = .int .i64 i ∧ i + g = S.top ∧ (∃ m r, Col S.mem S.base to S.free os ((rts S i).foldl noteL []) 0 0 m ∧ RtOk S to ((rts S i).foldl noteL []) i r ∧ HM wr h (midS S to ((rts S i).foldl noteL []) m r)) ∧ Fr (OnlyH h) w wr)
  case atStart => exact ⟨0, rfl, by omega, ⟨S.mem, S.roots, hC0, hR0, Hk0.out.1⟩, Hk0.out.2⟩
  case round =>
    clear hC0 hR0 Hk0 H c1 c2 z hlt
    obtain ⟨i, rfl, hig, ⟨m, r, hC, hR, HW⟩, hfr⟩ := hrel
    have hig' : i + gk = S.top := hig
    clear hig
    have hlt := HW.lt
    have ct := HW.top
    have ct' : wr.cell? ⟨h, 122, none⟩ = some (.int .i64 S.top) := ct
    clear ct
    by_cases hi : i < S.top
    · have hi' : (i : Int) < S.top := by omega
      have cr := HW.root (i := i) (by omega)
      have e2 : (midS S to ((rts S i).foldl noteL []) m r).roots i = S.roots i := hR.2 i (Nat.le_refl _)
      rw [e2] at cr
      clear e2
      go_wp2_with fail
      refine wp_region_ord [0, 1, 2, 3, 4, 5, 6, 7, 8, 10, 11, 9, 12, 13] (by kernel_rfl) (by kernel_rfl) ?_
      simp only [pick, List.filterMap_cons, List.filterMap_nil, List.getElem?_cons_zero, List.getElem?_cons_succ]
      go_wp2_with fail
      refine (moveC (w := wr.drew) (by omega) (by omega) HW hC (hI.rts i hi)).mono ?_
      rintro e w2 ⟨rfl, hx, ⟨m', hC', HW'⟩, f2⟩
      have F2 := hfr.drew.trans f2 (fun _ _ h => h)
      have z2 := Blk.frozen HW' (98 + i)
      have cr2 := HW'.root (i := i) (by omega)
      have hl2 := HW'.lt
      have key := HW'.setRoot (i := i) (by omega) (nwA S.mem to (noteL ((rts S i).foldl noteL []) (S.roots i)) (S.roots i))
      have keyF := (F2.setC h (98 + i) (.int .i64 (nwA S.mem to (noteL ((rts S i).foldl noteL []) (S.roots i)) (S.roots i))) (fun _ => rfl))
      have hR' := hR.step hx
      clear cr ct' HW hC hfr hR hlt
      go_wp2_with fail
      refine ⟨by kernel_rfl, ?_⟩
      go_wp2_with fail
      go_roundg (gk - 1)
      case measure => omega
      case rel =>
        refine ⟨i + 1, by simp, by omega, ⟨m', upd r i (nwA S.mem to (noteL ((rts S i).foldl noteL []) (S.roots i)) (S.roots i)), ?_, ?_, ?_⟩, keyF⟩
        · rw [rts_succ]; exact hC'
        · rw [rts_succ]; exact hR'
        · rw [rts_succ]; exact key
    · have hin : i = S.top := by omega
      subst hin
      clear hi hig'
      obtain ⟨l0, hl0⟩ : ∃ l0, l0 = (rts S S.top).foldl noteL [] := ⟨_, rfl⟩
      rw [← hl0] at hC hR HW
      have hord : scanF (rfO S.mem) 100 0 l0 = S.gh.ord := by rw [hl0]; rfl
      have a0 : adr S.mem to l0 0 = to := by simp [adr, wdL]
      have hos := hI.row.sum
      have hosl := wdL_ge S.mem os
      clear hl0
      go_wp2_with fail
      go_loopg [4] 100 (fun g kv wr => ∃ k l m r, kv = .int .i64 (adr S.mem to l k : Nat) ∧ k + g = 100 ∧ k ≤ l.length ∧ Col S.mem S.base to S.free os l k 0 m ∧ RtOk S to l S.top r ∧ HM wr h (midS S to l m r) ∧ scanF (rfO S.mem) (100 - k) k l = S.gh.ord ∧ Fr (OnlyH h) w wr)
      case atStart => exact ⟨0, l0, m, r, by rw [a0], by omega, by omega, hC, hR, HW, hord, hfr⟩
      case round =>
        clear hC hR HW hord a0 ct' hlt hfr
        obtain ⟨k, l, m, r, rfl, hkg, hkl, hC, hR, HW, hord, hfr⟩ := hrel
        have hkg' : k + gk = 100 := hkg
        clear hkg
        obtain ⟨g0, hg0⟩ : ∃ g0, gk = g0 := ⟨_, rfl⟩
        have hlt := HW.lt
        have cf : wr.cell? ⟨h, 97, none⟩ = some (.int .i64 (adr S.mem to l l.length : Nat)) := HW.free
        have hfit := hC.fit
        have hge : to ≤ adr S.mem to l k := adr_ge
        have hnl := nodup_len hC.nd hC.sub
        by_cases hk : k < l.length
        · have had : adr S.mem to l k + wdO S.mem l[k].toNat ≤ adr S.mem to l l.length := adr_lt hk hk
          have hwp := wdO_pos S.mem l[k].toNat
          obtain ⟨q0, q1, q2⟩ := hC.at hk
          have ch : wr.cell? ⟨h, adr S.mem to l k, none⟩ = some (.int .i64 (m (adr S.mem to l k))) := HW.mem (o := adr S.mem to l k) (by omega)
          have hltk : ((adr S.mem to l k : Nat) : Int) < (adr S.mem to l l.length : Nat) := by omega
          have hsmall : m (adr S.mem to l k) < 1000000 := by
            have : wdO m (adr S.mem to l k) = 1 + (m (adr S.mem to l k)).toNat / 49 + (m (adr S.mem to l k)).toNat % 49 := rfl
            omega
          have hRf := fun w => refs_any (m (adr S.mem to l k)) q0 hsmall w
          have hWd := fun w => words_any (m (adr S.mem to l k)) q0 hsmall w
          have e3 : (m (adr S.mem to l k)).toNat / 49 = nrO S.mem l[k].toNat := q1
          have e4 : 1 + (m (adr S.mem to l k)).toNat / 49 + (m (adr S.mem to l k)).toNat % 49 = wdO S.mem l[k].toNat := q2
          rw [e3] at hRf
          rw [e4] at hWd
          have ha96 : adr S.mem to l k < 96 := by omega
          clear e3 e4 q1 q2 q0 hsmall
          have hwd : wdO S.mem l[k].toNat = 1 + nrO S.mem l[k].toNat + niO S.mem l[k].toNat := rfl
          have hwnr : nrO S.mem l[k].toNat + 1 ≤ wdO S.mem l[k].toNat := by omega
          have hwle : wdO S.mem l[k].toNat ≤ 48 := by omega
          have hstep : scanF (rfO S.mem) (100 - (k + 1)) (k + 1) ((rfO S.mem l[k]).foldl noteL l) = S.gh.ord := by
            rw [← hord, show 100 - k = (100 - (k + 1)) + 1 by omega, scanF_step hk]
          clear hord hwd
          generalize m (adr S.mem to l k) = hdv at *
          go_wp2_with fail
          refine (hRf _).mono ?_
          rintro e w2 ⟨rfl, rfl⟩
          go_wp2_with fail
          go_loopg [7] (nrO S.mem l[k].toNat) (fun g kv wr => ∃ j l' m' , kv = .int .i64 ((j + 1 : Nat) : Int) ∧ j + g = nrO S.mem l[k].toNat ∧ l' = ((rfO S.mem l[k]).take j).foldl noteL l ∧ Col S.mem S.base to S.free os l' k j m' ∧ (∃ r, RtOk S to l' S.top r ∧ HM wr h (midS S to l' m' r)) ∧ Fr (OnlyH h) w wr)
          case atStart => exact ⟨0, l, m, rfl, by omega, rfl, hC, ⟨r, hR, HW⟩, hfr⟩
          case round =>
            clear hC HW hR hfr cf ch hltk hlt
            obtain ⟨j, l', m', rfl, hjg, hl', hC, ⟨r, hR, HW⟩, hfr⟩ := hrel
            have hjg' : j + gk = nrO S.mem l[k].toNat := hjg
            clear hjg
            have hpre : l <+: l' := by rw [hl']; exact notes_sub _ _
            have hkl' : k < l'.length := Nat.lt_of_lt_of_le hk hpre.length_le
            have ea : adr S.mem to l' k = adr S.mem to l k := adr_pre hpre (by omega)
            have eg : l'[k] = l[k] := by
              obtain ⟨t, rfl⟩ := hpre
              exact List.getElem_append_left hk
            have hlt := HW.lt
            by_cases hj : j < nrO S.mem l[k].toNat
            · have hj' : ((j + 1 : Nat) : Int) ≤ nrO S.mem l[k].toNat := by omega
              obtain ⟨v1, v2⟩ := hC.fld hkl' (by rw [eg]; exact hj)
              have cm := HW.mem (o := adr S.mem to l k + (j + 1)) (by omega)
              have ev : (midS S to l' m' r).mem (adr S.mem to l k + (j + 1)) = S.mem (l[k].toNat + 1 + j) := by
                show m' _ = _
                rw [← eg, ← v1, ea]
                congr 1
                omega
              rw [ev] at cm
              have hsum : adr S.mem to l k + (j + 1) < 96 := by omega
              rw [eg] at v2
              generalize hx : S.mem (l[k].toNat + 1 + j) = x at *
              have Hfold : Hid (noteL l' x = ((rfO S.mem l[k]).take (j + 1)).foldl noteL l) := by
                show noteL l' x = _
                rw [rf_take hj, ← hl', hx]
              clear hl'
              go_wp2_with fail
              refine wp_region_ord [0, 1, 2, 3, 4, 5, 6, 7, 8, 9, 10, 11, 12, 14, 15, 13, 16, 17] (by kernel_rfl) (by kernel_rfl) ?_
              simp only [pick, List.filterMap_cons, List.filterMap_nil, List.getElem?_cons_zero, List.getElem?_cons_succ]
              go_wp2_with fail
              refine (moveC (w := wr.drew) (by omega) (by omega) HW hC v2).mono ?_
              rintro e w3 ⟨rfl, hxl, ⟨m2, hC2, HW2⟩, f3⟩
              have F3 := hfr.drew.trans f3 (fun _ _ h => h)
              have z3 := Blk.frozen HW2 (adr S.mem to l k + (j + 1))
              have c3 := HW2.mem (o := adr S.mem to l k + (j + 1)) hsum
              have hl3 := HW2.lt
              have hp2 : l' <+: noteL l' x := noteL_sub _ _
              have hk2 : k < (noteL l' x).length := Nat.lt_of_lt_of_le hkl' hp2.length_le
              have ea2 : adr S.mem to (noteL l' x) k = adr S.mem to l k := by rw [adr_pre hp2 (by omega), ea]
              have eg2 : (noteL l' x)[k] = l[k] := by
                have := List.IsPrefix.getElem hp2 hkl'
                rw [← this, eg]
              have hS := hC2.store hk2 (by rw [eg2]; exact hj) (by rw [eg2, hx]; exact hxl)
              rw [eg2, ea2, hx] at hS
              have key := HW2.setMem (o := adr S.mem to l k + (j + 1)) hsum (nwA S.mem to (noteL l' x) x)
              have keyF := F3.setC h (adr S.mem to l k + (j + 1)) (.int .i64 (nwA S.mem to (noteL l' x) x)) (fun _ => rfl)
              have hR2 := hR.pre hp2
              have key2 : HM (w3.setCell ⟨h, adr S.mem to l k + (j + 1), none⟩ (.int .i64 (nwA S.mem to (noteL l' x) x))) h (midS S to (noteL l' x) (fun o => if o = adr S.mem to l k + 1 + j then nwA S.mem to (noteL l' x) x else m2 o) r) := by
                have e : (fun o => if o = adr S.mem to l k + 1 + j then nwA S.mem to (noteL l' x) x else m2 o) = upd m2 (adr S.mem to l k + (j + 1)) (nwA S.mem to (noteL l' x) x) := by
                  funext o; simp only [upd, show adr S.mem to l k + (j + 1) = adr S.mem to l k + 1 + j by omega]
                rw [e]
                exact key
              clear key HW HW2 hC hR hfr cm ev
              go_wp2_with fail
              refine ⟨by kernel_rfl, ?_⟩
              go_wp2_with fail
              go_roundg (gk - 1)
              case measure => omega
              case rel => exact ⟨j + 1, _, _, by simp, by omega, Hfold.out, hS, ⟨r, hR2, key2⟩, keyF⟩
            · have hjn : j = nrO S.mem l[k].toNat := by omega
              have hN := hC.next hkl' (by rw [eg]; omega)
              have hfull : l' = (rfO S.mem l[k]).foldl noteL l := by
                rw [hl', List.take_of_length_le (by rw [rfO_len]; omega)]
              have eadr : adr S.mem to l' (k + 1) = adr S.mem to l k + wdO S.mem l[k].toNat := by rw [adr_succ hkl', ea, eg]
              rw [← hfull] at hstep
              have hj2 : ¬ (((j + 1 : Nat) : Int) ≤ nrO S.mem l[k].toNat) := by omega
              clear hl' hfull hjn hjg' hC
              go_wp2_with fail
              refine (hWd _).mono ?_
              rintro e w3 ⟨rfl, rfl⟩
              go_wp2_with fail
              go_roundg (g0 - 1)
              case measure => omega
              case rel => exact ⟨k + 1, l', m', r, by rw [eadr]; simp, by omega, hkl', hN, hR, HW, hstep, hfr⟩
        · have hkn : k = l.length := by omega
          subst hkn
          rw [scanF_end (Nat.le_refl _)] at hord
          have z1 := Blk.frozen HW 96
          have z2 := Blk.frozen HW 123
          have cb := HW.base
          have cu : wr.cell? ⟨h, 123, none⟩ = some (.int .i64 S.turns) := HW.turns
          have key := fun x : Int => (HW.setBase to).setTurns x
          have keyF := fun x : Int => (hfr.setC h 96 (.int .i64 to) (fun _ => rfl)).setC h 123 (.int .i64 x) (fun _ => rfl)
          have hColl : ∀ x : Int, Coll S { midS S to l m r with base := to, turns := x } := fun x => by
            have e := Hto.out
            subst hord
            refine ⟨⟨os, hI, ?_⟩, e, ?_, ?_, rfl⟩
            · rw [← e]; exact hC
            · rw [← e]; rfl
            · intro i hi; rw [← e]; exact (hR.1 i hi).1
          have Hk2 : Hid (_ ∧ _ ∧ _) := ⟨hColl, key, keyF⟩
          clear hColl key keyF HW hC hR hfr hord
          go_wp2_with fail
          go_end0
          exact ⟨rfl, ⟨_, Hk2.out.1 _, Hk2.out.2.1 _⟩, Hk2.out.2.2 _⟩
end Go.Proofs.Qxb6500277aGreat
