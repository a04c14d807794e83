/- The model heap: tidy, the walk. -/
import Derived.Test.Qxb6500277aGreatKM7
import Derived.Test.Qxb6500277aGreatText2
namespace Go.Proofs.Qxb6500277aGreat
open Go Go.RowKit

theorem iv0 (k : Nat) : (iv 0).cells[k % (iv 0).cells.size]! = .int .i64 0 := by
  have e : (iv 0).cells = #[.int .i64 0] := rfl
  rw [e]
  simp [Nat.mod_one]
theorem Odr.far {w0 : World} {m : Nat} {M : MS} {O : Nat → Prop} {ov rv : Value} {f : Nat → Value} {wr w' : World} {v : Value} {l : List Int} {S : Nat → Prop} (D : Odr w0 m M O ov rv f wr v l) (k : Fr S wr w') (hS : ∀ c, S c → w0.heap.size ≤ c ∧ ¬ isB v c) : Odr w0 m M O ov rv f w' v l :=
  ⟨D.K.frame k (fun c hc hs => (hS c hs).2 hc), D.own, D.V.frame k (fun c hc hs => by have := D.hO c hc; have := (hS c hs).1; omega), D.fr.trans k (fun c hc hs => by have := (hS c hs).1; omega), D.hO⟩
set_option maxRecDepth 100000 in
set_option maxHeartbeats 16000000 in
theorem tidyMF {w : World} {m : Nat} {M : MS} {O : Nat → Prop} {ov rv : Value} {f : Nat → Value} (V : MV w m M O ov rv f) (mi : MInv M) (h24 : M.rt.length ≤ 24) : Calls Tryz.prog 179 #[.pointer (some ⟨m, 0, none⟩)] w fun e w' => e = .returned (.tuple #[]) ∧ MM w' m (tidyM M) (Gw O w w') ∧ Fr O w w' := by
  have T := orderMF V mi h24
  have hok := mi.ok
  have hP : Part (stockM M.objs.length) M.gh.ord := ⟨hok.nd, hok.sub⟩
  have hl48 := mi.part hP
  have Htm : Hid (tidyM M = ⟨M.gh.ord.map fun x => ((rfM M.objs x).map (fnd M.gh.ord), itM M.objs x), M.rt.map (fnd M.gh.ord)⟩) := rfl
  have hst : ∀ x ∈ M.gh.ord, 0 ≤ x ∧ x.toNat < M.objs.length := fun x hx => by
    have := stock_mem.1 (hP.sub x hx)
    omega
  generalize tidyM M = TM at *
  generalize M.gh.ord = L at *
  obtain ⟨ra, rc, hrv, hrc⟩ := V.rt.sl
  have Hrv : Hid _ := hrv
  have hmO := V.om
  have hO := V.lt
  clear hok hrv
  go_enter Tryz.func179, Tryz.ntmps179
  go_wp2_with fail
  refine T.mono ?_
  rintro e w1 ⟨lv, rfl, D1⟩
  obtain ⟨la, lc, hlv, _⟩ := D1.K.sl
  subst hlv
  have hw1 := D1.fr.size
  have hlo : ∀ c, isB (.slice la L.length lc) c → c < w1.heap.size := fun c hc => D1.K.bk hc
  clear T V
  go_wp2_with (
    refine wpList_makeB (by rfl) 125 _ _ (by rfl) 195 2 48 z64 L.length (by rfl) (by rfl) Tryz.underlying125 (by kernel_rfl) (by kernel_rfl) (by kernel_rfl) (by omega) (by omega) ?_
    intro w2 f2 z2 b2)
  have D2 := D1.same f2
  have hw2 : w1.heap.size + 1 = w2.heap.size := z2.symm
  obtain ⟨nb, hnb⟩ : ∃ nb, w1.heap.size = nb := ⟨_, rfl⟩
  have Hnb : Hid (w.heap.size ≤ nb) := by show _ ≤ _; omega
  have T0 : Tid w2 nb M L f (fun k => z64.cells[k % z64.cells.size]!) 0 := ⟨by rw [← hnb]; exact b2, fun j hj => by omega, fun j hj => by omega, fun j j' c hj => by omega⟩
  have hnb2 : nb < w2.heap.size := by omega
  rw [hnb] at hlo ⊢
  clear b2 f2 z2 hw2 hnb D1 hw1
  go_wp2_with fail
  go_loopg [18] L.length (fun g kv wr => ∃ i : Nat, kv = .int .i64 i ∧ i + g = L.length ∧ (∃ gg, Tid wr nb M L f gg i) ∧ Odr w m M O ov rv f wr (.slice la L.length lc) L)
  case atStart => exact ⟨0, rfl, by omega, ⟨_, T0⟩, D2⟩
  case round =>
    clear T0 D2 hnb2
    obtain ⟨i, rfl, hig, ⟨gg, T⟩, D⟩ := hrel
    have hig' : i + gk = L.length := hig
    clear hig
    obtain ⟨g0, hg0⟩ : ∃ g0, gk = g0 := ⟨_, rfl⟩
    by_cases hi : i < L.length
    · have hi' : (i : Int) < L.length := by omega
      obtain ⟨lb, lc2, hlb, hlbl, ck, _⟩ := D.K.get hi
      have hra : la = some ⟨lb, 0, none⟩ := by cases hlb; rfl
      obtain ⟨hx0, hx1⟩ := hst _ (List.getElem_mem hi)
      obtain ⟨x, hx⟩ := Int.eq_ofNat_of_zero_le hx0
      have hxl : x < M.objs.length := by rw [hx] at hx1; simpa using hx1
      rw [hx] at ck
      have Hx : Hid _ := hx
      have hg := rfM_get (os := M.objs) (i := (x : Int)) (by simpa using hxl)
      simp only [Int.toNat_natCast] at hg
      obtain ⟨c0, c1, hlt, hz⟩ := D.V.cells
      obtain ⟨ob, oc, hov, hobl, d0, d1⟩ := D.V.obj hxl
      obtain ⟨ka, kc, hka, _⟩ := (D.V.fl x hxl).1.sl
      obtain ⟨ib, in2, ic, hia⟩ := D.V.nn x hxl
      have hcl := mi.cl _ (List.getElem_mem hxl)
      rw [hov] at c0
      rw [hka] at d0
      rw [hia] at d1
      have Hka : Hid _ := hka
      have Hia : Hid _ := hia
      have Hov : Hid _ := hov
      have hxl' : (x : Int) < M.objs.length := by omega
      have hol := mi.len
      have hsz := mi.sz _ (List.getElem_mem hxl)
      have Hg : Hid _ := hg.1
      have hnbl := T.blk.lt
      have hLb : ∀ c, isB (.slice la L.length lc) c → c < wr.heap.size := fun c hc => D.K.bk hc
      have hTb : ∀ j, j < i → ∀ c, isB (gg (2 * j)) c → c < wr.heap.size := fun j hj c hc => (T.rf j hj (by omega)).1.bk hc
      generalize hq1 : M.objs[x].1 = q1 at *
      subst hra
      clear hx hx0 hx1 hlb hka hia hg hov
      go_wp2_with (
        refine wpList_makeB (by rfl) 36 _ _ (by rfl) 3 1 8 (iv 0) q1.length (by rfl) (by rfl) Tryz.underlying36 (by kernel_rfl) (by kernel_rfl) (by kernel_rfl) (by omega) (by omega) ?_
        intro w3 f3 z3 b3
        have D3 := D.same f3
        have T3 := T.frame f3 (fun h => h) (fun _ _ _ _ h => h)
        obtain ⟨c03, c13, hlt3, hz3⟩ := D3.V.cells
        obtain ⟨ob3, oc3, hov3, hobl3, d03, d13⟩ := D3.V.obj hxl
        rw [Hov.out] at hov3
        cases hov3
        rw [Hov.out] at c03
        rw [Hka.out] at d03
        rw [Hia.out] at d13)
      obtain ⟨rbk, hrbk⟩ : ∃ rbk, wr.heap.size = rbk := ⟨_, rfl⟩
      have hr3 : rbk < w3.heap.size := by omega
      have hnr : nb < rbk := by omega
      have b3' : Blk w3 rbk q1.length (fun k => (iv 0).cells[k % (iv 0).cells.size]!) := by rw [← hrbk]; simpa using b3
      rw [hrbk] at hTb hLb ⊢
      clear b3 f3 z3 D T c0 c1 hlt hz d0 d1 ck hlbl hobl hrbk hnbl c03 c13 hlt3 hz3 hobl3 d03 d13
      go_loopg [42] q1.length (fun g kv wr => ∃ j : Nat, kv = .int .i64 j ∧ j + g = q1.length ∧ (∃ hh, Blk wr rbk q1.length hh ∧ (∀ t (_ : t < j) (ht : t < q1.length), hh t = .int .i64 (fnd L q1[t])) ∧ ∀ t, t < q1.length → ∃ v, hh t = .int .i64 v) ∧ Fr (fun c => c = rbk) w3 wr)
      case atStart => exact ⟨0, rfl, by omega, ⟨_, b3', fun t h => by omega, fun t _ => ⟨0, iv0 t⟩⟩, Fr.refl _ _⟩
      case round =>
        clear b3'
        obtain ⟨j, rfl, hjg, ⟨hh, hB, hh1, hh2⟩, k4⟩ := hrel
        have hjg' : j + gk = q1.length := hjg
        clear hjg
        have hnrb : ¬ nb = rbk := by omega
        have D4 := D3.far k4 (fun c e => ⟨by have := Hnb.out; omega, fun hc => by have := hLb c hc; omega⟩)
        by_cases hj : j < q1.length
        · have hj' : (j : Int) < q1.length := by omega
          have hqk := (D4.V.fl x hxl).1
          rw [hq1] at hqk
          obtain ⟨qb, qc, hqb, hqbl, cq, _⟩ := hqk.get hj
          have e0 : Value.slice ka q1.length kc = .slice (some ⟨qb, 0, none⟩) q1.length qc := by rw [← Hka.out, hqb]
          have hka2 : ka = some ⟨qb, 0, none⟩ := by cases e0; rfl
          have FN := findMF D4.K (by omega) q1[j]
          have hBl := hB.lt
          obtain ⟨v0, hv0⟩ := hh2 j hj
          have cB := hB.cell hj
          rw [hv0] at cB
          have zB := hB.frozen j
          have kS := k4.setC rbk j (.int .i64 (fnd L q1[j])) (fun _ => rfl)
          have bS := hB.set j (.int .i64 (fnd L q1[j]))
          have h1S : ∀ t (_ : t < j + 1) (ht : t < q1.length), upd hh j (.int .i64 (fnd L q1[j])) t = .int .i64 (fnd L q1[t]) := fun t ht hq => by
            simp only [upd]
            by_cases e : t = j
            · subst e; rw [if_pos rfl]
            · rw [if_neg e]; exact hh1 t (by omega) hq
          have h2S : ∀ t, t < q1.length → ∃ v, upd hh j (.int .i64 (fnd L q1[j])) t = .int .i64 v := fun t ht => by
            simp only [upd]
            split
            · exact ⟨_, rfl⟩
            · exact hh2 t ht
          have Hk : Hid (_ ∧ _ ∧ _ ∧ _) := ⟨kS, bS, h1S, h2S⟩
          clear kS bS h1S h2S hh1 hh2 hv0 hB e0 hqb hqk D4
          subst hka2
          generalize q1[j] = xx at *
          go_wp2_with fail
          refine FN.mono ?_
          rintro e w5 ⟨rfl, rfl⟩
          go_wp2_with fail
          go_roundg (gk - 1)
          case measure => omega
          case rel => exact ⟨j + 1, by simp, by omega, ⟨_, Hk.out.2.1, Hk.out.2.2.1, Hk.out.2.2.2⟩, Hk.out.1⟩
        · have hj2 : ¬ ((j : Int) < q1.length) := by omega
          have hjn : j = q1.length := by omega
          have T4 := T3.frame k4 hnrb (fun j' hj' c hc e => by have := hTb j' hj' c hc; omega)
          have hK : KiAt wr (.slice (some ⟨rbk, 0, none⟩) q1.length q1.length) (q1.map (fnd L)) := .inr ⟨rbk, q1.length, hh, by simp, by simp, hB, fun t ht => by
            have ht2 : t < q1.length := by simpa using ht
            rw [hh1 t (by omega) ht2]; simp⟩
          have Hrf : Hid (rfM M.objs L[i] = q1) := by show _ = _; rw [Hx.out, Hg.out]
          have hK' : KiAt wr (.slice (some ⟨rbk, 0, none⟩) q1.length q1.length) ((rfM M.objs L[i]).map (fnd L)) := by rw [Hrf.out]; exact hK
          have hiv : (.slice (some ⟨ib, 0, none⟩) in2 ic : Value) = f (2 * L[i].toNat + 1) := by rw [Hx.out]; simpa using Hia.out.symm
          have T5 := T4.push hi hK' hiv hnr (fun j' hj' c hc e => by have := hTb j' hj' c hc; omega)
          have D5 := D4.far (((Fr.refl (fun c => c = nb) wr).setC nb (i * 2) (.slice (some ⟨rbk, 0, none⟩) q1.length q1.length) (fun _ => rfl)).setC nb (i * 2 + 1) (.slice (some ⟨ib, 0, none⟩) in2 ic) (fun _ => rfl)) (fun c e => ⟨by have := Hnb.out; omega, fun hc => by have := hlo c hc; omega⟩)
          obtain ⟨c0, c1, hlt, hz⟩ := D4.V.cells
          obtain ⟨ob4, oc4, hov4, hobl, d0, d1⟩ := D4.V.obj hxl
          have hov5 := hov4
          rw [Hov.out] at hov5
          cases hov5
          rw [Hov.out] at c0
          rw [Hia.out] at d1
          have t0 := T4.blk.cell (o := i * 2) (by omega)
          have t1 := T4.blk.cell (o := i * 2 + 1) (by omega)
          have tl := T4.blk.lt
          have tz := T4.blk.frozen
          have Hk : Hid (_ ∧ _) := ⟨T5, D5⟩
          clear T5 D5 T4 T3 D3 D4 hK hK' hiv hB hh1 hh2 hjg' hjn hov4
          go_wp2_with fail
          go_roundg (g0 - 1)
          case measure => omega
          case rel => exact ⟨i + 1, by simp, by omega, ⟨_, Hk.out.1⟩, Hk.out.2⟩
    · have hin : i = L.length := by omega
      have hi2 : ¬ ((i : Int) < L.length) := by omega
      subst hin
      clear hig'
      obtain ⟨c0, c1, hlt, hz⟩ := D.V.cells
      have c1' := c1
      rw [Hrv.out] at c1'
      clear c1
      have F0 : Fr O w wr := D.fr.mono (fun _ _ h => h.elim)
      have hTO : ∀ j, j < L.length → ∀ c, isB (gg (2 * j)) c → ¬ O c := fun j hj c hc ho => by have := T.up j hj c hc; have := D.hO c ho; have := Hnb.out; omega
      have hLO : ∀ c, isB (.slice la L.length lc) c → ¬ O c := fun c hc ho => by have := D.own c hc; have := D.hO c ho; omega
      have hnO : ¬ O nb := fun ho => by have := D.hO nb ho; have := Hnb.out; omega
      go_wp2_with fail
      go_loopg [73] M.rt.length (fun g kv wr => ∃ i : Nat, kv = .int .i64 i ∧ i + g = M.rt.length ∧ MV wr m ⟨M.objs, rtI M L i⟩ O ov rv f ∧ KiAt wr (.slice la L.length lc) L ∧ Tid wr nb M L f gg L.length ∧ Fr O w wr)
      case atStart => exact ⟨0, rfl, by omega, by rw [rtI_zero]; exact D.V, D.K, T, F0⟩
      case round =>
        clear D T F0 c0 c1' hlt hz
        obtain ⟨i, rfl, hig, V, K, T, hfr⟩ := hrel
        have hig' : i + gk = M.rt.length := hig
        clear hig
        by_cases hi : i < M.rt.length
        · have hi' : (i : Int) < M.rt.length := by omega
          obtain ⟨rb, rc2, hrb, _, hrbl, hrO, hrm, cr, crz, VS⟩ := V.setRt (i := i) (by rw [rtI_len]; exact hi)
          simp only [rtI_get M L hi] at cr
          have hrb' := hrb
          simp only [rtI_len] at hrb'
          have e0 : Value.slice ra M.rt.length rc = .slice (some ⟨rb, 0, none⟩) M.rt.length rc2 := by rw [← Hrv.out, hrb']
          have hra : ra = some ⟨rb, 0, none⟩ := by cases e0; rfl
          obtain ⟨c0, c1, hlt, hz⟩ := V.cells
          rw [Hrv.out] at c1
          have V2 := VS (fnd L M.rt[i])
          simp only [rtI_set M L hi] at V2
          have FN := fun ww (h : KiAt ww (.slice la L.length lc) L) => findMF h (by omega) M.rt[i]
          have kS := (Fr.refl (fun c => c = rb) wr).setC rb i (.int .i64 (fnd L M.rt[i])) (fun _ => rfl)
          have K2 := K.frame kS (fun c hc e => hLO c hc (e ▸ hrO))
          have T2 := T.frame kS (fun e => hnO (e ▸ hrO)) (fun j hj c hc e => hTO j hj c hc (e ▸ hrO))
          have F2 := hfr.setC rb i (.int .i64 (fnd L M.rt[i])) (fun _ => hrO)
          have Hk : Hid (_ ∧ _ ∧ _ ∧ _) := ⟨V2, K2, T2, F2⟩
          have Kd : KiAt wr.drew (.slice la L.length lc) L := K.frame (Fr.refl (fun _ => False) wr).drew (fun _ _ h => h)
          clear V2 K2 T2 F2 kS VS V T hfr e0 hrb hrb'
          subst hra
          generalize M.rt[i] = xx at *
          go_wp2_with fail
          refine wp_region_two [0, 1, 2, 4, 5, 6] [3, 7, 8, 9] [7, 3, 8, 9] (by kernel_rfl) (by kernel_rfl) ?_
          simp only [pick, List.filterMap_cons, List.filterMap_nil, List.getElem?_cons_zero, List.getElem?_cons_succ]
          go_wp2_with fail
          refine ⟨?_, ?_⟩
          all_goals
            go_wp2_with fail
            refine (FN _ Kd).mono ?_
            rintro e w5 ⟨rfl, rfl⟩
            go_wp2_with fail
            refine ⟨by kernel_rfl, ?_⟩
            go_wp2_with fail
            go_roundg (gk - 1)
            case measure => omega
            case rel => exact ⟨i + 1, by simp, by omega, Hk.out.1.frame (Fr.refl (fun _ => False) _).drew (fun _ _ h => h), Hk.out.2.1.frame (Fr.refl (fun _ => False) _).drew (fun _ _ h => h), Hk.out.2.2.1.frame (Fr.refl (fun _ => False) _).drew (fun h => h) (fun _ _ _ _ h => h), Hk.out.2.2.2.drew⟩
        · have hin : i = M.rt.length := by omega
          have hi2 : ¬ ((i : Int) < M.rt.length) := by omega
          subst hin
          have hTl : ∀ j, j < L.length → ∀ c, isB (gg (2 * j)) c → c < wr.heap.size := fun j hj c hc => (T.rf j hj hj).1.bk hc
          have VT := V.tidied (wB := wr.setCell ⟨m, 0, none⟩ (.slice (some ⟨nb, 0, none⟩) L.length L.length)) hP.nd hst T Hnb.out hO (by simp) rfl hTl
          rw [rtI_full] at VT
          obtain ⟨c0, c1, hlt, hz⟩ := V.cells
          have F2 := hfr.setC m 0 (.slice (some ⟨nb, 0, none⟩) L.length L.length) (fun _ => hmO)
          have Hk : Hid (_ ∧ _) := ⟨VT, F2⟩
          clear VT F2 T V K hfr
          go_wp2_with fail
          go_end0
          exact ⟨rfl, by rw [Htm.out]; exact ⟨_, _, _, Hk.out.1⟩, Hk.out.2⟩
end Go.Proofs.Qxb6500277aGreat
