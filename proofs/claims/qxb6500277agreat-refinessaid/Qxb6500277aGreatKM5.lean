/- The model heap: find, order, Live. -/
import Derived.Test.Qxb6500277aGreatKM3
import Derived.Test.Qxb6500277aGreatKW9
import Derived.Test.Qxb6500277aGreatText4
namespace Go.Proofs.Qxb6500277aGreat
open Go Go.RowKit

set_option maxHeartbeats 1000000 in
theorem findMF {w : World} {v : Value} {l : List Int} (K : KiAt w v l) (hl : l.length ≤ 1000) (x : Int) : Calls Tryz.prog 216 #[v, .int .i64 x] w fun e w' => e = .returned (.int .i64 (fnd l x)) ∧ w' = w := by
  rcases K with ⟨rfl, rfl⟩ | ⟨b, cap, g, rfl, hc, hbk, hf⟩
  · have e : fnd [] x = -1 := rfl
    rw [e]
    go_enter Tryz.func216, Tryz.ntmps216
    go_wp2_with fail
    refine wp_loop_rounds 1 ?_
    rw [rounds_succ]
    go_wp2_with fail
    go_ret
    exact ⟨rfl, rfl⟩
  · have hlt := hbk.lt
    go_enter Tryz.func216, Tryz.ntmps216
    go_wp2_with fail
    go_loopg [9] l.length (fun g kv wr => ∃ k : Nat, kv = .int .i64 k ∧ k + g = l.length ∧ (∀ j (hj : j < l.length), j < k → l[j] ≠ x) ∧ wr = w)
    case atStart => exact ⟨0, rfl, by omega, fun j _ h => by omega, rfl⟩
    case round =>
      obtain ⟨k, rfl, hkg, hno, rfl⟩ := hrel
      have hkg' : k + gk = l.length := hkg
      clear hkg
      by_cases hk : k < l.length
      · have hk' : (k : Int) < l.length := by omega
        have ck := hbk.cell (o := k) (by omega)
        rw [hf k hk] at ck
        by_cases he : l[k] = x
        · have Hf : Hid _ := fnd_hit hk he hno
          rw [he] at ck
          clear hno he
          go_wp2_with fail
          go_ret
          exact ⟨by rw [Hf.out]; rfl, rfl⟩
        · have hb : (l[k] == x) = false := by simpa using he
          go_wp2_with fail
          go_roundg (gk - 1)
          case measure => omega
          case rel =>
            refine ⟨k + 1, by simp, by omega, fun j hj hjk => ?_, rfl⟩
            by_cases e : j = k
            · subst e; exact he
            · exact hno j hj (by omega)
      · have hkn : k = l.length := by omega
        have Hf : Hid (fnd l x = -1) := fnd_miss fun hm => by
          obtain ⟨j, hj, e⟩ := List.getElem_of_mem hm
          exact hno j hj (by omega) e
        have hk2 : ¬ ((k : Int) < l.length) := by omega
        clear hno
        go_wp2_with fail
        go_ret
        exact ⟨by rw [Hf.out]; rfl, rfl⟩
/-- A growing list beside the model. -/
structure Odr (w0 : World) (m : Nat) (M : MS) (O : Nat → Prop) (ov rv : Value) (f : Nat → Value) (wr : World) (v : Value) (l : List Int) : Prop where
  K : KiAt wr v l
  own : ∀ c, isB v c → w0.heap.size ≤ c
  V : MV wr m M O ov rv f
  fr : Fr (fun _ => False) w0 wr
  hO : ∀ c, O c → c < w0.heap.size
section
variable {w0 : World} {m : Nat} {M : MS} {O : Nat → Prop} {ov rv : Value} {f : Nat → Value} {wr w' : World} {v v' : Value} {l q : List Int}
theorem Odr.same (D : Odr w0 m M O ov rv f wr v l) (k : Fr (fun _ => False) wr w') : Odr w0 m M O ov rv f w' v l :=
  ⟨D.K.frame k (fun _ _ h => h), D.own, D.V.frame k (fun _ _ h => h), D.fr.trans k (fun _ _ h => h), D.hO⟩
theorem Odr.app (D : Odr w0 m M O ov rv f wr v l) (hK : KiAt w' v' (l ++ q)) (hb : ∀ c, isB v' c → wr.heap.size ≤ c ∨ isB v c) (k : Fr (isB v) wr w') : Odr w0 m M O ov rv f w' v' (l ++ q) :=
  ⟨hK, fun c hc => (hb c hc).elim (fun h => Nat.le_trans D.fr.size h) (D.own c), D.V.frame k (fun c hc hh => by have := D.hO c hc; have := D.own c hh; omega), D.fr.trans k (fun c hc hh => by have := D.own c hh; omega), D.hO⟩
theorem Odr.one (_ : Odr w0 m M O ov rv f wr v l) (x : Int) : KiP (wr.alloc (.cells #[.int .i64 x] 3)) wr.heap.size [x] := KiP.one ((Blk.new wr #[.int .i64 x] 3 (fun _ => .int .i64 x) (fun o ho => by
    have ho : o < 1 := by simpa using ho
    obtain rfl : o = 0 := by omega
    rfl)).cell (by simp))
theorem Odr.two (_ : Odr w0 m M O ov rv f wr v l) (x y : Int) : KiP (wr.alloc (.cells #[.int .i64 x, .int .i64 y] 3)) wr.heap.size [x, y] := by
  have hb := Blk.new wr #[.int .i64 x, .int .i64 y] 3 (fun o => if o = 0 then .int .i64 x else .int .i64 y) (fun o ho => by
    have ho : o < 2 := by simpa using ho
    obtain rfl | rfl : o = 0 ∨ o = 1 := by omega
    all_goals rfl)
  exact KiP.two (hb.cell (o := 0) (by simp)) (hb.cell (o := 1) (by simp))
end
theorem MInv.part {M : MS} (mi : MInv M) {l : List Int} (h : Part (stockM M.objs.length) l) : l.length ≤ 48 := by
  have h1 := nodup_len h.nd h.sub
  have h2 := mi.len
  simp [stockM] at h1
  omega
theorem InM.st {n : Nat} {x : Int} (h : InM n x) : x = -1 ∨ x ∈ stockM n := h.imp id stock_mem.2
theorem rt_take (M : MS) {i : Nat} (h : i < M.rt.length) : (M.rt.take (i + 1)).foldl noteL [] = noteL ((M.rt.take i).foldl noteL []) M.rt[i] := by
  rw [List.take_succ_eq_append_getElem h, List.foldl_append]; rfl
theorem fold_take (q l : List Int) {j : Nat} (h : j < q.length) : (q.take (j + 1)).foldl noteL l = noteL ((q.take j).foldl noteL l) q[j] := by
  rw [List.take_succ_eq_append_getElem h, List.foldl_append]; rfl
set_option maxRecDepth 100000 in
set_option maxHeartbeats 8000000 in
theorem orderMF {w : World} {m : Nat} {M : MS} {O : Nat → Prop} {ov rv : Value} {f : Nat → Value} (V : MV w m M O ov rv f) (mi : MInv M) (h24 : M.rt.length ≤ 24) : Calls Tryz.prog 215 #[.pointer (some ⟨m, 0, none⟩)] w fun e w' => ∃ v, e = .returned v ∧ Odr w m M O ov rv f w' v M.gh.ord := by
  obtain ⟨c0, c1, hlt, hz⟩ := V.cells
  have D0 : Odr w m M O ov rv f w (.slice none 0 0) [] := ⟨.inl ⟨rfl, rfl⟩, fun c hc => absurd hc (nil_noB c), V, Fr.refl _ _, V.lt⟩
  obtain ⟨ra, rc, hrv, hrc⟩ := V.rt.sl
  have c1' := c1
  rw [hrv] at c1'
  have Hrv : Hid _ := hrv
  clear c1 hrv
  go_enter Tryz.func215, Tryz.ntmps215
  go_wp2_with fail
  go_loopg [3, 14] M.rt.length (fun g lv kv wr => ∃ i : Nat, kv = .int .i64 i ∧ i + g = M.rt.length ∧ Part (stockM M.objs.length) ((M.rt.take i).foldl noteL []) ∧ Odr w m M O ov rv f wr lv ((M.rt.take i).foldl noteL []))
  case atStart => exact ⟨0, rfl, by omega, ⟨by simp, by simp⟩, D0⟩
  case round =>
    clear D0 c0 c1' hlt hz V
    obtain ⟨i, rfl, hig, hP, D⟩ := hrel
    have hig' : i + gk = M.rt.length := hig
    clear hig
    by_cases hi : i < M.rt.length
    · have hi' : (i : Int) < M.rt.length := by omega
      obtain ⟨rb, rc2, hrb, hrbl, cr, _⟩ := D.V.rt.get hi
      have e0 : Value.slice ra M.rt.length rc = .slice (some ⟨rb, 0, none⟩) M.rt.length rc2 := by rw [← Hrv.out, hrb]
      have hra : ra = some ⟨rb, 0, none⟩ := by cases e0; rfl
      have Hs : Hid _ := rt_take M hi
      have hP2 := hP.note (mi.rts _ (List.getElem_mem hi)).st
      rw [← Hs.out] at hP2
      generalize hx0 : M.rt[i] = xx at *
      clear hx0 e0 hrb
      subst hra
      generalize hl : (M.rt.take i).foldl noteL [] = l at *
      clear hl
      have FM := findMF D.K (by have := mi.part hP; omega) xx
      by_cases h0 : 0 ≤ xx
      · by_cases hm : xx ∈ l
        · have hn : noteL (l) xx = l := by simp [noteL, hm]
          have hfn : ¬ (fnd (l) xx < 0) := fun h => fnd_neg.1 h hm
          have D2 := D
          rw [← hn] at D2
          have Hn : Hid _ := hn
          clear hn hm
          go_wp2_with fail
          refine FM.mono ?_
          rintro e w2 ⟨rfl, rfl⟩
          generalize fnd (l) xx = zz at *
          go_wp2_with fail
          go_roundg (gk - 1)
          case measure => omega
          case rel => exact ⟨i + 1, by simp, by omega, hP2, by rw [Hs.out]; exact D2⟩
        · have hn : noteL (l) xx = l ++ [xx] := by simp [noteL, hm, h0]
          have hfn : fnd (l) xx < 0 := fnd_neg.2 hm
          have DA := D.same ((Fr.refl (fun _ => False) _).alloc (.cells #[.int .i64 xx] 3))
          have hx := D.one xx
          have Hn : Hid _ := hn
          clear hn hm
          go_wp2_with fail
          refine FM.mono ?_
          rintro e w2 ⟨rfl, rfl⟩
          generalize fnd (l) xx = zz at *
          go_wp2_with (
            at_builtin
            refine wpList_appendI (by rfl) _ _ (by rfl) _ _ [xx] _ 1 1 (by rfl) (by rfl) rfl DA.K hx (.inr (by simp)) (by have := mi.part hP; simp; omega) ?_
            intro v' w5 hc5 hb5 f5)
          have D2 := DA.app hc5 hb5 f5
          rw [← Hn.out] at D2
          clear hc5 hb5 f5 hx DA
          go_wp2_with fail
          go_roundg (gk - 1)
          case measure => omega
          case rel => exact ⟨i + 1, by simp, by omega, hP2, by rw [Hs.out]; exact D2⟩
      · have hn : noteL (l) xx = l := by simp [noteL, h0]
        have D2 := D
        rw [← hn] at D2
        have h0' : xx < 0 := by omega
        clear hn
        go_wp2_with fail
        go_roundg (gk - 1)
        case measure => omega
        case rel => exact ⟨i + 1, by simp, by omega, hP2, by rw [Hs.out]; exact D2⟩
    · have hin : i = M.rt.length := by omega
      have hi2 : ¬ ((i : Int) < M.rt.length) := by omega
      obtain ⟨l0, hl0⟩ : ∃ l0, l0 = (M.rt.take i).foldl noteL [] := ⟨_, rfl⟩
      rw [← hl0] at hP D
      have hord : scanF (rfM M.objs) 100 0 l0 = M.gh.ord := by rw [hl0, hin, List.take_length]; rfl
      clear hl0 hin hig'
      go_wp2_with fail
      go_loopg [3, 6] 100 (fun g lv kv wr => ∃ k l, kv = .int .i64 (k : Nat) ∧ k + g = 100 ∧ k ≤ l.length ∧ Part (stockM M.objs.length) l ∧ scanF (rfM M.objs) (100 - k) k l = M.gh.ord ∧ Odr w m M O ov rv f wr lv l)
      case atStart => exact ⟨0, l0, rfl, by omega, by omega, hP, hord, D⟩
      case round =>
        clear D hP hord
        obtain ⟨k, l, rfl, hkg, hkl, hP, hord, D⟩ := hrel
        have hkg' : k + gk = 100 := hkg
        clear hkg
        obtain ⟨g0, hg0⟩ : ∃ g0, gk = g0 := ⟨_, rfl⟩
        have hl48 := mi.part hP
        by_cases hk : k < l.length
        · have hk' : (k : Int) < l.length := by omega
          obtain ⟨lb, lc, hlv, hlbl, ck, _⟩ := D.K.get hk
          have hst := stock_mem.1 (hP.sub _ (List.getElem_mem hk))
          obtain ⟨x, hx⟩ := Int.eq_ofNat_of_zero_le hst.1
          have hxl : x < M.objs.length := by omega
          have hstep : scanF (rfM M.objs) (100 - (k + 1)) (k + 1) ((M.objs[x].1).foldl noteL l) = M.gh.ord := by
            rw [← hord, show 100 - k = (100 - (k + 1)) + 1 by omega, scanF_step hk, hx, (rfM_get (i := (x : Int)) (by simpa using hxl)).1]
            simp
          rw [hx] at ck
          obtain ⟨c0, c1, hlt, hz⟩ := D.V.cells
          obtain ⟨ob, oc, hov, hobl, d0, d1⟩ := D.V.obj hxl
          obtain ⟨ka, kc, hka, hkc⟩ := (D.V.fl x hxl).1.sl
          rw [hov] at c0
          rw [hka] at d0
          have Hka : Hid _ := hka
          have hxl' : (x : Int) < M.objs.length := by omega
          have hol := mi.len
          have D' := D
          subst hlv
          have hsz := (mi.sz _ (List.getElem_mem hxl)).1
          have hcl := mi.cl _ (List.getElem_mem hxl)
          generalize hqq : M.objs[x].1 = qq at *
          clear hord hx hst hka
          go_wp2_with fail
          refine wp_region_text (by kernel_rfl) (by kernel_rfl) ?_
          go_wp2_with fail
          refine ⟨by kernel_rfl, ?_⟩
          go_wp2_with fail
          go_loopg [3, 49] qq.length (fun g lv kv wr => ∃ j : Nat, kv = .int .i64 j ∧ j + g = qq.length ∧ Part (stockM M.objs.length) ((qq.take j).foldl noteL l) ∧ Odr w m M O ov rv f wr lv ((qq.take j).foldl noteL l))
          case atStart => exact ⟨0, rfl, by omega, hP, D'.same (Fr.refl (fun _ => False) _).drew⟩
          case round =>
            clear D D' hP c0 c1 hlt hz d0 d1 ck hlbl hobl
            obtain ⟨j, rfl, hjg, hP, D⟩ := hrel
            have hjg' : j + gk = qq.length := hjg
            clear hjg
            by_cases hj : j < qq.length
            · have hj' : (j : Int) < qq.length := by omega
              have hqk := (D.V.fl x hxl).1
              rw [hqq] at hqk
              obtain ⟨qb, qc, hqb, hqbl, cq, _⟩ := hqk.get hj
              have e0 : Value.slice ka qq.length kc = .slice (some ⟨qb, 0, none⟩) qq.length qc := by rw [← Hka.out, hqb]
              have hra : ka = some ⟨qb, 0, none⟩ := by cases e0; rfl
              have Hs : Hid _ := fold_take qq l hj
              have hP2 := hP.note (hcl _ (List.getElem_mem hj)).st
              rw [← Hs.out] at hP2
              generalize hx0 : qq[j] = xx at *
              clear hx0 e0 hqb hqk
              subst hra
              generalize hll : (qq.take j).foldl noteL l = l2 at *
              clear hll
              have FM := findMF D.K (by have := mi.part hP; omega) xx
              by_cases h0 : 0 ≤ xx
              · by_cases hm : xx ∈ l2
                · have hn : noteL (l2) xx = l2 := by simp [noteL, hm]
                  have hfn : ¬ (fnd (l2) xx < 0) := fun h => fnd_neg.1 h hm
                  have D2 := D
                  rw [← hn] at D2
                  have Hn : Hid _ := hn
                  clear hn hm
                  go_wp2_with fail
                  refine FM.mono ?_
                  rintro e w2 ⟨rfl, rfl⟩
                  generalize fnd (l2) xx = zz at *
                  go_wp2_with fail
                  go_roundg (gk - 1)
                  case measure => omega
                  case rel => exact ⟨j + 1, by simp, by omega, hP2, by rw [Hs.out]; exact D2⟩
                · have hn : noteL (l2) xx = l2 ++ [xx] := by simp [noteL, hm, h0]
                  have hfn : fnd (l2) xx < 0 := fnd_neg.2 hm
                  have DA := D.same ((Fr.refl (fun _ => False) _).alloc (.cells #[.int .i64 xx] 3))
                  have hx := D.one xx
                  have Hn : Hid _ := hn
                  clear hn hm
                  go_wp2_with fail
                  refine FM.mono ?_
                  rintro e w2 ⟨rfl, rfl⟩
                  generalize fnd (l2) xx = zz at *
                  go_wp2_with (
                    at_builtin
                    refine wpList_appendI (by rfl) _ _ (by rfl) _ _ [xx] _ 1 1 (by rfl) (by rfl) rfl DA.K hx (.inr (by simp)) (by have := mi.part hP; simp; omega) ?_
                    intro v' w5 hc5 hb5 f5)
                  have D2 := DA.app hc5 hb5 f5
                  rw [← Hn.out] at D2
                  clear hc5 hb5 f5 hx DA
                  go_wp2_with fail
                  go_roundg (gk - 1)
                  case measure => omega
                  case rel => exact ⟨j + 1, by simp, by omega, hP2, by rw [Hs.out]; exact D2⟩
              · have hn : noteL (l2) xx = l2 := by simp [noteL, h0]
                have D2 := D
                rw [← hn] at D2
                have h0' : xx < 0 := by omega
                clear hn
                go_wp2_with fail
                go_roundg (gk - 1)
                case measure => omega
                case rel => exact ⟨j + 1, by simp, by omega, hP2, by rw [Hs.out]; exact D2⟩
            · have hj2 : ¬ ((j : Int) < qq.length) := by omega
              have hfull : (qq.take j).foldl noteL l = qq.foldl noteL l := by rw [List.take_of_length_le (by omega)]
              rw [hfull] at D hP
              have hkl' : k + 1 ≤ (qq.foldl noteL l).length := Nat.le_trans hk (notes_sub _ l).length_le
              clear hfull hjg'
              go_wp2_with fail
              go_roundg (g0 - 1)
              case measure => omega
              case rel => exact ⟨k + 1, _, by simp, by omega, hkl', hP, hstep, D⟩
        · have hkn : k = l.length := by omega
          subst hkn
          rw [scanF_end (Nat.le_refl _)] at hord
          subst hord
          have hk2 : ¬ ((M.gh.ord.length : Int) < M.gh.ord.length) := by omega
          obtain ⟨la, lc, hlv, _⟩ := D.K.sl
          have D' := D
          subst hlv
          go_wp2_with fail
          refine bodyPost_ret (v := .slice la M.gh.ord.length lc) (by simp [results, Tryz.results215, go_sem]) rfl ?_
          exact ⟨_, rfl, D'⟩
set_option maxRecDepth 100000 in
set_option maxHeartbeats 8000000 in
theorem liveMF {w : World} {m : Nat} {M : MS} {O : Nat → Prop} {ov rv : Value} {f : Nat → Value} (V : MV w m M O ov rv f) (mi : MInv M) (h24 : M.rt.length ≤ 24) : Calls Tryz.prog 178 #[.pointer (some ⟨m, 0, none⟩)] w fun e w' => e = .returned (.int .i64 (M.gh.live : Nat)) ∧ MV w' m M O ov rv f ∧ Fr (fun _ => False) w w' := by
  have T := orderMF V mi h24
  have hok := mi.ok
  have hP : Part (stockM M.objs.length) M.gh.ord := ⟨hok.nd, hok.sub⟩
  have hl48 := mi.part hP
  obtain ⟨wf, hwf⟩ : ∃ wf : Int → Nat, wf = fun a => 1 + (rfM M.objs a).length + (itM M.objs a).length := ⟨_, rfl⟩
  have Hlive : Hid (M.gh.live = ((M.gh.ord.take M.gh.ord.length).map wf).sum) := by
    show _ = _
    rw [List.take_length, hwf]; rfl
  have hbd : ∀ k, k ≤ M.gh.ord.length → ((M.gh.ord.take k).map wf).sum ≤ 97 * k := by
    intro k
    induction k with
    | zero => intro _; simp
    | succ n ih =>
      intro hn
      have hst := stock_mem.1 (hP.sub _ (List.getElem_mem (show n < M.gh.ord.length by omega)))
      have hg := rfM_get (os := M.objs) (i := M.gh.ord[n]) (by omega)
      have hsz := mi.sz _ (List.getElem_mem (show (M.gh.ord[n]).toNat < M.objs.length by omega))
      rw [List.take_succ_eq_append_getElem (by omega), List.map_append, List.sum_append]
      have h1 : wf M.gh.ord[n] ≤ 97 := by rw [hwf]; simp only; rw [hg.1, hg.2]; omega
      have h2 := ih (by omega)
      simp only [List.map_cons, List.map_nil, List.sum_cons, List.sum_nil]
      omega
  have hsucc : ∀ k (hk : k < M.gh.ord.length), ((M.gh.ord.take (k + 1)).map wf).sum = ((M.gh.ord.take k).map wf).sum + wf M.gh.ord[k] := fun k hk => by
    rw [List.take_succ_eq_append_getElem hk, List.map_append, List.sum_append]; simp
  have hwx : ∀ x : Nat, ∀ hx : x < M.objs.length, wf x = 1 + M.objs[x].1.length + M.objs[x].2.length := fun x hx => by
    have hg := rfM_get (os := M.objs) (i := (x : Int)) (by simpa using hx)
    rw [hwf]; simp only; rw [hg.1, hg.2]; simp
  clear hwf hok
  generalize M.gh.ord = l at *
  generalize M.gh.live = LV at *
  go_enter Tryz.func178, Tryz.ntmps178
  go_wp2_with fail
  refine T.mono ?_
  rintro e w1 ⟨v, rfl, D1⟩
  obtain ⟨la, lc, hlv, _⟩ := D1.K.sl
  subst hlv
  go_wp2_with fail
  go_loopg [3, 9] l.length (fun g sv kv wr => ∃ k : Nat, kv = .int .i64 k ∧ sv = .int .i64 (((l.take k).map wf).sum : Nat) ∧ k + g = l.length ∧ Odr w m M O ov rv f wr (.slice la l.length lc) l)
  case atStart => exact ⟨0, rfl, by simp, by omega, D1⟩
  case round =>
    clear D1 T V
    obtain ⟨k, rfl, rfl, hkg, D⟩ := hrel
    have hkg' : k + gk = l.length := hkg
    clear hkg
    by_cases hk : k < l.length
    · have hk' : (k : Int) < l.length := by omega
      obtain ⟨lb, lc2, hlb, hlbl, ck, _⟩ := D.K.get hk
      have hra : la = some ⟨lb, 0, none⟩ := by cases hlb; rfl
      have hst := stock_mem.1 (hP.sub _ (List.getElem_mem hk))
      obtain ⟨x, hx⟩ := Int.eq_ofNat_of_zero_le hst.1
      have hxl : x < M.objs.length := by omega
      have Hs : Hid _ := hsucc k hk
      have hb1 := hbd k (by omega)
      rw [hx] at ck Hs
      obtain ⟨c0, c1, hlt, hz⟩ := D.V.cells
      obtain ⟨ob, oc, hov, hobl, d0, d1⟩ := D.V.obj hxl
      obtain ⟨ka, kc, hka, _⟩ := (D.V.fl x hxl).1.sl
      obtain ⟨ia, ic, hia, _⟩ := (D.V.fl x hxl).2.sl
      rw [hov] at c0
      rw [hka] at d0
      rw [hia] at d1
      have hxl' : (x : Int) < M.objs.length := by omega
      have hol := mi.len
      have hsz := mi.sz _ (List.getElem_mem hxl)
      have Hw : Hid _ := hwx x hxl
      subst hra
      generalize ((l.take k).map wf).sum = ss at *
      clear hx hst hlb hka hia
      have hb2 : ss ≤ 5000 := by omega
      generalize M.objs[x].1.length = n1 at *
      generalize M.objs[x].2.length = n2 at *
      go_wp2_with fail
      refine wp_region_text (by kernel_rfl) (by kernel_rfl) ?_
      go_wp2_with fail
      refine ⟨by kernel_rfl, ?_⟩
      go_wp2_with fail
      go_roundg (gk - 1)
      case measure => omega
      case rel => exact ⟨k + 1, by simp, by rw [Hs.out, Hw.out]; simp [Int.add_assoc], by omega, D.same (Fr.refl (fun _ => False) _).drew⟩
    · have hkn : k = l.length := by omega
      subst hkn
      rw [← Hlive.out]
      have hk2 : ¬ ((l.length : Int) < l.length) := by omega
      go_wp2_with fail
      go_ret
      exact ⟨rfl, D.V, D.fr⟩
end Go.Proofs.Qxb6500277aGreat
