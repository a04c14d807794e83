/- The model heap: Dump. -/
import Derived.Test.Qxb6500281aGreatKM5
import Derived.Test.Qxb6500281aGreatKW10
namespace Go.Proofs.Qxb6500281aGreat
open Go Go.RowKit

/-- A growing answer beside the list and the model. -/
structure Dm (w0 : World) (m : Nat) (M : MS) (O : Nat → Prop) (ov rv : Value) (f : Nat → Value) (B : Nat) (lv : Value) (l : List Int) (wr : World) (dv : Value) (p : List Int) : Prop where
  D : Odr w0 m M O ov rv f wr lv l
  K : KiAt wr dv p
  own : ∀ c, isB dv c → B ≤ c
  low : ∀ c, isB lv c → c < B
  hB : w0.heap.size ≤ B ∧ B ≤ wr.heap.size
  ne : 0 < p.length
section
variable {w0 : World} {m : Nat} {M : MS} {O : Nat → Prop} {ov rv : Value} {f : Nat → Value} {B : Nat} {lv : Value} {l : List Int} {wr w' : World} {dv v' : Value} {p q : List Int}
theorem Dm.same (D : Dm w0 m M O ov rv f B lv l wr dv p) (k : Fr (fun _ => False) wr w') : Dm w0 m M O ov rv f B lv l w' dv p :=
  ⟨D.D.same k, D.K.frame k (fun _ _ h => h), D.own, D.low, by have := D.hB; have := k.size; omega, D.ne⟩
theorem Dm.app (D : Dm w0 m M O ov rv f B lv l wr dv p) (hK : KiAt w' v' (p ++ q)) (hb : ∀ c, isB v' c → wr.heap.size ≤ c ∨ isB dv c) (k : Fr (isB dv) wr w') : Dm w0 m M O ov rv f B lv l w' v' (p ++ q) := by
  have hB := D.hB
  have hz := k.size
  refine ⟨⟨D.D.K.frame k (fun c hc hh => by have := D.low c hc; have := D.own c hh; omega), D.D.own, D.D.V.frame k (fun c hc hh => by have := D.D.hO c hc; have := D.own c hh; omega), D.D.fr.trans k (fun c hc hh => by have := D.own c hh; omega), D.D.hO⟩, hK, fun c hc => ?_, D.low, by omega, by have := D.ne; simp; omega⟩
  rcases hb c hc with h | h
  · omega
  · exact D.own c h
end
def objM (M : MS) (l : List Int) (a : Int) : List Int := [((rfM M.objs a).length : Int), ((itM M.objs a).length : Int)] ++ (rfM M.objs a).map (fnd l) ++ itM M.objs a
theorem dumpM_eq (M : MS) : M.gh.dump = [(M.rt.length : Int)] ++ M.rt.map (fnd M.gh.ord) ++ [(M.gh.ord.length : Int)] ++ M.gh.ord.flatMap (objM M M.gh.ord) := rfl
theorem obj2 (w : World) (x y : Value) : Blk (w.alloc (.cells #[x, y] 93)) w.heap.size 2 (mc x y) := Blk.new w _ _ _ fun o ho => by
  have ho : o < 2 := by simpa using ho
  obtain rfl | rfl : o = 0 ∨ o = 1 := by omega
  all_goals rfl
set_option maxRecDepth 100000 in
set_option maxHeartbeats 16000000 in
theorem dumpMF {w : World} {m : Nat} {M : MS} {O : Nat → Prop} {ov rv : Value} {f : Nat → Value} (V : MV w m M O ov rv f) (mi : MInv M) (h24 : M.rt.length ≤ 24) : Calls Tryz.prog 40 #[.pointer (some ⟨m, 0, none⟩)] w fun e w' => ∃ v, e = .returned v ∧ LVi w' v M.gh.dump ∧ (∀ c, isB v c → w.heap.size ≤ c) ∧ MV w' m M O ov rv f ∧ Fr (fun _ => False) w w' := by
  have T := orderMF V mi h24
  have hok := mi.ok
  have hP : Part (stockM M.objs.length) M.gh.ord := ⟨hok.nd, hok.sub⟩
  have hl48 := mi.part hP
  have hdump : Hid (M.gh.dump = [(M.rt.length : Int)] ++ M.rt.map (fnd M.gh.ord) ++ [(M.gh.ord.length : Int)] ++ (M.gh.ord.take M.gh.ord.length).flatMap (objM M M.gh.ord)) := by
    show _ = _
    rw [List.take_length]
    exact dumpM_eq M
  generalize M.gh.ord = l at *
  generalize M.gh.dump = dmp at *
  obtain ⟨ra, rc, hrv, hrc⟩ := V.rt.sl
  have Hrv : Hid _ := hrv
  clear hok hrv
  go_enter Tryz.func40, Tryz.ntmps40
  go_wp2_with fail
  refine T.mono ?_
  rintro e w1 ⟨lv, rfl, D1⟩
  obtain ⟨c0, c1, hlt, hz⟩ := D1.V.cells
  have c1' := c1
  rw [Hrv.out] at c1'
  have kD := (Fr.refl (fun _ => False) w1).alloc (.cells #[.int .i64 (M.rt.length : Int)] 3)
  have hDK : ∀ c, isB lv c → c < w1.heap.size := fun c hc => D1.K.bk hc
  have hws := D1.fr.size
  have D0 : Dm w m M O ov rv f w1.heap.size lv l (w1.alloc (.cells #[.int .i64 (M.rt.length : Int)] 3)) (.slice (some ⟨w1.heap.size, 0, none⟩) 1 1) [(M.rt.length : Int)] := by
    refine ⟨D1.same kD, .inr ⟨w1.heap.size, 1, fun _ => .int .i64 (M.rt.length : Int), rfl, Nat.le_refl _, ?_, fun i hi => ?_⟩, fun c hc => by rw [isB_one hc]; omega, hDK, ⟨hws, by simp⟩, by simp⟩
    · exact Blk.new w1 #[.int .i64 (M.rt.length : Int)] 3 (fun _ => .int .i64 (M.rt.length : Int)) (fun o ho => by
        have ho : o < 1 := by simpa using ho
        obtain rfl : o = 0 := by omega
        rfl)
    · have hi : i < 1 := by simpa using hi
      obtain rfl : i = 0 := by omega
      rfl
  obtain ⟨e0, e1, elt, ez⟩ := D0.D.V.cells
  rw [Hrv.out] at e1
  generalize hBB : w1.heap.size = B at *
  have HBB : Hid _ := hBB
  clear hBB c1 c0 kD T D1 hDK hws
  go_wp2_with fail
  go_loopg [4, 26] M.rt.length (fun g dv kv wr => ∃ i : Nat, kv = .int .i64 i ∧ i + g = M.rt.length ∧ Dm w m M O ov rv f B lv l wr dv ([(M.rt.length : Int)] ++ (M.rt.take i).map (fnd l)))
  case atStart => exact ⟨0, rfl, by omega, by rw [HBB.out]; simpa using D0⟩
  case round =>
    clear D0 e0 e1 elt ez c1' hlt hz
    obtain ⟨i, rfl, hig, D⟩ := hrel
    have hig' : i + gk = M.rt.length := hig
    clear hig
    by_cases hi : i < M.rt.length
    · have hi' : (i : Int) < M.rt.length := by omega
      obtain ⟨rb, rc2, hrb, hrbl, cr, _⟩ := D.D.V.rt.get hi
      have e0 : Value.slice ra M.rt.length rc = .slice (some ⟨rb, 0, none⟩) M.rt.length rc2 := by rw [← Hrv.out, hrb]
      have hra : ra = some ⟨rb, 0, none⟩ := by cases e0; rfl
      have Hs : Hid _ := map_take (fnd l) hi
      have FN := findMF D.D.K (by omega) M.rt[i]
      generalize M.rt[i] = xx at *
      clear e0 hrb
      subst hra
      go_wp2_with fail
      refine FN.mono ?_
      rintro e w2 ⟨rfl, rfl⟩
      have DA := D.same ((Fr.refl (fun _ => False) _).alloc (.cells #[.int .i64 (fnd l xx)] 3))
      have hx := D.D.one (fnd l xx)
      go_wp2_with (
        at_builtin
        refine wpList_appendI (by rfl) _ _ (by rfl) _ _ [(fnd l xx)] _ 1 1 (by rfl) (by rfl) rfl DA.K hx (.inl DA.ne) (by simp; omega) ?_
        intro v' w5 hc5 hb5 f5)
      have D5 := DA.app hc5 hb5 f5
      clear hc5 hb5 f5 hx DA FN D cr hrbl
      go_wp2_with fail
      go_roundg (gk - 1)
      case measure => omega
      case rel => exact ⟨i + 1, by simp, by omega, by rw [Hs.out, ← List.append_assoc]; exact D5⟩
    · have hin : i = M.rt.length := by omega
      have hi2 : ¬ ((i : Int) < M.rt.length) := by omega
      rw [hin, List.take_length] at D
      clear hin hig' hi
      obtain ⟨la, lc, hlv, _⟩ := D.D.K.sl
      subst hlv
      have DA := D.same ((Fr.refl (fun _ => False) _).alloc (.cells #[.int .i64 (l.length : Int)] 3))
      have hx := D.D.one (l.length : Int)
      go_wp2_with (
        at_builtin
        refine wpList_appendI (by rfl) _ _ (by rfl) _ _ [(l.length : Int)] _ 1 1 (by rfl) (by rfl) rfl DA.K hx (.inl DA.ne) (by simp; omega) ?_
        intro v' w5 hc5 hb5 f5)
      have D5 := DA.app hc5 hb5 f5
      clear hc5 hb5 f5 hx DA D
      obtain ⟨pre, hpre⟩ : ∃ pre, pre = [(M.rt.length : Int)] ++ M.rt.map (fnd l) ++ [(l.length : Int)] := ⟨_, rfl⟩
      rw [← hpre] at D5 hdump
      have hprel : pre.length ≤ 26 := by rw [hpre]; simp; omega
      clear hpre
      go_wp2_with fail
      go_loopg [4, 44] l.length (fun g dv kv wr => ∃ k : Nat, kv = .int .i64 k ∧ k + g = l.length ∧ ∃ p, p = pre ++ (l.take k).flatMap (objM M l) ∧ p.length ≤ 26 + 100 * k ∧ Dm w m M O ov rv f B (.slice la l.length lc) l wr dv p)
      case atStart => exact ⟨0, rfl, by omega, _, rfl, by simp; omega, by simpa using D5⟩
      case round =>
        clear D5
        obtain ⟨k, rfl, hkg, p, hp, hpl, D⟩ := hrel
        have hkg' : k + gk = l.length := hkg
        clear hkg
        obtain ⟨g0, hg0⟩ : ∃ g0, gk = g0 := ⟨_, rfl⟩
        have Hp : Hid _ := hp
        clear hp
        by_cases hk : k < l.length
        · have hk' : (k : Int) < l.length := by omega
          obtain ⟨lb, lc2, hlb, hlbl, ck, _⟩ := D.D.K.get hk
          have hra : la = some ⟨lb, 0, none⟩ := by cases hlb; rfl
          have hst := stock_mem.1 (hP.sub _ (List.getElem_mem hk))
          obtain ⟨x, hx⟩ := Int.eq_ofNat_of_zero_le hst.1
          have hxl : x < M.objs.length := by omega
          have Hfl : Hid _ := flat_take (objM M l) hk
          rw [hx] at ck Hfl
          have hg := rfM_get (os := M.objs) (i := (x : Int)) (by simpa using hxl)
          simp only [Int.toNat_natCast] at hg
          obtain ⟨c0, c1, hlt, hz⟩ := D.D.V.cells
          obtain ⟨ob, oc, hov, hobl, d0, d1⟩ := D.D.V.obj hxl
          obtain ⟨ka, kc, hka, _⟩ := (D.D.V.fl x hxl).1.sl
          obtain ⟨ib, in2, ic, hia⟩ := D.D.V.nn x hxl
          obtain ⟨ia', ic', hia', _⟩ := (D.D.V.fl x hxl).2.sl
          have hin2 : in2 = M.objs[x].2.length := by rw [hia] at hia'; cases hia'; rfl
          subst hin2
          rw [hov] at c0
          have Hka : Hid _ := hka
          have Hia : Hid _ := hia
          have hxl' : (x : Int) < M.objs.length := by omega
          have hol := mi.len
          have hsz := mi.sz _ (List.getElem_mem hxl)
          have kO := (Fr.refl (fun _ => False) wr).alloc (.cells #[f (2 * x), f (2 * x + 1)] 93)
          have DO := D.same kO
          have hOb := obj2 wr (f (2 * x)) (f (2 * x + 1))
          rw [hka, hia] at hOb kO DO
          rw [hka] at d0
          rw [hia] at d1
          have o0 := hOb.cell (o := 0) (by omega)
          have o1 := hOb.cell (o := 1) (by omega)
          simp only [mc] at o0 o1
          have Hg : Hid _ := hg
          have htbn : ∀ c, isB u4 c → c < wr.heap.size := fun c hc => D.K.bk hc
          generalize hq1 : M.objs[x].1 = q1 at *
          generalize hq2 : M.objs[x].2 = q2 at *
          subst hra
          clear hx hst hlb hka hia hia' hg
          have DA := DO.same ((Fr.refl (fun _ => False) _).alloc (.cells #[.int .i64 (q1.length : Nat), .int .i64 (q2.length : Nat)] 3))
          have hx := DO.D.two (q1.length : Nat) (q2.length : Nat)
          rw [World.size_alloc] at hx
          have hOb2 := hOb.frame ((Fr.refl (fun _ => False) _).alloc (.cells #[.int .i64 (q1.length : Nat), .int .i64 (q2.length : Nat)] 3)) (fun h => h)
          go_wp2_with (
            at_builtin
            refine wpList_appendI (by rfl) _ _ (by rfl) _ _ [((q1.length : Nat) : Int), ((q2.length : Nat) : Int)] _ 2 2 (by rfl) (by rfl) rfl DA.K hx (.inl DA.ne) (by simp; omega) ?_
            intro v' w5 hc5 hb5 f5
            have hOb5 := hOb2.frame f5 (fun hh => by have := htbn _ hh; omega)
            have q0 := hOb5.cell (o := 0) (by omega)
            have q0l := hOb5.lt
            simp only [mc] at q0)
          have D5 := DA.app hc5 hb5 f5
          have hne5 : ∀ c, isB v' c → c ≠ wr.heap.size := fun c hc e => by
            rcases hb5 c hc with h | h
            · simp at h; omega
            · have := htbn c h; omega
          clear hc5 hb5 f5 hx DA D ck c0 c1 hlt hz d0 d1 o0 o1 DO hOb hOb2 kO htbn hlbl hobl
          clear q0 q0l
          obtain ⟨tb, htb⟩ : ∃ tb, wr.heap.size = tb := ⟨_, rfl⟩
          rw [htb] at hOb5 hne5 ⊢
          clear htb
          go_loopg [4, 67] q1.length (fun g dv kv wr => ∃ j : Nat, kv = .int .i64 j ∧ j + g = q1.length ∧ ∃ q, q = p ++ [((q1.length : Nat) : Int), ((q2.length : Nat) : Int)] ++ (q1.take j).map (fnd l) ∧ q.length ≤ 26 + 100 * k + 2 + j ∧ Blk wr tb 2 (mc (.slice ka q1.length kc) (.slice (some ⟨ib, 0, none⟩) q2.length ic)) ∧ (∀ c, isB dv c → c ≠ tb) ∧ Dm w m M O ov rv f B (.slice (some ⟨lb, 0, none⟩) l.length lc) l wr dv q)
          case atStart => exact ⟨0, rfl, by omega, _, rfl, by simp; omega, hOb5, hne5, by simpa using D5⟩
          case round =>
            clear D5 hOb5 hne5
            obtain ⟨j, rfl, hjg, q, hq, hql, hOb, hne, D⟩ := hrel
            have hjg' : j + gk = q1.length := hjg
            have Hq : Hid _ := hq
            clear hjg hq
            by_cases hj : j < q1.length
            · have hj' : (j : Int) < q1.length := by omega
              have hqk := (D.D.V.fl x hxl).1
              rw [hq1] at hqk
              obtain ⟨qb, qc, hqb, hqbl, cq, _⟩ := hqk.get hj
              have e0 : Value.slice ka q1.length kc = .slice (some ⟨qb, 0, none⟩) q1.length qc := by rw [← Hka.out, hqb]
              have hra : ka = some ⟨qb, 0, none⟩ := by cases e0; rfl
              have Hs : Hid _ := map_take (fnd l) hj
              have FN := findMF D.D.K (by omega) q1[j]
              generalize q1[j] = xx at *
              clear e0 hqb hqk
              subst hra
              have hbk : ∀ c, isB u4 c → c < wr.heap.size := fun c hc => D.K.bk hc
              go_wp2_with fail
              refine FN.mono ?_
              rintro e w2 ⟨rfl, rfl⟩
              have DA := D.same ((Fr.refl (fun _ => False) _).alloc (.cells #[.int .i64 (fnd l xx)] 3))
              have hx := D.D.one (fnd l xx)
              go_wp2_with (
                at_builtin
                refine wpList_appendI (by rfl) _ _ (by rfl) _ _ [(fnd l xx)] _ 1 1 (by rfl) (by rfl) rfl DA.K hx (.inl DA.ne) (by simp; omega) ?_
                intro v' w5 hc5 hb5 f5)
              have D5 := DA.app hc5 hb5 f5
              have hOb5 := (hOb.alloc (.cells #[.int .i64 (fnd l xx)] 3)).frame f5 (fun hh => hne _ hh rfl)
              have hlt2 := hOb.lt
              have hne5 : ∀ c, isB v' c → c ≠ tb := fun c hc e => by
                rcases hb5 c hc with h | h
                · simp at h; omega
                · exact hne c h e
              clear hc5 hb5 f5 hx DA FN D cq hOb hne hbk hqbl
              go_wp2_with fail
              go_roundg (gk - 1)
              case measure => omega
              case rel => exact ⟨j + 1, by simp, by omega, _, by rw [Hs.out, ← List.append_assoc, ← Hq.out], by simp; omega, hOb5, hne5, D5⟩
            · have hj2 : ¬ ((j : Int) < q1.length) := by omega
              have Hq2 : Hid (q = p ++ [((q1.length : Nat) : Int), ((q2.length : Nat) : Int)] ++ q1.map (fnd l)) := by
                show _ = _
                rw [Hq.out, List.take_of_length_le (by omega)]
              have hql2 : q.length ≤ 26 + 100 * k + 2 + q1.length := by omega
              have o1 := hOb.cell (o := 1) (by omega)
              have ol := hOb.lt
              simp only [mc] at o1
              have hik := (D.D.V.fl x hxl).2
              rw [hq2, Hia.out] at hik
              have hx := hik.cells
              have Hr2 : Hid (q ++ q2 = pre ++ (l.take (k + 1)).flatMap (objM M l)) := by
                show _ = _
                rw [Hfl.out, ← List.append_assoc, ← Hp.out, Hq2.out]
                unfold objM
                rw [Hg.out.1, Hg.out.2]
                simp
              have hrl2 : (q ++ q2).length ≤ 26 + 100 * (k + 1) := by simp; omega
              clear Hq hql hjg' hne
              go_wp2_with (
                at_builtin
                refine wpList_appendI (by rfl) _ _ (by rfl) _ _ q2 _ q2.length ic (by rfl) (by rfl) rfl D.K hx (.inl D.ne) (by omega) ?_
                intro v' w5 hc5 hb5 f5)
              have D5 := D.app hc5 hb5 f5
              clear hc5 hb5 f5 hx D
              go_wp2_with fail
              go_roundg (g0 - 1)
              case measure => omega
              case rel => exact ⟨k + 1, by simp, by omega, _, Hr2.out, hrl2, D5⟩
        · have hkn : k = l.length := by omega
          subst hkn
          have hk2 : ¬ ((l.length : Int) < l.length) := by omega
          have Hd : Hid (dmp = p) := by show _ = _; rw [hdump.out, ← Hp.out]
          clear Hp hkg'
          obtain ⟨dvb, dvc, df, rfl, hdc, hdb, hdf⟩ : ∃ b' c f, u4 = .slice (some ⟨b', 0, none⟩) p.length c ∧ p.length ≤ c ∧ Blk wr b' c f ∧ ∀ i (h : i < p.length), f i = .int .i64 p[i] := by
            rcases D.K with ⟨_, hnil⟩ | hh
            · have := D.ne; rw [hnil] at this; simp at this
            · exact hh
          have hpos := D.ne
          have hpl2 : p.length ≤ 5000 := by omega
          go_wp2_with (first
            | (refine wpList_makeB (by rfl) 35 _ _ (by rfl) 3 1 8 (iv 0) p.length (by rfl) (by rfl) Tryz.underlying35 (by kernel_rfl) (by kernel_rfl) (by kernel_rfl) (by omega) (by omega) ?_; intro w6 f6 z6 b6; have hdb6 := hdb.frame f6 (fun h => h); have D6 := D.same f6; have hd6 := hdb6.lt)
            | (refine wpList_copyA (by rfl) _ _ 35 35 (by rfl) 3 1 wr.heap.size 0 p.length p.length dvb 0 p.length dvc (p.length * 1) dvc p.length _ df (by rfl) (by rfl) Tryz.underlying35 (by kernel_rfl) (by simp) b6 hdb6 (by omega) (by omega) (fun j hj => by rw [Nat.zero_add, hdf j (by omega)]; rfl) ?_; intro w7 f7 b7))
          have hwz := D.D.fr.size
          refine bodyPost_ret (v := .slice (some ⟨wr.heap.size, 0, none⟩) p.length p.length) (by simp [results, Tryz.results40, go_sem]) rfl ?_
          refine ⟨_, rfl, ?_, fun c hc => by rw [isB_one hc]; omega, D6.D.V.frame f7 (fun c hc e => by have := D.D.hO c hc; omega), D6.D.fr.trans f7 (fun c hc e => by omega)⟩
          rw [Hd.out]
          refine ⟨wr.heap.size, _, rfl, by simpa using b7, fun i hi => ?_⟩
          rw [lay_in _ _ _ _ (by omega) (by simp [rowOf]; omega)]
          simp only [rowOf, List.getElem_map, List.getElem_range]
          rw [Nat.zero_add]
          simpa using hdf i hi
end Go.Proofs.Qxb6500281aGreat
