/- The definitional interpreter: invoke. -/
import Derived.Test.Qxb6500277aGreatGM23
import Derived.Test.Qxb6500277aGreatGE20
import Derived.Test.Qxb6500277aGreatMake
namespace Go.Proofs.Qxb6500277aGreat
open Go Go.RowKit

theorem nils_snoc : ∀ (k : Nat) (M : MS), (pushM (nilsM k M)).2 = nilsM (k + 1) M
  | 0, _ => rfl
  | k + 1, M => nils_snoc k (pushM M).2
set_option maxRecDepth 100000 in
set_option maxHeartbeats 4000000 in
theorem invK {G : Gmx} (K : G.Ok) {fm : Int} (X : 0 < fm → ∀ n, XeC G (fm - 1) n) : InvC G fm := by
  intro w Q s t f av vs H St Ss0 hfm hav hab hf hvl Rt lt
  obtain ⟨hd0, g0, m1, CM⟩ := K.cm
  obtain ⟨r, A⟩ := CM.at' f hf
  obtain ⟨C0, en0, m0, PO⟩ := K.ok
  have PF := PO.ok.fn f hf
  obtain ⟨F, hF⟩ : ∃ F, F = fiA G.P0 f := ⟨_, rfl⟩
  have hbody : bodyI G.P0 (.inv f vs) t = (if t.fuel ≤ 0 then dieI 22 t else if 48 < t.us - F.pi + 3 + F.li ∨ (24 : Int) < (t.M.rt.length : Int) + F.lr - F.pr then dieI 29 { t with fuel := t.fuel - 1 } else .call (.fn f) { t with loc := vs ++ List.replicate (F.li - vs.length) 0, rb := t.M.rt.length - F.pr, us := t.us + (3 + F.li - F.pi), M := nilsM (F.lr - F.pr) t.M, fuel := t.fuel - 1 } fun v t' => if 2 ≤ F.ret then goOn 0 { t' with loc := t.loc, rb := t.rb, us := t'.us - (3 + F.li), M := (slideM t'.M (dtop t'.M 1 - t'.rb)).2 } else goOn v { t' with loc := t.loc, rb := t.rb, us := t'.us - (3 + F.li), M := (popM t'.M (dtop t'.M 0 - t'.rb)).2 }) := by rw [hF]; simp only [bodyI]
  rw [← hF] at PF hvl Rt
  have A' : FnAt ⟨G.P0, hd0, G.ns, G.rs, g0, 0, 0⟩ f F r := by rw [hF]; exact A
  clear A
  have hret : (fiA G.P0 f).ret = F.ret := by rw [hF]
  rw [hret]
  obtain ⟨ov, O, Hv⟩ := H
  obtain ⟨fb, efb, fblt, hfl, f0, f1, f2, f3, f4, f5, f6⟩ := Hv.an.hf.at A'.rc
  have c6 := Hv.c6
  rw [efb] at c6
  have rlt := Hv.rlt
  have hrs := Hv.an.fl
  have k1 := (Fr.refl (fun _ => False) w).alloc (.cells #[.int .i64 r.1.node, .int .i64 r.1.ret, .int .i64 r.1.pi, .int .i64 r.1.pr, .int .i64 r.2.1, .int .i64 r.2.2, .string r.1.name] 109)
  have B1 := frC_blk w r
  have M1 := Mm.nil (Hv.same k1).x
  have q1 := M1.spend St.f0 St.f1
  have HF : Hid (True ∧ _) := ⟨trivial, And.intro K (And.intro X (And.intro PF (And.intro hF (And.intro A' (And.intro hbody (And.intro Hv (And.intro k1 (And.intro B1 (And.intro M1 (And.intro St (And.intro Ss0 (And.intro hfm (And.intro hav (And.intro hab (And.intro hvl (And.intro Rt lt))))))))))))))))⟩
  clear K X PF hF A' hbody Hv k1 B1 M1 St Ss0 hfm hav hab hvl Rt lt hret CM PO efb
  go_enter Tryz.func39, Tryz.ntmps39
  go_wp2_with fail
  refine q1.mono ?_
  rintro z w2 ⟨rfl, h⟩
  clear q1 c6 f0 f1 f2 f3 f4 f5 f6 fblt rlt
  obtain ⟨_, K, X, PF, hF, A, hbody, Hv, k1, B1, M1, St, Ss0, hfm, hav, hab, hvl, Rt, lt⟩ := HF.out
  obtain ⟨w1, hw1⟩ : ∃ w1, w1 = w.alloc (.cells #[.int .i64 r.1.node, .int .i64 r.1.ret, .int .i64 r.1.pi, .int .i64 r.1.pr, .int .i64 r.2.1, .int .i64 r.2.2, .string r.1.name] 109) := ⟨_, rfl⟩
  obtain ⟨nb, hnb⟩ : ∃ nb, nb = w.heap.size := ⟨_, rfl⟩
  rw [← hw1] at k1 B1 M1 h
  rw [← hnb] at B1
  rw [← hnb]
  have hnq : ¬ Q nb := fun x => by have := Hv.lt nb x; omega
  have hQl := Hv.lt
  have hSl : ∀ b, stB G b → b < w.heap.size := fun b hb => (Hv.sb b hb).2
  clear hw1
  rcases h with ⟨h0, M2⟩ | ⟨h0, M2⟩
  · obtain ⟨ov2, O2, Hv2⟩ := M2.1
    have c17 := Hv2.c17
    have rlt := Hv2.rlt
    have HD : Hid (True ∧ _) := ⟨trivial, And.intro h0 (And.intro M2 (And.intro hbody (And.intro k1 (And.intro hQl (And.intro hSl St)))))⟩
    clear K X PF hF A hbody Hv k1 B1 M1 St Ss0 hfm hav hab hvl Rt lt hnb hnq hQl hSl h0 M2 Hv2 HF
    go_wp2_with fail
    go_ret
    obtain ⟨_, h0, M2, hbody, k1, hQl, hSl, St⟩ := HD.out
    refine ⟨0, rfl, ?_⟩
    rw [hbody, if_pos h0]
    exact Fat.die (by decide) (M2.pre k1 hQl hSl) rfl rfl St.r24 St.ou
  · obtain ⟨t2, ht2⟩ : ∃ t2 : Ss, t2 = { t with fuel := t.fuel - 1 } := ⟨_, rfl⟩
    rw [← ht2] at M2
    have S2 : SB G t2 := by rw [ht2]; exact ⟨St.u0, St.u48, St.r24, St.mi, St.ou, by show t.fuel - 1 ≤ _; have := St.f1; omega, by show _ ≤ t.fuel - 1; omega, St.ip, St.il⟩
    obtain ⟨eu, eM⟩ : t2.us = t.us ∧ t2.M = t.M := by rw [ht2]; exact ⟨rfl, rfl⟩
    have Bn := B1.frame M2.2.1 hnq
    have m0 : w2.cell? ⟨nb, 0, none⟩ = some (.int .i64 r.1.node) := Bn.cell (o := 0) (by omega)
    have m1 : w2.cell? ⟨nb, 1, none⟩ = some (.int .i64 r.1.ret) := Bn.cell (o := 1) (by omega)
    have m2 : w2.cell? ⟨nb, 2, none⟩ = some (.int .i64 r.1.pi) := Bn.cell (o := 2) (by omega)
    have m3 : w2.cell? ⟨nb, 3, none⟩ = some (.int .i64 r.1.pr) := Bn.cell (o := 3) (by omega)
    have m4 : w2.cell? ⟨nb, 4, none⟩ = some (.int .i64 r.2.1) := Bn.cell (o := 4) (by omega)
    have m5 : w2.cell? ⟨nb, 5, none⟩ = some (.int .i64 r.2.2) := Bn.cell (o := 5) (by omega)
    have nbl := Bn.lt
    rw [A.ret] at m1
    rw [A.pi] at m2
    rw [A.pr] at m3
    rw [A.li] at m4
    rw [A.lr] at m5
    obtain ⟨a12, b12, c12, d12⟩ := A.le
    obtain ⟨ov2, O2, Hv2⟩ := M2.1
    have c17 := Hv2.c17
    have c15 := Hv2.c15
    have c16 := Hv2.c16
    have hz := Hv2.blk.frozen
    have rlt := Hv2.rlt
    have hq : ∀ j, Calls Tryz.prog 37 #[.pointer (some ⟨G.hm, 0, none⟩)] (w2.drewN j) fun e w' => e = .returned (.int .i64 (t2.M.rt.length : Nat)) ∧ w' = w2.drewN j := fun j => (M2.same ((Fr.refl _ w2).drewN j)).depthH
    have u0 := S2.u0
    have u48 := S2.u48
    have r24 := S2.r24
    have HG : Hid (True ∧ _) := ⟨trivial, And.intro K (And.intro X (And.intro PF (And.intro hF (And.intro A (And.intro hbody (And.intro Hv (And.intro k1 (And.intro B1 (And.intro M2 (And.intro St (And.intro Ss0 (And.intro hfm (And.intro hav (And.intro hab (And.intro hvl (And.intro Rt (And.intro lt (And.intro hnq (And.intro hQl (And.intro hSl (And.intro h0 (And.intro ht2 (And.intro S2 (And.intro eu (And.intro eM hnb)))))))))))))))))))))))))⟩
    clear K X PF hF A hbody Hv k1 B1 M1 St Ss0 hfm hav hab hvl Rt lt hnb hnq hQl hSl h0 ht2 M2 S2 eu eM Hv2 Bn HF
    by_cases T1 : 48 < t2.us - F.pi + 3 + F.li
    · have z1 : decide (t2.us - F.pi + 3 + F.li > 48) = true := decide_eq_true T1
      have z2 : decide ((48 : Int) < t2.us - F.pi + 3 + F.li) = true := decide_eq_true T1
      have HT : Hid (True ∧ _) := ⟨trivial, T1⟩
      clear T1
      go_upto_region 5 with fail
      go_quiet (first | (go_at_call 37; refine Calls.quiet_of_same (hq _)))
      go_wp2_with fail
      go_ret
      obtain ⟨_, K, X, PF, hF, A, hbody, Hv, k1, B1, M2, St, Ss0, hfm, hav, hab, hvl, Rt, lt, hnq, hQl, hSl, h0, ht2, S2, eu, eM, hnb⟩ := HG.out
      refine ⟨0, rfl, ?_⟩
      rw [hbody, if_neg (Int.not_le.2 h0), if_pos (.inl (by rw [← eu]; exact HT.out.2)), ← ht2]
      exact Fat.die (by decide) (((M2.same ((Fr.refl _ w2).drewN nq)).setE 29).pre k1 hQl hSl) rfl rfl S2.r24 S2.ou
    · have z1 : decide (t2.us - F.pi + 3 + F.li > 48) = false := decide_eq_false T1
      have z2 : decide ((48 : Int) < t2.us - F.pi + 3 + F.li) = false := decide_eq_false T1
      by_cases T2 : (24 : Int) < ((t2.M.rt.length : Nat) : Int) + F.lr - F.pr
      · have z3 : decide (((t2.M.rt.length : Nat) : Int) + F.lr - F.pr > 24) = true := decide_eq_true T2
        have z4 : decide ((24 : Int) < ((t2.M.rt.length : Nat) : Int) + F.lr - F.pr) = true := decide_eq_true T2
        have HT : Hid (True ∧ _) := ⟨trivial, T2⟩
        clear T1 T2
        go_upto_region 5 with fail
        go_quiet (first | (go_at_call 37; refine Calls.quiet_of_same (hq _)))
        go_wp2_with fail
        go_ret
        obtain ⟨_, K, X, PF, hF, A, hbody, Hv, k1, B1, M2, St, Ss0, hfm, hav, hab, hvl, Rt, lt, hnq, hQl, hSl, h0, ht2, S2, eu, eM, hnb⟩ := HG.out
        refine ⟨0, rfl, ?_⟩
        rw [hbody, if_neg (Int.not_le.2 h0), if_pos (.inr (by rw [← eM]; exact HT.out.2)), ← ht2]
        exact Fat.die (by decide) (((M2.same ((Fr.refl _ w2).drewN nq)).setE 29).pre k1 hQl hSl) rfl rfl S2.r24 S2.ou
      · have z3 : decide (((t2.M.rt.length : Nat) : Int) + F.lr - F.pr > 24) = false := decide_eq_false T2
        have z4 : decide ((24 : Int) < ((t2.M.rt.length : Nat) : Int) + F.lr - F.pr) = false := decide_eq_false T2
        have HT : Hid (True ∧ _) := ⟨trivial, And.intro T1 T2⟩
        clear T1 T2
        go_upto_region 5 with fail
        go_quiet (first | (go_at_call 37; refine Calls.quiet_of_same (hq _)))
        generalize hw3 : World.drewN _ _ = w3
        have k3 : Fr (fun _ => False) w2 w3 := by rw [← hw3]; exact (Fr.refl _ w2).drewN _
        clear hw3 m0 m1 m2 m3 m4 m5 nbl c15 c16 c17 rlt hz hq z1 z2 z3 z4
        obtain ⟨_, K, X, PF, hF, A, hbody, Hv, k1, B1, M2, St, Ss0, hfm, hav, hab, hvl, Rt, lt, hnq, hQl, hSl, h0, ht2, S2, eu, eM, hnb⟩ := HG.out
        obtain ⟨_, T1, T2⟩ := HT.out
        obtain ⟨w4, hw4⟩ : ∃ w4, w4 = w3.drew := ⟨_, rfl⟩
        have HW4 : Hid (True ∧ _) := ⟨trivial, hw4⟩
        have k4 : Fr (fun _ => False) w3 w4 := by rw [hw4]; exact (Fr.refl (fun _ => False) w3).drew
        have M4 := M2.same (k3.trans k4 fun _ _ h => h)
        clear k4
        have Bn := B1.frame M4.2.1 hnq
        have m2 : w4.cell? ⟨nb, 2, none⟩ = some (.int .i64 r.1.pi) := Bn.cell (o := 2) (by omega)
        have m4 : w4.cell? ⟨nb, 4, none⟩ = some (.int .i64 r.2.1) := Bn.cell (o := 4) (by omega)
        have nbl := Bn.lt
        rw [A.pi] at m2
        rw [A.li] at m4
        obtain ⟨ov4, O4, Hv4⟩ := M4.1
        have c15 := Hv4.c15
        have rlt := Hv4.rlt
        have hz := Hv4.blk.frozen
        have hnbr : nb ≠ G.r := fun e => hnq (by
          have := Hv.qr
          rw [e]
          exact this)
        have HM4 : Hid (True ∧ _) := ⟨trivial, M4⟩
        clear K X PF hF A hbody Hv k1 B1 M2 St Ss0 hfm hav hab hvl Rt lt hnb hnq hQl hSl h0 ht2 S2 eu eM T1 T2 k3 hw4 M4 Bn Hv4
        go_upto_region 8 with fail
        refine wp_region_text (by kernel_rfl) (by kernel_rfl) ?_
        rw [← HW4.out.2]
        go_wp2_with fail
        refine ⟨by kernel_rfl, ?_⟩
        go_upto_region 9 with fail
        clear m2 m4 nbl c15 rlt hz
        obtain ⟨_, K, X, PF, hF, A, hbody, Hv, k1, B1, M2, St, Ss0, hfm, hav, hab, hvl, Rt, lt, hnq, hQl, hSl, h0, ht2, S2, eu, eM, hnb⟩ := HG.out
        obtain ⟨_, M4⟩ := HM4.out
        have M5 := M4.setU (t2.us + (3 + F.li - F.pi))
        obtain ⟨w5, hw5⟩ : ∃ w5, w5 = w4.setCell ⟨G.r, 15, none⟩ (.int .i64 (t2.us + (3 + F.li - F.pi))) := ⟨_, rfl⟩
        rw [← hw5] at M5
        rw [← hw5]
        have Bn := B1.frame M5.2.1 hnq
        have m4 : w5.cell? ⟨nb, 4, none⟩ = some (.int .i64 r.2.1) := Bn.cell (o := 4) (by omega)
        rw [A.li] at m4
        have nbl := Bn.lt
        have ha5 : KiAt w5 av vs := (hav.frame k1 fun _ _ h => h).frame M5.2.1 fun b hb => hab b hb
        have hvli : vs.length ≤ F.li := by rw [hvl]; exact PF.1
        have HM5 : Hid (True ∧ _) := ⟨trivial, And.intro M5 Bn⟩
        clear K X PF hF A hbody Hv k1 B1 M2 St Ss0 hfm hav hab hvl Rt lt hnb hnq hQl hSl h0 ht2 S2 eu eM M4 hw5 M5 Bn
        go_upto_region 10 with (
          refine wpList_makeB (w := w5) (by rfl) 36 _ _ (by rfl) 3 1 8 (.int .i64 0) F.li (by rfl) (by rfl) Tryz.underlying36 (by kernel_rfl) (by kernel_rfl) (by kernel_rfl) (by omega) (by omega) ?_
          intro w6 F6 s6 B6
          have ha6 := ha5.frame F6 fun _ _ h => h
          have HB6 : Hid (True ∧ _) := ⟨trivial, And.intro F6 s6⟩
          clear F6 s6 ha5)
        clear m4 nbl
        go_cut [] from 75 (fun wx => KiAt wx (.slice (some ⟨w5.heap.size, 0, none⟩) F.li F.li) (vs ++ List.replicate (F.li - vs.length) 0) ∧ Fr (fun b => b = w5.heap.size) w6 wx)
        case first =>
          rcases ha6 with ⟨rfl, rfl⟩ | ⟨ab, ac, fa, rfl, hac, hab6, hfa⟩
          · go_wp2_with (refine wpList_copyNil (by rfl) _ _ 36 36 (by rfl) 3 1 _ _ _ _ (by rfl) (by rfl) Tryz.underlying36 (by kernel_rfl) ?_)
            go_meet
            refine ⟨.inr ⟨w5.heap.size, F.li, _, by simp, by simp, by rw [Nat.mul_one] at B6; exact B6, fun i hi => ?_⟩, Fr.refl _ _⟩
            simp only [List.nil_append, List.getElem_replicate]
            show (Value.int .i64 0).cells[i % 1]! = _
            rw [Nat.mod_one]
            rfl
          · have hone : ∀ j, j < vs.length * 1 → (fa (0 + j)).oneCell' = true := fun j hj => by rw [Nat.zero_add, hfa j (by omega)]; rfl
            have HMn : Hid (True ∧ vs.length = Nat.min vs.length F.li) := ⟨trivial, (Nat.min_eq_left hvli).symm⟩
            go_wp2_with (
              refine wpList_copyA (w := w6) (by rfl) _ _ 36 36 (by rfl) 3 1 w5.heap.size 0 F.li F.li ab 0 vs.length ac (F.li * 1) ac vs.length _ fa (by rfl) (by rfl) Tryz.underlying36 (by kernel_rfl) HMn.out.2 B6 hab6 (by omega) (by omega) hone ?_
              intro w7 F7 B7
              have HB7 : Hid (True ∧ _) := ⟨trivial, And.intro F7 B7⟩
              clear F7 B7)
            go_meet
            obtain ⟨_, F7, B7⟩ := HB7.out
            refine ⟨.inr ⟨w5.heap.size, F.li, _, by simp; omega, by simp; omega, by rw [Nat.mul_one] at B7; exact B7, fun i hi => ?_⟩, F7⟩
            simp only [List.length_append, List.length_replicate] at hi
            by_cases hiv : i < vs.length
            · rw [lay_in _ 0 _ i (by omega) (by rw [rowOf_length]; omega), List.getElem_append_left hiv]
              have := rowOf_get fa 0 (vs.length * 1) (i - 0) (by omega)
              rw [List.getElem?_eq_getElem (by rw [rowOf_length]; omega)] at this
              injection this with this
              rw [this]
              simp only [Nat.zero_add, Nat.sub_zero]
              exact hfa i hiv
            · rw [lay_out _ 0 _ i (.inr (by rw [rowOf_length]; omega)), List.getElem_append_right (by omega), List.getElem_replicate]
              show (Value.int .i64 0).cells[i % 1]! = _
              rw [Nat.mod_one]
              rfl
        case rest =>
          obtain ⟨hlv, F67⟩ := hcut
          obtain ⟨_, F6, s6⟩ := HB6.out
          have F7 : Fr (fun b => b = w5.heap.size) w5 wc := (F6.mono fun _ _ h => h.elim).trans F67 fun _ _ h => h
          have s7 : w5.heap.size < wc.heap.size := by have := F67.size; omega
          clear F67 F6 s6 ha6 B6
          obtain ⟨_, K, X, PF, hF, A, hbody, Hv, k1, B1, M2, St, Ss0, hfm, hav, hab, hvl, Rt, lt, hnq, hQl, hSl, h0, ht2, S2, eu, eM, hnb⟩ := HG.out
          obtain ⟨_, T1, T2⟩ := HT.out
          obtain ⟨_, M5, Bn5⟩ := HM5.out
          obtain ⟨lb, hlb⟩ : ∃ lb, lb = w5.heap.size := ⟨_, rfl⟩
          rw [← hlb] at hlv F7 s7
          rw [← hlb]
          obtain ⟨lv, hlve⟩ : ∃ lv, lv = Value.slice (some ⟨lb, 0, none⟩) F.li F.li := ⟨_, rfl⟩
          rw [← hlve] at hlv
          rw [← hlve]
          obtain ⟨ov5, O5, Hv5⟩ := M5.1
          have w15 := M5.2.1.size
          have w01 := k1.size
          have Hv7 := Hv5.frame F7 fun b hb e => by
            subst e
            rcases hb with hb | hb
            · have := Hv5.lt _ hb; omega
            · have := (Hv5.sb _ hb).2; omega
          have M7 := Mm.nil Hv7.x
          have hnb1 : nb < w1.heap.size := by have := B1.lt; exact this
          have hnq5 : ¬ Gw Q w1 w5 nb := fun x => x.elim hnq fun y => by have := y.1; omega
          have Bn7 := Bn5.frame F7 (by omega)
          have m3 : wc.cell? ⟨nb, 3, none⟩ = some (.int .i64 r.1.pr) := Bn7.cell (o := 3) (by omega)
          rw [A.pr] at m3
          have nbl := Bn7.lt
          have c16 := Hv7.c16
          have rlt := Hv7.rlt
          obtain ⟨t5, ht5⟩ : ∃ t5 : Ss, t5 = { t2 with us := t2.us + (3 + F.li - F.pi) } := ⟨_, rfl⟩
          rw [← ht5] at M7
          have eM5 : t5.M = t2.M := by rw [ht5]
          have hrt := Rt.rt
          have hprl : F.pr ≤ t5.M.rt.length := by rw [eM5, eM, hrt]; omega
          have hq : ∀ j, Calls Tryz.prog 37 #[.pointer (some ⟨G.hm, 0, none⟩)] (wc.drewN j) fun e w' => e = .returned (.int .i64 (t5.M.rt.length : Nat)) ∧ w' = wc.drewN j := fun j => (M7.same ((Fr.refl _ wc).drewN j)).depthH
          have HK : Hid (True ∧ _) := ⟨trivial, And.intro hlv (And.intro F7 (And.intro s7 (And.intro hlb (And.intro hlve (And.intro M7 (And.intro Bn7 (And.intro hnq5 (And.intro ht5 (And.intro eM5 (And.intro hprl (And.intro M5 (And.intro w15 w01))))))))))))⟩
          have r245 : t5.M.rt.length ≤ 24 := by rw [eM5]; exact r24
          clear K X PF hF A hbody Hv k1 B1 M2 St Ss0 hfm hav hab hvl Rt lt hnb hnq hQl hSl h0 ht2 S2 eu eM T1 T2 M5 Bn5 hlv F7 s7 hlb hlve Hv5 w15 w01 Hv7 M7 Bn7 hnq5 ht5 eM5 hrt hnb1
          go_upto_region 11 with fail
          go_quiet (first | (go_at_call 37; refine Calls.quiet_of_same (hq _)))
          generalize hw8 : World.drewN _ _ = w8
          have k8 : Fr (fun _ => False) wc w8 := by rw [← hw8]; exact (Fr.refl _ wc).drewN _
          clear hw8 m3 nbl c16 rlt hq
          obtain ⟨_, K, X, PF, hF, A, hbody, Hv, k1, B1, M2, St, Ss0, hfm, hav, hab, hvl, Rt, lt, hnq, hQl, hSl, h0, ht2, S2, eu, eM, hnb⟩ := HG.out
          obtain ⟨_, T1, T2⟩ := HT.out
          obtain ⟨_, hlv, F7, s7, hlb, hlve, M7, Bn7, hnq5, ht5, eM5, hprl, M5, w15, w01⟩ := HK.out
          have M8 := M7.same k8
          have Bn8 := Bn7.frame k8 fun h => h
          have m3 : w8.cell? ⟨nb, 3, none⟩ = some (.int .i64 r.1.pr) := Bn8.cell (o := 3) (by omega)
          rw [A.pr] at m3
          have nbl := Bn8.lt
          have nlc : nb < wc.heap.size := Bn7.lt
          obtain ⟨rb, hrb⟩ : ∃ rb, rb = t5.M.rt.length - F.pr := ⟨_, rfl⟩
          have erb : ((t5.M.rt.length : Nat) : Int) - ((F.pr : Nat) : Int) = ((rb : Nat) : Int) := by omega
          rw [erb]
          have T2' : t5.M.rt.length + F.lr ≤ 24 + F.pr := by rw [eM5]; omega
          have hprlr := PF.2.1
          have HK2 : Hid (True ∧ _) := ⟨trivial, And.intro M8 (And.intro Bn8 (And.intro hrb k8))⟩
          have HN5 : Hid (True ∧ _) := ⟨trivial, hnq5⟩
          have HAlr : Hid (True ∧ _) := ⟨trivial, A.lr⟩
          clear K X PF hF A hbody Hv k1 B1 M2 St Ss0 hfm hav hab hvl Rt lt hnb hnq hQl hSl h0 ht2 S2 eu eM T1 T2 hlv F7 s7 hlb hlve M7 Bn7 hnq5 ht5 eM5 M5 w15 w01 M8 Bn8 hrb k8 erb
          go_wp2_with fail
          go_loopg [10] (F.lr - F.pr) (fun gm iv wr => ∃ i : Nat, iv = .int .i64 (i : Nat) ∧ F.pr ≤ i ∧ i + gm = F.lr ∧ Mm G wc (Gw Q w1 w5) wr { t5 with M := nilsM (i - F.pr) t5.M } 0)
          case atStart => exact ⟨F.pr, rfl, Nat.le_refl _, by omega, by rw [Nat.sub_self]; exact HK2.out.2.1⟩
          case round =>
            obtain ⟨i, rfl, hi1, hg, Mi⟩ := hrel
            have hg' : i + gk = F.lr := hg
            clear hg m3 nbl
            obtain ⟨_, M8, Bn8, hrb, k8⟩ := HK2.out
            obtain ⟨_, hlv, F7, s7, hlb, hlve, M7, Bn7, hnq5, ht5, eM5, _, M5, w15, w01⟩ := HK.out
            have Bi := Bn7.frame Mi.2.1 hnq5
            have m5 : wr.cell? ⟨nb, 5, none⟩ = some (.int .i64 r.2.2) := Bi.cell (o := 5) (by omega)
            rw [HAlr.out.2] at m5
            have nbl := Bi.lt
            obtain ⟨ovi, Oi, Hvi⟩ := Mi.1
            have c16 := Hvi.c16
            have rlt := Hvi.rlt
            by_cases hil : i < F.lr
            · have z1 : decide ((i : Int) < (F.lr : Nat)) = true := decide_eq_true (by omega)
              have q := Mi.pushNH
              rw [show (pushM ({ t5 with M := nilsM (i - F.pr) t5.M } : Ss).M).2 = nilsM (i + 1 - F.pr) t5.M by rw [show i + 1 - F.pr = i - F.pr + 1 by omega]; exact nils_snoc _ _] at q
              clear M8 Bn8 hrb k8 hlv F7 s7 hlb hlve M7 Bn7 hnq5 ht5 eM5 M5 w15 w01 Bi Hvi Mi
              go_wp2_with fail
              refine q.mono ?_
              rintro z w9 ⟨rfl, M9⟩
              have HM9 : Hid (True ∧ _) := ⟨trivial, M9⟩
              clear q M9 m5 nbl c16 rlt
              go_wp2_with fail
              go_roundg (gk - 1)
              case measure => omega
              case rel => exact ⟨i + 1, by simp, by omega, by omega, HM9.out.2⟩
            · have z1 : decide ((i : Int) < (F.lr : Nat)) = false := decide_eq_false (by omega)
              obtain rfl : i = F.lr := by omega
              obtain ⟨_, K, X, PF, hF, A, hbody, Hv, k1, B1, M2, St, Ss0, hfm, hav, hab, hvl, Rt, lt, hnq, hQl, hSl, h0, ht2, S2, eu, eM, hnb⟩ := HG.out
              obtain ⟨_, T1, T2⟩ := HT.out
              obtain ⟨w9, hw9⟩ : ∃ w9, w9 = wr.drew := ⟨_, rfl⟩
              have HW9 : Hid (True ∧ _) := ⟨trivial, hw9⟩
              have k9 : Fr (fun _ => False) wr w9 := by rw [hw9]; exact (Fr.refl _ wr).drew
              obtain ⟨tE, htE⟩ : ∃ tE : Ss, tE = { t with loc := vs ++ List.replicate (F.li - vs.length) 0, rb := t.M.rt.length - F.pr, us := t.us + (3 + F.li - F.pi), M := nilsM (F.lr - F.pr) t.M, fuel := t.fuel - 1 } := ⟨_, rfl⟩
              have e5M : t5.M = t.M := eM5.trans eM
              have H9 : RM w9 G tE 0 (Gw (Gw Q w1 w5) wc wr) := (Mi.1.same k9).re (by rw [htE, ht5, ht2]) (by rw [htE, ht5, ht2]) (by rw [htE, ht5, ht2]) (by rw [htE]; show nilsM _ t.M = nilsM _ t5.M; rw [e5M]) (by rw [htE, ht5, ht2])
              have hlt5 := M5.1.lt
              have hlbq : ¬ Gw (Gw Q w1 w5) wc wr lb := fun x => x.elim (fun y => by have := hlt5 lb y; omega) fun y => by have := y.1; omega
              have hlbi : ∀ b, isB lv b → b = lb := fun b hb => by rw [hlve] at hb; exact isB_one hb
              have hrtt : t.M.rt.length = s.M.rt.length + F.pr := Rt.rt
              have hT2 : t.M.rt.length + F.lr ≤ 24 + F.pr := by rw [← e5M]; exact T2'
              have hnr := nils_rt (F.lr - F.pr) t.M (by omega)
              have hst : ∀ b, stB G b → b < w.heap.size := hSl
              have hE : tE.loc.length = F.li := by rw [htE]; simp only [List.length_append, List.length_replicate]; omega
              have hEM : tE.M.rt.length = t.M.rt.length + (F.lr - F.pr) := by rw [htE]; exact hnr.1
              have hEr : tE.rb = t.M.rt.length - F.pr := by rw [htE]
              have hEu : tE.us = t.us + (3 + F.li - F.pi) := by rw [htE]
              have hEf : tE.fuel = t.fuel - 1 := by rw [htE]
              have SE : SB G tE := by
                have := St.u0
                have := PF.1
                have := St.f1
                rw [eu] at T1
                exact ⟨by omega, by omega, by omega, by rw [htE]; exact hnr.2 St.mi, by rw [htE]; exact St.ou, by omega, by omega, by rw [htE]; exact St.ip, St.il⟩
              have E9 : Ev0 G w9 (Gw (Gw Q w1 w5) wc wr) tE lv F.li F.lr := ⟨H9, SE, by rw [htE]; exact (hlv.frame Mi.2.1 fun b hb x => by rw [hlbi b hb] at x; have := hlt5 lb x; omega).frame k9 fun _ _ x => x, fun b hb => by rw [hlbi b hb]; exact hlbq, hE, by omega, c12, fun b hb x => by have := hst b x; rw [hlbi b hb] at this; omega⟩
              obtain ⟨kn, kb, nd, p, hkn, hnd, hkb, hNb⟩ := A.nd
              have q := (X (Int.lt_of_lt_of_le h0 hfm) (szSs F.ss + 1)).2 F.ss (Nat.le_refl _) w9 _ tE F.bb kb p F.li F.lr lv F.ret E9 (by omega) A.lie hNb A.wt
              have erb2 : tE.rb = rb := by rw [hEr, hrb, e5M]
              rw [erb2] at q
              have Bi9 := Bi.frame k9 fun h => h
              have m0 : w9.cell? ⟨nb, 0, none⟩ = some (.int .i64 r.1.node) := Bi9.cell (o := 0) (by omega)
              have nb9 := Bi9.lt
              obtain ⟨ov9, O9, Hv9⟩ := H9
              have c10 := Hv9.c10
              have rl9 := Hv9.rlt
              have hnl := Hv9.an.nl
              obtain ⟨vb, evb, vlt, hknl, _, _, n2, _⟩ := Hv9.an.hv.at hnd
              rw [evb] at c10
              rw [hkb] at n2
              rw [hkn] at m0
              have fin : ∀ (w' : World) (u : Ss) (en : Int), Ml G w9 (Gw (Gw Q w1 w5) wc wr) lv w' u en → Mm G w Q w' u en := fun w' u en h => by
                have z1 := M5.2.1.size
                have z2 := F7.size
                have z3 := Mi.2.1.size
                have z4 := k9.size
                have z5 := h.2.1.size
                have FA : Fr Q w w9 := (((((k1.mono (S' := Q) fun _ _ x => x.elim).trans M5.2.1 fun _ _ x => x).trans F7 fun b hb e => by omega).trans Mi.2.1 fun b hb x => x.elim id fun y => by have := y.1; omega).trans k9 fun _ _ x => x.elim)
                refine ⟨h.1.up (fun b hb => ?_) (fun b hb => hb.elim (fun y => by have := hQl b y; omega) fun y => y.2) (fun b hb y => y.elim (Hv.sb b hb).1 fun z => by have := hst b hb; have := z.1; omega), FA.trans h.2.1 fun b hb x => ?_, hQl⟩
                · rcases hb with ((hb | hb) | hb) | hb
                  · exact .inl hb
                  · exact .inr ⟨by have := hb.1; omega, by have := hb.2; omega⟩
                  · exact .inr ⟨by have := hb.1; omega, by have := hb.2; omega⟩
                  · exact .inr ⟨by have := hb.1; omega, hb.2⟩
                · rcases x with ((x | x) | x) | x
                  · exact x
                  · have := x.1; omega
                  · have := x.1; omega
                  · rw [hlbi b x] at hb; omega
              have hb2 : bodyI G.P0 (.inv f vs) t = .call (.fn f) tE fun v t' => if 2 ≤ F.ret then goOn 0 { t' with loc := t.loc, rb := t.rb, us := t'.us - (3 + F.li), M := (slideM t'.M (dtop t'.M 1 - t'.rb)).2 } else goOn v { t' with loc := t.loc, rb := t.rb, us := t'.us - (3 + F.li), M := (popM t'.M (dtop t'.M 0 - t'.rb)).2 } := by
                rw [hbody, if_neg (Int.not_le.2 h0), if_neg (by rw [eu] at T1; rw [eM] at T2; omega), htE]
              have hb3 : bodyI G.P0 (.fn f) tE = .tri (.sts F.bb F.ss) tE fun rt v s => if rt then goOn v s else if 2 ≤ F.ret then hpI (pushM s.M).1 s (goOn 0 { s with M := (pushM s.M).2 }) else pushI s 0 := by rw [hF]; simp only [bodyI]
              have HE : Hid (True ∧ _) := ⟨trivial, And.intro E9 (And.intro fin (And.intro hb2 (And.intro hb3 (And.intro hEM (And.intro hEr (And.intro hEu (And.intro hEf (And.intro SE (And.intro erb2 (And.intro Bi9 (And.intro hrtt (And.intro Rt (And.intro lt (And.intro Ss0 (And.intro St hlbq)))))))))))))))⟩
              have hnq9 : ¬ Gw (Gw Q w1 w5) wc wr nb := fun x => x.elim hnq5 fun y => by have := y.1; have := Bn7.lt; omega
              have hlvnb : ¬ isB lv nb := fun x => by have := hlbi nb x; have := B1.lt; omega
              have hqr9 : Gw (Gw Q w1 w5) wc wr G.r := Hv9.qr
              have lt0 := lt
              have HA : Hid (True ∧ _) := ⟨trivial, And.intro A (And.intro hnq9 (And.intro hlvnb (And.intro hqr9 lt0)))⟩
              clear K X PF hF A hbody Hv k1 B1 M2 St Ss0 hfm hav hab hvl Rt lt hnb hnq hQl hSl h0 ht2 S2 eu eM T1 T2 M8 Bn8 hrb k8 hlv F7 s7 hlb hlve M7 Bn7 hnq5 ht5 eM5 M5 w15 w01 Bi Hvi Mi hw9 k9 htE e5M hlt5 hlbq hlbi hrtt hT2 hnr hst hE hEM hEr hEu hEf SE E9 hkn hnd hkb hNb erb2 Bi9 Hv9 evb fin hb2 hb3 hnq9 hlvnb hqr9 lt0
              go_upto_region 16 with fail
              clear m5 nbl c16 rlt z1
              refine wp_region_text (by kernel_rfl) (by kernel_rfl) ?_
              rw [← HW9.out.2]
              go_wp2_with fail
              refine q.mono ?_
              rintro z w10 ⟨β, v, rfl, h⟩
              clear q m0 nb9 c10 rl9 n2 vlt
              go_wp2_with fail
              refine ⟨by kernel_rfl, ?_⟩
              obtain ⟨_, E9, fin, hb2, hb3, hEM, hEr, hEu, hEf, SE, erb2, Bi9, hrtt, Rt, lt, Ss0, St, hlbq⟩ := HE.out
              obtain ⟨_, A, hnq9, hlvnb, hqr9, lt0⟩ := HA.out
              rcases h with ⟨rfl, rfl, v0, t10, g10, S10⟩ | ⟨rfl, t10, g10, S10⟩ | ⟨rfl, D'⟩
              · by_cases hr2 : 2 ≤ F.ret
                · have Bu := S10.ml.blk Bi9 hnq9 hlvnb
                  have m1 : w10.cell? ⟨nb, 1, none⟩ = some (.int .i64 r.1.ret) := Bu.cell (o := 1) (by omega)
                  rw [A.ret] at m1
                  have nbl := Bu.lt
                  obtain ⟨ovu, Ou, Hvu⟩ := S10.ml.1
                  have c17 := Hvu.c17
                  have c16 := Hvu.c16
                  have rlt := Hvu.rlt
                  have q4 := S10.ml.mm.pushNH
                  have hz1 : decide (F.ret ≥ 2) = true := decide_eq_true hr2
                  have hz2 : decide ((2 : Int) ≤ F.ret) = true := decide_eq_true hr2
                  have HS : Hid (True ∧ _) := ⟨trivial, And.intro S10 (And.intro g10 hr2)⟩
                  clear Bu Hvu S10 g10 hr2 E9 fin hb2 hb3 hEM hEr hEu hEf SE erb2 Bi9 hrtt Rt lt Ss0 St hlbq A hnq9 hlvnb hqr9 lt0
                  go_wp2_with fail
                  refine q4.mono ?_
                  rintro z w11 ⟨rfl, M11⟩
                  clear q4
                  have q5 := M11.heapEnd (pushM t10.M).1
                  have HM11 : Hid (True ∧ _) := ⟨trivial, M11⟩
                  clear M11
                  go_wp2_with fail
                  refine q5.mono ?_
                  rintro z wU ⟨rfl, h⟩
                  clear q5 c17 c16 rlt m1 nbl
                  obtain ⟨_, M11⟩ := HM11.out
                  obtain ⟨_, S10, g10, hr2⟩ := HS.out
                  have FT : Fat G w10 (Gw (Gw (Gw Q w1 w5) wc wr) w9 w10) wU t10 0 1 (hpI (pushM t10.M).1 t10 (goOn 0 { t10 with M := (pushM t10.M).2 })) 0 := Fat.hp M11 h (push_rt t10.M) S10.sb S10.sb.mi.push (Rl.refl _) rfl rfl
                  clear h M11
                  obtain ⟨_, E9, fin, hb2, hb3, hEM, hEr, hEu, hEf, SE, erb2, Bi9, hrtt, Rt, lt, Ss0, St, hlbq⟩ := HE.out
                  obtain ⟨_, A, hnq9, hlvnb, hqr9, lt0⟩ := HA.out
                  rcases FT with FT | FT
                  · obtain ⟨u, g11, SU, _⟩ := S10.live E9 FT
                    have gU : EvI G.P0 (bodyI G.P0 (.fn f) tE) (.ok 0 u) := by rw [hb3]; exact g10.tok (by rw [if_neg (by decide), if_pos (show 2 ≤ F.ret by omega)]; exact g11)
                    rw [Nat.zero_add, Nat.zero_add] at SU
                    clear g10 S10 g11 FT
                    have Bu := SU.ml.blk Bi9 hnq9 hlvnb
                    have m1 : wU.cell? ⟨nb, 1, none⟩ = some (.int .i64 r.1.ret) := Bu.cell (o := 1) (by omega)
                    rw [A.ret] at m1
                    have nbl := Bu.lt
                    obtain ⟨ovu, Ou, Hvu⟩ := SU.ml.1
                    have c17 := Hvu.c17
                    have c16 := Hvu.c16
                    have rlt := Hvu.rlt
                    have r24u := SU.sb.r24
                    have hurt := SU.rl.rt
                    have q4 := SU.ml.mm.depthH
                    have q5 := SU.ml.mm.slideH r24u (((u.M.rt.length : Nat) : Int) - rb - 1)
                    have hge : rb + F.lr + 1 = u.M.rt.length := by rw [hurt, hEM]; omega
                    have hz1 : decide (F.ret ≥ 2) = true := decide_eq_true hr2
                    have hz2 : decide ((2 : Int) ≤ F.ret) = true := decide_eq_true hr2
                    have HU : Hid (True ∧ _) := ⟨trivial, And.intro SU (And.intro gU (And.intro hge (And.intro hr2 (And.intro hnq9 (And.intro hlvnb (And.intro fin (And.intro hb2 (And.intro A (And.intro Bi9 (And.intro hEu (And.intro hrtt (And.intro Rt (And.intro Ss0 (And.intro hEM (And.intro hEr (And.intro hEf erb2))))))))))))))))⟩
                    have hle2 : ((rb : Nat) : Int) ≤ ((u.M.rt.length : Nat) : Int) := by omega
                    clear SU gU hge hr2 hnq9 hlvnb fin hb2 A Bi9 hEu hrtt Rt Ss0 hEM hEr erb2 Bu Hvu hurt hb3 E9 hEf SE hlbq lt St
                    go_wp2_with fail
                    refine q4.mono ?_
                    rintro z w11 ⟨rfl, hw11⟩
                    subst w11
                    clear q4
                    go_wp2_with fail
                    refine q5.mono ?_
                    rintro z w12 ⟨rfl, M12⟩
                    clear q5 m1 nbl c17 c16 rlt
                    obtain ⟨_, SU, gU, hge, hr2, hnq9, hlvnb, fin, hb2, A, Bi9, hEu, hrtt, Rt, Ss0, hEM, hEr, hEf, erb2⟩ := HU.out
                    obtain ⟨wd, hwd⟩ : ∃ wd, wd = w12.drew := ⟨_, rfl⟩
                    have HWd : Hid (True ∧ _) := ⟨trivial, hwd⟩
                    have kd : Fr (fun _ => False) w12 wd := by rw [hwd]; exact (Fr.refl _ w12).drew
                    have Md := (SU.ml.up M12).same kd
                    have Bd := Md.blk Bi9 hnq9 hlvnb
                    have m4 : wd.cell? ⟨nb, 4, none⟩ = some (.int .i64 r.2.1) := Bd.cell (o := 4) (by omega)
                    rw [A.li] at m4
                    have nbl := Bd.lt
                    obtain ⟨ovd, Od, Hvd⟩ := Md.1
                    have c15 := Hvd.c15
                    have rlt := Hvd.rlt
                    have hz := Hvd.blk.frozen
                    have hnbr : nb ≠ G.r := fun e => hnq9 (by rw [e]; exact (by obtain ⟨_, _, X⟩ := SU.ml.1; exact (show _ from hqr9)))
                    have uu0 := SU.sb.u0
                    have uu48 := SU.sb.u48
                    have HMd : Hid (True ∧ _) := ⟨trivial, And.intro M12 Md⟩
                    clear SU gU hge hr2 hnq9 hlvnb fin hb2 A Bi9 hEu hrtt Rt Ss0 hEM hEr erb2 M12 hwd kd Md Bd Hvd
                    go_upto_region 27 with fail
                    refine wp_region_text (by kernel_rfl) (by kernel_rfl) ?_
                    rw [← HWd.out.2]
                    go_wp2_with fail
                    refine ⟨by kernel_rfl, ?_⟩
                    go_wp2_with fail
                    go_ret
                    obtain ⟨_, SU, gU, hge, hr2, hnq9, hlvnb, fin, hb2, A, Bi9, hEu, hrtt, Rt, Ss0, hEM, hEr, hEf, erb2⟩ := HU.out
                    obtain ⟨_, M12, Md⟩ := HMd.out
                    refine ⟨0, rfl, ?_⟩
                    have hEf2 := hEf
                    rw [hb2, (duT_r hr2).1, (duT_r hr2).2]
                    refine Fat.call gU ?_
                    rw [if_pos hr2]
                    have eur : u.rb = rb := SU.rl.rb.trans erb2
                    have eD : dtop u.M 1 - ((u.rb : Nat) : Int) = (((u.M.rt.length : Nat) : Int) - rb - 1) := by rw [eur]; unfold dtop; omega
                    rw [eD]
                    have hok := slide_ok (M := u.M) (n := (((u.M.rt.length : Nat) : Int) - rb - 1)) (by omega) (by omega)
                    have hs0 := Ss0.u0
                    have hus := SU.rl.us
                    have hRu := Rt.us
                    have hrb2 : rb = t.M.rt.length - F.pr := by rw [← erb2]; exact hEr
                    refine Fat.go (((fin _ _ _ (Md.setU (u.us - (3 + F.li))))).re rfl rfl rfl rfl rfl) ⟨?_, ?_, ?_, SU.sb.mi.slide _, SU.sb.ou, SU.sb.f1, SU.sb.f0, SU.sb.ip, SU.sb.il⟩ ⟨Rt.rb, ?_, ?_, ?_, ?_⟩ lt0
                    · show 0 ≤ u.us - (3 + F.li)
                      omega
                    · show u.us - (3 + F.li) ≤ 48
                      omega
                    · show (slideM u.M (((u.M.rt.length : Nat) : Int) - rb - 1)).2.rt.length ≤ 24
                      omega
                    · show t.loc.length = s.loc.length
                      rw [lt0]
                    · show u.us - (3 + F.li) = s.us + (0 : Nat)
                      omega
                    · show (slideM u.M (((u.M.rt.length : Nat) : Int) - rb - 1)).2.rt.length = s.M.rt.length + 1
                      rw [hok.2]
                      omega
                    · show u.fuel ≤ s.fuel
                      have := SU.rl.fu
                      have := Rt.fu
                      omega
                  · have D0 := S10.dead FT
                    have D : Dl G w9 (Gw (Gw Q w1 w5) wc wr) lv wU (bodyI G.P0 (.fn f) tE) := by
                      obtain ⟨en, x, y, a, b⟩ := D0
                      rw [hb3]
                      exact ⟨en, x, y, g10.tok (by rw [if_neg (by decide), if_pos (show 2 ≤ F.ret by omega)]; exact a), b⟩
                    clear D0 FT S10 g10 hr2
                    obtain ⟨en, he', c17, rlt⟩ := D.c17
                    have yy : (en == 0) = false := by simpa using he'
                    have yy2 : (en != 0) = true := by simpa using he'
                    have HD : Hid (True ∧ _) := ⟨trivial, D⟩
                    clear D he' E9 fin hb2 hb3 hEM hEr hEu hEf SE erb2 Bi9 hrtt Rt lt Ss0 St hlbq A hnq9 hlvnb hqr9 lt0
                    go_wp2_with fail
                    go_ret
                    obtain ⟨_, E9, fin, hb2, -⟩ := HE.out
                    obtain ⟨_, en', tt, s', a1, a2, a3, a4⟩ := HD.out
                    refine ⟨0, rfl, ?_⟩
                    rw [hb2]
                    exact .inr ⟨en', tt, s', a1.stop, a2, fin _ _ _ a3, a4⟩
                · have Bu := S10.ml.blk Bi9 hnq9 hlvnb
                  have m1 : w10.cell? ⟨nb, 1, none⟩ = some (.int .i64 r.1.ret) := Bu.cell (o := 1) (by omega)
                  rw [A.ret] at m1
                  have nbl := Bu.lt
                  obtain ⟨ovu, Ou, Hvu⟩ := S10.ml.1
                  have c17 := Hvu.c17
                  have c16 := Hvu.c16
                  have rlt := Hvu.rlt
                  have q4 := S10.ml.mm.push S10.sb.u0 S10.sb.u48
                  have hz1 : decide (F.ret ≥ 2) = false := decide_eq_false (by omega)
                  have hz2 : decide ((2 : Int) ≤ F.ret) = false := decide_eq_false (by omega)
                  have HS : Hid (True ∧ _) := ⟨trivial, And.intro S10 (And.intro g10 hr2)⟩
                  clear Bu Hvu S10 g10 hr2 E9 fin hb2 hb3 hEM hEr hEu hEf SE erb2 Bi9 hrtt Rt lt Ss0 St hlbq A hnq9 hlvnb hqr9 lt0
                  go_wp2_with fail
                  refine q4.mono ?_
                  rintro z wU ⟨rfl, h⟩
                  clear q4 c17 c16 rlt m1 nbl
                  obtain ⟨_, S10, g10, hr2⟩ := HS.out
                  have FT : Fat G w10 (Gw (Gw (Gw Q w1 w5) wc wr) w9 w10) wU t10 1 0 (pushI t10 0) 0 := Fat.push h S10.sb (Rl.refl _) rfl rfl
                  clear h
                  obtain ⟨_, E9, fin, hb2, hb3, hEM, hEr, hEu, hEf, SE, erb2, Bi9, hrtt, Rt, lt, Ss0, St, hlbq⟩ := HE.out
                  obtain ⟨_, A, hnq9, hlvnb, hqr9, lt0⟩ := HA.out
                  rcases FT with FT | FT
                  · obtain ⟨u, g11, SU, _⟩ := S10.live E9 FT
                    have gU : EvI G.P0 (bodyI G.P0 (.fn f) tE) (.ok 0 u) := by rw [hb3]; exact g10.tok (by rw [if_neg (by decide), if_neg (show ¬ 2 ≤ F.ret by omega)]; exact g11)
                    rw [Nat.zero_add, Nat.zero_add] at SU
                    clear g10 S10 g11 FT
                    have Bu := SU.ml.blk Bi9 hnq9 hlvnb
                    have m1 : wU.cell? ⟨nb, 1, none⟩ = some (.int .i64 r.1.ret) := Bu.cell (o := 1) (by omega)
                    rw [A.ret] at m1
                    have nbl := Bu.lt
                    obtain ⟨ovu, Ou, Hvu⟩ := SU.ml.1
                    have c17 := Hvu.c17
                    have c16 := Hvu.c16
                    have rlt := Hvu.rlt
                    have r24u := SU.sb.r24
                    have hurt := SU.rl.rt
                    have q4 := SU.ml.mm.depthH
                    have q5 := SU.ml.mm.popH r24u (((u.M.rt.length : Nat) : Int) - rb)
                    have hge : rb + F.lr = u.M.rt.length := by rw [hurt, hEM]; omega
                    have hz1 : decide (F.ret ≥ 2) = false := decide_eq_false (by omega)
                    have hz2 : decide ((2 : Int) ≤ F.ret) = false := decide_eq_false (by omega)
                    have HU : Hid (True ∧ _) := ⟨trivial, And.intro SU (And.intro gU (And.intro hge (And.intro hr2 (And.intro hnq9 (And.intro hlvnb (And.intro fin (And.intro hb2 (And.intro A (And.intro Bi9 (And.intro hEu (And.intro hrtt (And.intro Rt (And.intro Ss0 (And.intro hEM (And.intro hEr (And.intro hEf erb2))))))))))))))))⟩
                    have hle2 : ((rb : Nat) : Int) ≤ ((u.M.rt.length : Nat) : Int) := by omega
                    clear SU gU hge hr2 hnq9 hlvnb fin hb2 A Bi9 hEu hrtt Rt Ss0 hEM hEr erb2 Bu Hvu hurt hb3 E9 hEf SE hlbq lt St
                    go_wp2_with fail
                    refine q4.mono ?_
                    rintro z w11 ⟨rfl, hw11⟩
                    subst w11
                    clear q4
                    go_wp2_with fail
                    refine q5.mono ?_
                    rintro z w12 ⟨rfl, M12⟩
                    clear q5 m1 nbl c17 c16 rlt
                    obtain ⟨_, SU, gU, hge, hr2, hnq9, hlvnb, fin, hb2, A, Bi9, hEu, hrtt, Rt, Ss0, hEM, hEr, hEf, erb2⟩ := HU.out
                    obtain ⟨wd, hwd⟩ : ∃ wd, wd = w12.drew := ⟨_, rfl⟩
                    have HWd : Hid (True ∧ _) := ⟨trivial, hwd⟩
                    have kd : Fr (fun _ => False) w12 wd := by rw [hwd]; exact (Fr.refl _ w12).drew
                    have Md := (SU.ml.up M12).same kd
                    have Bd := Md.blk Bi9 hnq9 hlvnb
                    have m4 : wd.cell? ⟨nb, 4, none⟩ = some (.int .i64 r.2.1) := Bd.cell (o := 4) (by omega)
                    rw [A.li] at m4
                    have nbl := Bd.lt
                    obtain ⟨ovd, Od, Hvd⟩ := Md.1
                    have c15 := Hvd.c15
                    have rlt := Hvd.rlt
                    have hz := Hvd.blk.frozen
                    have hnbr : nb ≠ G.r := fun e => hnq9 (by rw [e]; exact (by obtain ⟨_, _, X⟩ := SU.ml.1; exact (show _ from hqr9)))
                    have uu0 := SU.sb.u0
                    have uu48 := SU.sb.u48
                    have HMd : Hid (True ∧ _) := ⟨trivial, And.intro M12 Md⟩
                    clear SU gU hge hr2 hnq9 hlvnb fin hb2 A Bi9 hEu hrtt Rt Ss0 hEM hEr erb2 M12 hwd kd Md Bd Hvd
                    go_upto_region 30 with fail
                    refine wp_region_text (by kernel_rfl) (by kernel_rfl) ?_
                    rw [← HWd.out.2]
                    go_wp2_with fail
                    refine ⟨by kernel_rfl, ?_⟩
                    go_wp2_with fail
                    go_ret
                    obtain ⟨_, SU, gU, hge, hr2, hnq9, hlvnb, fin, hb2, A, Bi9, hEu, hrtt, Rt, Ss0, hEM, hEr, hEf, erb2⟩ := HU.out
                    obtain ⟨_, M12, Md⟩ := HMd.out
                    refine ⟨0, rfl, ?_⟩
                    have hEf2 := hEf
                    rw [hb2, (duT_i (by omega)).1, (duT_i (by omega)).2]
                    refine Fat.call gU ?_
                    rw [if_neg (show ¬ 2 ≤ F.ret by omega)]
                    have eur : u.rb = rb := SU.rl.rb.trans erb2
                    have eD : dtop u.M 0 - ((u.rb : Nat) : Int) = (((u.M.rt.length : Nat) : Int) - rb) := by rw [eur]; unfold dtop; omega
                    rw [eD]
                    have hok := pop_ok (M := u.M) (n := (((u.M.rt.length : Nat) : Int) - rb)) (by omega) (by omega)
                    have hs0 := Ss0.u0
                    have hus := SU.rl.us
                    have hRu := Rt.us
                    have hrb2 : rb = t.M.rt.length - F.pr := by rw [← erb2]; exact hEr
                    refine Fat.go (((fin _ _ _ (Md.setU (u.us - (3 + F.li))))).re rfl rfl rfl rfl rfl) ⟨?_, ?_, ?_, SU.sb.mi.pop _, SU.sb.ou, SU.sb.f1, SU.sb.f0, SU.sb.ip, SU.sb.il⟩ ⟨Rt.rb, ?_, ?_, ?_, ?_⟩ lt0
                    · show 0 ≤ u.us - (3 + F.li)
                      omega
                    · show u.us - (3 + F.li) ≤ 48
                      omega
                    · show (popM u.M (((u.M.rt.length : Nat) : Int) - rb)).2.rt.length ≤ 24
                      omega
                    · show t.loc.length = s.loc.length
                      rw [lt0]
                    · show u.us - (3 + F.li) = s.us + (1 : Nat)
                      omega
                    · show (popM u.M (((u.M.rt.length : Nat) : Int) - rb)).2.rt.length = s.M.rt.length + 0
                      rw [hok.2]
                      omega
                    · show u.fuel ≤ s.fuel
                      have := SU.rl.fu
                      have := Rt.fu
                      omega
                  · have D0 := S10.dead FT
                    have D : Dl G w9 (Gw (Gw Q w1 w5) wc wr) lv wU (bodyI G.P0 (.fn f) tE) := by
                      obtain ⟨en, x, y, a, b⟩ := D0
                      rw [hb3]
                      exact ⟨en, x, y, g10.tok (by rw [if_neg (by decide), if_neg (show ¬ 2 ≤ F.ret by omega)]; exact a), b⟩
                    clear D0 FT S10 g10 hr2
                    obtain ⟨en, he', c17, rlt⟩ := D.c17
                    have yy : (en == 0) = false := by simpa using he'
                    have yy2 : (en != 0) = true := by simpa using he'
                    have HD : Hid (True ∧ _) := ⟨trivial, D⟩
                    clear D he' E9 fin hb2 hb3 hEM hEr hEu hEf SE erb2 Bi9 hrtt Rt lt Ss0 St hlbq A hnq9 hlvnb hqr9 lt0
                    go_wp2_with fail
                    go_ret
                    obtain ⟨_, E9, fin, hb2, -⟩ := HE.out
                    obtain ⟨_, en', tt, s', a1, a2, a3, a4⟩ := HD.out
                    refine ⟨0, rfl, ?_⟩
                    rw [hb2]
                    exact .inr ⟨en', tt, s', a1.stop, a2, fin _ _ _ a3, a4⟩
              · by_cases hr2 : 2 ≤ F.ret
                · obtain ⟨u, hu⟩ : ∃ u, u = t10 := ⟨_, rfl⟩
                  rw [← hu] at S10 g10
                  obtain ⟨wU, hwU⟩ : ∃ wU, wU = w10 := ⟨_, rfl⟩
                  rw [← hwU] at S10
                  rw [← hwU]
                  have SU : Ls G w9 (Gw (Gw Q w1 w5) wc wr) lv wU tE 0 1 u := by rw [← (duT_r hr2).1, ← (duT_r hr2).2]; exact S10
                  have gU : EvI G.P0 (bodyI G.P0 (.fn f) tE) (.ok v u) := by rw [hb3]; exact g10.trt (by rw [if_pos rfl]; exact EvI.ret _)
                  clear hu hwU S10 g10
                  have Bu := SU.ml.blk Bi9 hnq9 hlvnb
                  have m1 : wU.cell? ⟨nb, 1, none⟩ = some (.int .i64 r.1.ret) := Bu.cell (o := 1) (by omega)
                  rw [A.ret] at m1
                  have nbl := Bu.lt
                  obtain ⟨ovu, Ou, Hvu⟩ := SU.ml.1
                  have c17 := Hvu.c17
                  have c16 := Hvu.c16
                  have rlt := Hvu.rlt
                  have r24u := SU.sb.r24
                  have hurt := SU.rl.rt
                  have q4 := SU.ml.mm.depthH
                  have q5 := SU.ml.mm.slideH r24u (((u.M.rt.length : Nat) : Int) - rb - 1)
                  have hge : rb + F.lr + 1 = u.M.rt.length := by rw [hurt, hEM]; omega
                  have hz1 : decide (F.ret ≥ 2) = true := decide_eq_true hr2
                  have hz2 : decide ((2 : Int) ≤ F.ret) = true := decide_eq_true hr2
                  have HU : Hid (True ∧ _) := ⟨trivial, And.intro SU (And.intro gU (And.intro hge (And.intro hr2 (And.intro hnq9 (And.intro hlvnb (And.intro fin (And.intro hb2 (And.intro A (And.intro Bi9 (And.intro hEu (And.intro hrtt (And.intro Rt (And.intro Ss0 (And.intro hEM (And.intro hEr (And.intro hEf erb2))))))))))))))))⟩
                  have hle2 : ((rb : Nat) : Int) ≤ ((u.M.rt.length : Nat) : Int) := by omega
                  clear SU gU hge hr2 hnq9 hlvnb fin hb2 A Bi9 hEu hrtt Rt Ss0 hEM hEr erb2 Bu Hvu hurt hb3 E9 hEf SE hlbq lt St
                  go_wp2_with fail
                  refine q4.mono ?_
                  rintro z w11 ⟨rfl, hw11⟩
                  subst w11
                  clear q4
                  go_wp2_with fail
                  refine q5.mono ?_
                  rintro z w12 ⟨rfl, M12⟩
                  clear q5 m1 nbl c17 c16 rlt
                  obtain ⟨_, SU, gU, hge, hr2, hnq9, hlvnb, fin, hb2, A, Bi9, hEu, hrtt, Rt, Ss0, hEM, hEr, hEf, erb2⟩ := HU.out
                  obtain ⟨wd, hwd⟩ : ∃ wd, wd = w12.drew := ⟨_, rfl⟩
                  have HWd : Hid (True ∧ _) := ⟨trivial, hwd⟩
                  have kd : Fr (fun _ => False) w12 wd := by rw [hwd]; exact (Fr.refl _ w12).drew
                  have Md := (SU.ml.up M12).same kd
                  have Bd := Md.blk Bi9 hnq9 hlvnb
                  have m4 : wd.cell? ⟨nb, 4, none⟩ = some (.int .i64 r.2.1) := Bd.cell (o := 4) (by omega)
                  rw [A.li] at m4
                  have nbl := Bd.lt
                  obtain ⟨ovd, Od, Hvd⟩ := Md.1
                  have c15 := Hvd.c15
                  have rlt := Hvd.rlt
                  have hz := Hvd.blk.frozen
                  have hnbr : nb ≠ G.r := fun e => hnq9 (by rw [e]; exact (by obtain ⟨_, _, X⟩ := SU.ml.1; exact (show _ from hqr9)))
                  have uu0 := SU.sb.u0
                  have uu48 := SU.sb.u48
                  have HMd : Hid (True ∧ _) := ⟨trivial, And.intro M12 Md⟩
                  clear SU gU hge hr2 hnq9 hlvnb fin hb2 A Bi9 hEu hrtt Rt Ss0 hEM hEr erb2 M12 hwd kd Md Bd Hvd
                  go_upto_region 27 with fail
                  refine wp_region_text (by kernel_rfl) (by kernel_rfl) ?_
                  rw [← HWd.out.2]
                  go_wp2_with fail
                  refine ⟨by kernel_rfl, ?_⟩
                  go_wp2_with fail
                  go_ret
                  obtain ⟨_, SU, gU, hge, hr2, hnq9, hlvnb, fin, hb2, A, Bi9, hEu, hrtt, Rt, Ss0, hEM, hEr, hEf, erb2⟩ := HU.out
                  obtain ⟨_, M12, Md⟩ := HMd.out
                  refine ⟨0, rfl, ?_⟩
                  have hEf2 := hEf
                  rw [hb2, (duT_r hr2).1, (duT_r hr2).2]
                  refine Fat.call gU ?_
                  rw [if_pos hr2]
                  have eur : u.rb = rb := SU.rl.rb.trans erb2
                  have eD : dtop u.M 1 - ((u.rb : Nat) : Int) = (((u.M.rt.length : Nat) : Int) - rb - 1) := by rw [eur]; unfold dtop; omega
                  rw [eD]
                  have hok := slide_ok (M := u.M) (n := (((u.M.rt.length : Nat) : Int) - rb - 1)) (by omega) (by omega)
                  have hs0 := Ss0.u0
                  have hus := SU.rl.us
                  have hRu := Rt.us
                  have hrb2 : rb = t.M.rt.length - F.pr := by rw [← erb2]; exact hEr
                  refine Fat.go (((fin _ _ _ (Md.setU (u.us - (3 + F.li))))).re rfl rfl rfl rfl rfl) ⟨?_, ?_, ?_, SU.sb.mi.slide _, SU.sb.ou, SU.sb.f1, SU.sb.f0, SU.sb.ip, SU.sb.il⟩ ⟨Rt.rb, ?_, ?_, ?_, ?_⟩ lt0
                  · show 0 ≤ u.us - (3 + F.li)
                    omega
                  · show u.us - (3 + F.li) ≤ 48
                    omega
                  · show (slideM u.M (((u.M.rt.length : Nat) : Int) - rb - 1)).2.rt.length ≤ 24
                    omega
                  · show t.loc.length = s.loc.length
                    rw [lt0]
                  · show u.us - (3 + F.li) = s.us + (0 : Nat)
                    omega
                  · show (slideM u.M (((u.M.rt.length : Nat) : Int) - rb - 1)).2.rt.length = s.M.rt.length + 1
                    rw [hok.2]
                    omega
                  · show u.fuel ≤ s.fuel
                    have := SU.rl.fu
                    have := Rt.fu
                    omega
                · obtain ⟨u, hu⟩ : ∃ u, u = t10 := ⟨_, rfl⟩
                  rw [← hu] at S10 g10
                  obtain ⟨wU, hwU⟩ : ∃ wU, wU = w10 := ⟨_, rfl⟩
                  rw [← hwU] at S10
                  rw [← hwU]
                  have SU : Ls G w9 (Gw (Gw Q w1 w5) wc wr) lv wU tE 1 0 u := by rw [← (duT_i (t := F.ret) (by omega)).1, ← (duT_i (t := F.ret) (by omega)).2]; exact S10
                  have gU : EvI G.P0 (bodyI G.P0 (.fn f) tE) (.ok v u) := by rw [hb3]; exact g10.trt (by rw [if_pos rfl]; exact EvI.ret _)
                  clear hu hwU S10 g10
                  have Bu := SU.ml.blk Bi9 hnq9 hlvnb
                  have m1 : wU.cell? ⟨nb, 1, none⟩ = some (.int .i64 r.1.ret) := Bu.cell (o := 1) (by omega)
                  rw [A.ret] at m1
                  have nbl := Bu.lt
                  obtain ⟨ovu, Ou, Hvu⟩ := SU.ml.1
                  have c17 := Hvu.c17
                  have c16 := Hvu.c16
                  have rlt := Hvu.rlt
                  have r24u := SU.sb.r24
                  have hurt := SU.rl.rt
                  have q4 := SU.ml.mm.depthH
                  have q5 := SU.ml.mm.popH r24u (((u.M.rt.length : Nat) : Int) - rb)
                  have hge : rb + F.lr = u.M.rt.length := by rw [hurt, hEM]; omega
                  have hz1 : decide (F.ret ≥ 2) = false := decide_eq_false (by omega)
                  have hz2 : decide ((2 : Int) ≤ F.ret) = false := decide_eq_false (by omega)
                  have HU : Hid (True ∧ _) := ⟨trivial, And.intro SU (And.intro gU (And.intro hge (And.intro hr2 (And.intro hnq9 (And.intro hlvnb (And.intro fin (And.intro hb2 (And.intro A (And.intro Bi9 (And.intro hEu (And.intro hrtt (And.intro Rt (And.intro Ss0 (And.intro hEM (And.intro hEr (And.intro hEf erb2))))))))))))))))⟩
                  have hle2 : ((rb : Nat) : Int) ≤ ((u.M.rt.length : Nat) : Int) := by omega
                  clear SU gU hge hr2 hnq9 hlvnb fin hb2 A Bi9 hEu hrtt Rt Ss0 hEM hEr erb2 Bu Hvu hurt hb3 E9 hEf SE hlbq lt St
                  go_wp2_with fail
                  refine q4.mono ?_
                  rintro z w11 ⟨rfl, hw11⟩
                  subst w11
                  clear q4
                  go_wp2_with fail
                  refine q5.mono ?_
                  rintro z w12 ⟨rfl, M12⟩
                  clear q5 m1 nbl c17 c16 rlt
                  obtain ⟨_, SU, gU, hge, hr2, hnq9, hlvnb, fin, hb2, A, Bi9, hEu, hrtt, Rt, Ss0, hEM, hEr, hEf, erb2⟩ := HU.out
                  obtain ⟨wd, hwd⟩ : ∃ wd, wd = w12.drew := ⟨_, rfl⟩
                  have HWd : Hid (True ∧ _) := ⟨trivial, hwd⟩
                  have kd : Fr (fun _ => False) w12 wd := by rw [hwd]; exact (Fr.refl _ w12).drew
                  have Md := (SU.ml.up M12).same kd
                  have Bd := Md.blk Bi9 hnq9 hlvnb
                  have m4 : wd.cell? ⟨nb, 4, none⟩ = some (.int .i64 r.2.1) := Bd.cell (o := 4) (by omega)
                  rw [A.li] at m4
                  have nbl := Bd.lt
                  obtain ⟨ovd, Od, Hvd⟩ := Md.1
                  have c15 := Hvd.c15
                  have rlt := Hvd.rlt
                  have hz := Hvd.blk.frozen
                  have hnbr : nb ≠ G.r := fun e => hnq9 (by rw [e]; exact (by obtain ⟨_, _, X⟩ := SU.ml.1; exact (show _ from hqr9)))
                  have uu0 := SU.sb.u0
                  have uu48 := SU.sb.u48
                  have HMd : Hid (True ∧ _) := ⟨trivial, And.intro M12 Md⟩
                  clear SU gU hge hr2 hnq9 hlvnb fin hb2 A Bi9 hEu hrtt Rt Ss0 hEM hEr erb2 M12 hwd kd Md Bd Hvd
                  go_upto_region 30 with fail
                  refine wp_region_text (by kernel_rfl) (by kernel_rfl) ?_
                  rw [← HWd.out.2]
                  go_wp2_with fail
                  refine ⟨by kernel_rfl, ?_⟩
                  go_wp2_with fail
                  go_ret
                  obtain ⟨_, SU, gU, hge, hr2, hnq9, hlvnb, fin, hb2, A, Bi9, hEu, hrtt, Rt, Ss0, hEM, hEr, hEf, erb2⟩ := HU.out
                  obtain ⟨_, M12, Md⟩ := HMd.out
                  refine ⟨v, rfl, ?_⟩
                  have hEf2 := hEf
                  rw [hb2, (duT_i (by omega)).1, (duT_i (by omega)).2]
                  refine Fat.call gU ?_
                  rw [if_neg (show ¬ 2 ≤ F.ret by omega)]
                  have eur : u.rb = rb := SU.rl.rb.trans erb2
                  have eD : dtop u.M 0 - ((u.rb : Nat) : Int) = (((u.M.rt.length : Nat) : Int) - rb) := by rw [eur]; unfold dtop; omega
                  rw [eD]
                  have hok := pop_ok (M := u.M) (n := (((u.M.rt.length : Nat) : Int) - rb)) (by omega) (by omega)
                  have hs0 := Ss0.u0
                  have hus := SU.rl.us
                  have hRu := Rt.us
                  have hrb2 : rb = t.M.rt.length - F.pr := by rw [← erb2]; exact hEr
                  refine Fat.go (((fin _ _ _ (Md.setU (u.us - (3 + F.li))))).re rfl rfl rfl rfl rfl) ⟨?_, ?_, ?_, SU.sb.mi.pop _, SU.sb.ou, SU.sb.f1, SU.sb.f0, SU.sb.ip, SU.sb.il⟩ ⟨Rt.rb, ?_, ?_, ?_, ?_⟩ lt0
                  · show 0 ≤ u.us - (3 + F.li)
                    omega
                  · show u.us - (3 + F.li) ≤ 48
                    omega
                  · show (popM u.M (((u.M.rt.length : Nat) : Int) - rb)).2.rt.length ≤ 24
                    omega
                  · show t.loc.length = s.loc.length
                    rw [lt0]
                  · show u.us - (3 + F.li) = s.us + (1 : Nat)
                    omega
                  · show (popM u.M (((u.M.rt.length : Nat) : Int) - rb)).2.rt.length = s.M.rt.length + 0
                    rw [hok.2]
                    omega
                  · show u.fuel ≤ s.fuel
                    have := SU.rl.fu
                    have := Rt.fu
                    omega
              · have D : Dl G w9 (Gw (Gw Q w1 w5) wc wr) lv w10 (bodyI G.P0 (.fn f) tE) := by
                  obtain ⟨en, x, y, a, b⟩ := D'
                  rw [hb3]
                  exact ⟨en, x, y, a.tstop, b⟩
                clear D'
                obtain ⟨en, he', c17, rlt⟩ := D.c17
                have yy : (en == 0) = false := by simpa using he'
                have yy2 : (en != 0) = true := by simpa using he'
                have HD : Hid (True ∧ _) := ⟨trivial, D⟩
                clear D he' E9 fin hb2 hb3 hEM hEr hEu hEf SE erb2 Bi9 hrtt Rt lt Ss0 St hlbq A hnq9 hlvnb hqr9 lt0
                go_wp2_with fail
                go_ret
                obtain ⟨_, E9, fin, hb2, -⟩ := HE.out
                obtain ⟨_, en', tt, s', a1, a2, a3, a4⟩ := HD.out
                refine ⟨0, rfl, ?_⟩
                rw [hb2]
                exact .inr ⟨en', tt, s', a1.stop, a2, fin _ _ _ a3, a4⟩
end Go.Proofs.Qxb6500277aGreat
