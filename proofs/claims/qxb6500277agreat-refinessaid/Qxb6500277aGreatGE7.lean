/- The emitters: ahead, call. -/
import Derived.Test.Qxb6500277aGreatGE6
import Derived.Test.Qxb6500277aGreatText7
namespace Go.Proofs.Qxb6500277aGreat
open Go Go.RowKit

theorem GY.xne {w : World} {g : Nat} {P : Nat → Prop} {hd : Nat → Value} {B : Gb} {cv hv xv ev : Value} {col : Nat → Nat} (H : GY w g P hd B cv hv xv ev col) : ¬ isB xv g := fun h => by have h1 := (H.cx g h).2; rw [H.pg.2] at h1; cases h1
theorem FxAt.sl {w : World} {v : Value} {l : List (Nat × Nat)} (h : FxAt w v l) : ∃ a c, v = .slice a l.length c ∧ l.length ≤ c := by
  rcases h with ⟨rfl, rfl⟩ | ⟨x, cap, f, rfl, h1, h2, _⟩
  · exact ⟨_, _, rfl, Nat.le_refl _⟩
  · exact ⟨_, _, rfl, h1⟩
theorem FxAt.bk {w : World} {v : Value} {l : List (Nat × Nat)} {b : Nat} (h : FxAt w v l) (hb : isB v b) : b < w.heap.size := by
  rcases h with ⟨rfl, _⟩ | ⟨x, cap, f, rfl, _, h2, _⟩
  · exact (nil_noB b hb).elim
  · rw [isB_one hb]; exact h2.lt
set_option maxRecDepth 100000 in
set_option maxHeartbeats 2000000 in
theorem aheadF {w : World} {g : Nat} {P : Nat → Prop} {hd : Nat → Value} {B : Gb} (h : GX w g P hd B) (o : Nat) (ho : o < 256) (hl : B.code.length ≤ 48000) : Calls Tryz.prog 195 #[.pointer (some ⟨g, 0, none⟩), .int .i64 (o : Nat)] w (EmR w g P hd { B with code := B.code ++ (o :: u16b 0), holes := B.holes ++ [((B.code.length + 1 : Nat) : Int)] }) := by
  have q1 := opF h o ho (by omega)
  have hPl := h.lt
  have hB0 : B.holes.length ≤ B.code.length := by obtain ⟨_, _, _, _, _, H⟩ := h; exact H.hl
  clear h
  go_enter Tryz.func195, Tryz.ntmps195
  go_wp2_with fail
  refine q1.mono ?_
  rintro v w1 ⟨rfl, hx1, hf1⟩
  have E0 : Em w P g hd w1 { B with code := B.code ++ [o] } := ⟨hx1, hf1, hPl⟩
  replace E0 := E0.same ((Fr.refl _ _).drew)
  clear hx1 hf1
  obtain ⟨hx1, hf1, _⟩ := E0
  have qh := hereF hx1
  obtain ⟨cv, hv, xv, ev, col, H⟩ := hx1
  have c13 : w1.drew.cell? ⟨g, 13, none⟩ = some hv := H.cl (o := 13) (by omega)
  have hlt := H.glt
  have hz := H.blk.frozen
  have e1 : ({ B with code := B.code ++ [o] } : Gb).code.length = B.code.length + 1 := by simp
  rw [e1] at qh
  obtain ⟨m, hm⟩ : ∃ m, m = B.code.length + 1 := ⟨_, rfl⟩
  rw [← hm] at qh
  have hxl : B.holes.length + 1 ≤ (B.code ++ [o]).length := by have h0 := hB0; simp only [List.length_append, List.length_cons, List.length_nil]; omega
  have hlm : m ≤ 48001 := by omega
  have kA := (Fr.refl (fun _ => False) w1.drew).alloc (.cells #[.int .i64 (m : Nat)] 3)
  have HA := H.same kA
  have hmade : KiP (w1.drew.alloc (.cells #[.int .i64 (m : Nat)] 3)) w1.drew.heap.size [((m : Nat) : Int)] := KiP.one ((Blk.new w1.drew #[.int .i64 (m : Nat)] 3 (fun _ => .int .i64 (m : Nat)) (fun o ho => by
    have ho : o < 1 := by simpa using ho
    obtain rfl : o = 0 := by omega
    rfl)).cell (by simp))
  have hO := HA.hol
  have hO1 : ({ B with code := B.code ++ [o] } : Gb).holes.length ≤ 50000 := by simp only [List.length_append, List.length_cons, List.length_nil] at hxl; simp only []; omega
  have Hw : Hid _ := And.intro H (And.intro hf1 (And.intro hPl hm))
  have Hh : Hid _ := And.intro HA (And.intro kA (And.intro trivial hxl))
  clear H hf1 hPl q1 e1 hm hxl kA HA
  go_upto_region 1 with fail
  go_cut [] from 7 (fun wx => Em w P g hd wx { B with code := B.code ++ [o], holes := B.holes ++ [((m : Nat) : Int)] })
  case first =>
    refine wp_region_tree (.run [0,1,2,3,5] (.fork 4 (.run [6] (.run [7] (.run [8] (.run [9,10,11] .fin)))) 6 (.run [4] (.run [7] (.run [8] (.run [9,10,11] .fin)))))) (by kernel_rfl) (by kernel_rfl) ?_
    simp only [wpTL, pick, List.filterMap_cons, List.filterMap_nil, List.getElem?_cons_zero, List.getElem?_cons_succ]
    go_wp2_with fail
    refine ⟨⟨?_, ?_⟩⟩
    · go_wp2_with fail
      refine ⟨?_⟩
      go_wp2_with fail
      refine qh.mono ?_
      rintro v w4 ⟨rfl, hw4⟩
      subst w4
      go_wp2_with fail
      refine ⟨?_⟩
      go_wp2_with fail
      refine ⟨?_⟩
      refine wpList_appendI (by rfl) _ _ (by rfl) _ _ [((m : Nat) : Int)] _ 1 1 (by rfl) (by rfl) rfl hO hmade (.inr (by simp)) (by simp only [List.length_cons, List.length_nil]; omega) ?_
      intro v' w8 hc5 hb5 f5
      obtain ⟨va, vc, hvv, _⟩ := hc5.sl
      simp only [List.length_append, List.length_cons, List.length_nil, Nat.zero_add] at hvv
      subst hvv
      have hcm := Hh.out.1.blk.frame f5 Hh.out.1.hne
      have cm1 := hcm.cell (o := 13) (by omega)
      have cml := hcm.lt
      have cmz := hcm.frozen
      have Hc5 : Hid _ := And.intro hc5 (And.intro hb5 f5)
      clear hc5 hb5 f5 hcm
      go_wp2_with fail
      refine ⟨?_⟩
      go_wp2_with fail
      refine ⟨?_⟩
      refine ⟨by kernel_rfl, ?_⟩
      go_wp2_with fail
      go_meet
      obtain ⟨hc5, hb5, f5⟩ := Hc5.out
      have key := Hh.out.1.setH f5 hc5 hb5 (fun b hb => hc5.bk hb) (by have := Hh.out.2.2.2; simp only [List.length_append, List.length_cons, List.length_nil] at this ⊢; omega)
      have E0 : Em w P g hd w1.drew { B with code := B.code ++ [o] } := ⟨Hw.out.1.x, Hw.out.2.1, Hw.out.2.2.1⟩
      exact (E0.then (e := .returned (.tuple #[])) (EmR.pre Hw.out.1.lt Hh.out.2.1 ⟨rfl, key⟩))
    · go_wp2_with fail
      refine qh.mono ?_
      rintro v w4 ⟨rfl, hw4⟩
      subst w4
      go_wp2_with fail
      refine ⟨?_⟩
      go_wp2_with fail
      refine ⟨?_⟩
      go_wp2_with fail
      refine ⟨?_⟩
      refine wpList_appendI (by rfl) _ _ (by rfl) _ _ [((m : Nat) : Int)] _ 1 1 (by rfl) (by rfl) rfl hO hmade (.inr (by simp)) (by simp only [List.length_cons, List.length_nil]; omega) ?_
      intro v' w8 hc5 hb5 f5
      obtain ⟨va, vc, hvv, _⟩ := hc5.sl
      simp only [List.length_append, List.length_cons, List.length_nil, Nat.zero_add] at hvv
      subst hvv
      have hcm := Hh.out.1.blk.frame f5 Hh.out.1.hne
      have cm1 := hcm.cell (o := 13) (by omega)
      have cml := hcm.lt
      have cmz := hcm.frozen
      have Hc5 : Hid _ := And.intro hc5 (And.intro hb5 f5)
      clear hc5 hb5 f5 hcm
      go_wp2_with fail
      refine ⟨?_⟩
      go_wp2_with fail
      refine ⟨?_⟩
      refine ⟨by kernel_rfl, ?_⟩
      go_wp2_with fail
      go_meet
      obtain ⟨hc5, hb5, f5⟩ := Hc5.out
      have key := Hh.out.1.setH f5 hc5 hb5 (fun b hb => hc5.bk hb) (by have := Hh.out.2.2.2; simp only [List.length_append, List.length_cons, List.length_nil] at this ⊢; omega)
      have E0 : Em w P g hd w1.drew { B with code := B.code ++ [o] } := ⟨Hw.out.1.x, Hw.out.2.1, Hw.out.2.2.1⟩
      exact (E0.then (e := .returned (.tuple #[])) (EmR.pre Hw.out.1.lt Hh.out.2.1 ⟨rfl, key⟩))
  case rest =>
    obtain ⟨hx2, hf2, hPl⟩ := hcut
    obtain ⟨cv2, hv2, xv2, ev2, col2, H2⟩ := hx2
    have c12 : wc.cell? ⟨g, 12, none⟩ = some cv2 := H2.cl (o := 12) (by omega)
    have hlt2 := H2.glt
    have hz2 := H2.blk.frozen
    have q3 := apU16 H2.code 0 (by omega) (by simp only [List.length_append, List.length_cons, List.length_nil]; omega)
    have H9 : Hid _ := And.intro H2 (And.intro hf2 hPl)
    clear H2 hf2 hPl qh hO
    go_wp2_with fail
    refine q3.mono ?_
    rintro v w2 ⟨v', rfl, hc5, hb5, f5⟩
    clear q3
    obtain ⟨va, vc, hvv, _⟩ := hc5.sl
    obtain ⟨nn, hnn⟩ : ∃ nn, nn = (({ B with code := B.code ++ [o], holes := B.holes ++ [((m : Nat) : Int)] } : Gb).code ++ u16b 0).length := ⟨_, rfl⟩
    rw [← hnn] at hvv
    subst hvv
    have hcm := H9.out.1.blk.frame f5 H9.out.1.cne
    have cm1 := hcm.cell (o := 12) (by omega)
    have cml := hcm.lt
    have cmz := hcm.frozen
    have Hc5 : Hid _ := And.intro hc5 (And.intro hb5 f5)
    clear hc5 hb5 f5 hcm hnn
    go_wp2_with fail
    go_end0
    obtain ⟨hc5, hb5, f5⟩ := Hc5.out
    have key := H9.out.1.setC f5 hc5 hb5 hc5.lt (by simp)
    have eq : ({ code := B.code ++ [o] ++ u16b 0, holes := B.holes ++ [((m : Nat) : Int)], calls := B.calls, entry := B.entry } : Gb) = { B with code := B.code ++ (o :: u16b 0), holes := B.holes ++ [((B.code.length + 1 : Nat) : Int)] } := by rw [Hw.out.2.2.2]; simp
    rw [← eq]
    have E0 : Em w P g hd wc { B with code := B.code ++ [o], holes := B.holes ++ [((m : Nat) : Int)] } := ⟨H9.out.1.x, H9.out.2.1, H9.out.2.2⟩
    exact (E0.then (e := .returned (.tuple #[])) ⟨rfl, key⟩).ret
set_option maxRecDepth 100000 in
set_option maxHeartbeats 2000000 in
theorem callF {w : World} {g : Nat} {P : Nat → Prop} {hd : Nat → Value} {B : Gb} (h : GX w g P hd B) (fn : Nat) (hl : B.code.length ≤ 48000) : Calls Tryz.prog 227 #[.pointer (some ⟨g, 0, none⟩), .int .i64 (fn : Nat)] w (EmR w g P hd { B with code := B.code ++ (24 :: u16b 0), calls := B.calls ++ [(B.code.length + 1, fn)] }) := by
  have q1 := opF h 24 (by omega) (by omega)
  have hPl := h.lt
  have hB0 : B.calls.length ≤ B.code.length := by obtain ⟨_, _, _, _, _, H⟩ := h; exact H.xl
  clear h
  go_enter Tryz.func227, Tryz.ntmps227
  go_wp2_with fail
  refine q1.mono ?_
  rintro v w1 ⟨rfl, hx1, hf1⟩
  have E0 : Em w P g hd w1 { B with code := B.code ++ [24] } := ⟨hx1, hf1, hPl⟩
  replace E0 := E0.same ((Fr.refl _ _).drew)
  clear hx1 hf1
  obtain ⟨hx1, hf1, _⟩ := E0
  have qh := hereF hx1
  obtain ⟨cv, hv, xv, ev, col, H⟩ := hx1
  have c13 : w1.drew.cell? ⟨g, 14, none⟩ = some xv := H.cl (o := 14) (by omega)
  have hlt := H.glt
  have hz := H.blk.frozen
  have e1 : ({ B with code := B.code ++ [24] } : Gb).code.length = B.code.length + 1 := by simp
  rw [e1] at qh
  obtain ⟨m, hm⟩ : ∃ m, m = B.code.length + 1 := ⟨_, rfl⟩
  rw [← hm] at qh
  have hxl : B.calls.length + 1 ≤ (B.code ++ [24]).length := by have h0 := hB0; simp only [List.length_append, List.length_cons, List.length_nil]; omega
  have hlm : m ≤ 48001 := by omega
  have kA := (Fr.refl (fun _ => False) w1.drew).alloc (.cells #[.int .i64 (m : Nat), .int .i64 (fn : Nat)] 132)
  have HA := H.same kA
  have hmk := Blk.new w1.drew #[.int .i64 (m : Nat), .int .i64 (fn : Nat)] 132 (fun k => if k = 0 then .int .i64 (m : Nat) else .int .i64 (fn : Nat)) (fun o ho => by
    have ho : o < 2 := by simpa using ho
    obtain rfl | rfl : o = 0 ∨ o = 1 := by omega
    · rfl
    · rfl)
  have hmade0 := hmk.cell (o := 0) (by simp)
  have hmade1 := hmk.cell (o := 1) (by simp)
  clear hmk
  simp only [if_true] at hmade0
  rw [if_neg (by omega)] at hmade1
  have hO := HA.cal
  have hO1 : ({ B with code := B.code ++ [24] } : Gb).calls.length ≤ 50000 := by simp only [List.length_append, List.length_cons, List.length_nil] at hxl; simp only []; omega
  have Hw : Hid _ := And.intro H (And.intro hf1 (And.intro hPl hm))
  have Hh : Hid _ := And.intro HA (And.intro kA (And.intro trivial hxl))
  clear H hf1 hPl q1 e1 hm hxl kA HA
  go_upto_region 1 with fail
  go_cut [] from 6 (fun wx => Em w P g hd wx { B with code := B.code ++ [24], calls := B.calls ++ [(m, fn)] })
  case first =>
    refine wp_region_tree (.run [0,1,2,3,5,7] (.fork 4 (.run [6] (.run [8] (.run [9] (.run [10] (.run [11,12,13] .fin))))) 6 (.run [8] (.run [4] (.run [9] (.run [10] (.run [11,12,13] .fin))))))) (by kernel_rfl) (by kernel_rfl) ?_
    simp only [wpTL, pick, List.filterMap_cons, List.filterMap_nil, List.getElem?_cons_zero, List.getElem?_cons_succ]
    go_wp2_with fail
    refine ⟨⟨?_, ?_⟩⟩
    · go_wp2_with fail
      refine ⟨?_⟩
      go_wp2_with fail
      refine qh.mono ?_
      rintro v w4 ⟨rfl, hw4⟩
      subst w4
      go_wp2_with fail
      refine ⟨?_⟩
      go_wp2_with fail
      refine ⟨?_⟩
      go_wp2_with fail
      refine ⟨?_⟩
      refine wpList_appF (by rfl) _ _ (by rfl) _ _ (m, fn) _ 1 (by rfl) (by rfl) hO hmade0 hmade1 (by omega) ?_
      intro v' w8 hc5 hb5 f5
      obtain ⟨va, vc, hvv, _⟩ := hc5.sl
      simp only [List.length_append, List.length_cons, List.length_nil, Nat.zero_add] at hvv
      subst hvv
      have hcm := Hh.out.1.blk.frame f5 Hh.out.1.xne
      have cm1 := hcm.cell (o := 14) (by omega)
      have cml := hcm.lt
      have cmz := hcm.frozen
      have Hc5 : Hid _ := And.intro hc5 (And.intro hb5 f5)
      clear hc5 hb5 f5 hcm
      go_wp2_with fail
      refine ⟨?_⟩
      go_wp2_with fail
      refine ⟨?_⟩
      refine ⟨by kernel_rfl, ?_⟩
      go_wp2_with fail
      go_meet
      obtain ⟨hc5, hb5, f5⟩ := Hc5.out
      have key := Hh.out.1.setX f5 hc5 hb5 (fun b hb => hc5.bk hb) (by have := Hh.out.2.2.2; simp only [List.length_append, List.length_cons, List.length_nil] at this ⊢; omega)
      have E0 : Em w P g hd w1.drew { B with code := B.code ++ [24] } := ⟨Hw.out.1.x, Hw.out.2.1, Hw.out.2.2.1⟩
      exact (E0.then (e := .returned (.tuple #[])) (EmR.pre Hw.out.1.lt Hh.out.2.1 ⟨rfl, key⟩))
    · go_wp2_with fail
      refine qh.mono ?_
      rintro v w4 ⟨rfl, hw4⟩
      subst w4
      go_wp2_with fail
      refine ⟨?_⟩
      go_wp2_with fail
      refine ⟨?_⟩
      go_wp2_with fail
      refine ⟨?_⟩
      go_wp2_with fail
      refine ⟨?_⟩
      refine wpList_appF (by rfl) _ _ (by rfl) _ _ (m, fn) _ 1 (by rfl) (by rfl) hO hmade0 hmade1 (by omega) ?_
      intro v' w8 hc5 hb5 f5
      obtain ⟨va, vc, hvv, _⟩ := hc5.sl
      simp only [List.length_append, List.length_cons, List.length_nil, Nat.zero_add] at hvv
      subst hvv
      have hcm := Hh.out.1.blk.frame f5 Hh.out.1.xne
      have cm1 := hcm.cell (o := 14) (by omega)
      have cml := hcm.lt
      have cmz := hcm.frozen
      have Hc5 : Hid _ := And.intro hc5 (And.intro hb5 f5)
      clear hc5 hb5 f5 hcm
      go_wp2_with fail
      refine ⟨?_⟩
      go_wp2_with fail
      refine ⟨?_⟩
      refine ⟨by kernel_rfl, ?_⟩
      go_wp2_with fail
      go_meet
      obtain ⟨hc5, hb5, f5⟩ := Hc5.out
      have key := Hh.out.1.setX f5 hc5 hb5 (fun b hb => hc5.bk hb) (by have := Hh.out.2.2.2; simp only [List.length_append, List.length_cons, List.length_nil] at this ⊢; omega)
      have E0 : Em w P g hd w1.drew { B with code := B.code ++ [24] } := ⟨Hw.out.1.x, Hw.out.2.1, Hw.out.2.2.1⟩
      exact (E0.then (e := .returned (.tuple #[])) (EmR.pre Hw.out.1.lt Hh.out.2.1 ⟨rfl, key⟩))
  case rest =>
    obtain ⟨hx2, hf2, hPl⟩ := hcut
    obtain ⟨cv2, hv2, xv2, ev2, col2, H2⟩ := hx2
    have c12 : wc.cell? ⟨g, 12, none⟩ = some cv2 := H2.cl (o := 12) (by omega)
    have hlt2 := H2.glt
    have hz2 := H2.blk.frozen
    have q3 := apU16 H2.code 0 (by omega) (by simp only [List.length_append, List.length_cons, List.length_nil]; omega)
    have H9 : Hid _ := And.intro H2 (And.intro hf2 hPl)
    clear H2 hf2 hPl qh hO
    go_wp2_with fail
    refine q3.mono ?_
    rintro v w2 ⟨v', rfl, hc5, hb5, f5⟩
    clear q3
    obtain ⟨va, vc, hvv, _⟩ := hc5.sl
    obtain ⟨nn, hnn⟩ : ∃ nn, nn = (({ B with code := B.code ++ [24], calls := B.calls ++ [(m, fn)] } : Gb).code ++ u16b 0).length := ⟨_, rfl⟩
    rw [← hnn] at hvv
    subst hvv
    have hcm := H9.out.1.blk.frame f5 H9.out.1.cne
    have cm1 := hcm.cell (o := 12) (by omega)
    have cml := hcm.lt
    have cmz := hcm.frozen
    have Hc5 : Hid _ := And.intro hc5 (And.intro hb5 f5)
    clear hc5 hb5 f5 hcm hnn
    go_wp2_with fail
    go_end0
    obtain ⟨hc5, hb5, f5⟩ := Hc5.out
    have key := H9.out.1.setC f5 hc5 hb5 hc5.lt (by simp)
    have eq : ({ code := B.code ++ [24] ++ u16b 0, holes := B.holes, calls := B.calls ++ [(m, fn)], entry := B.entry } : Gb) = { B with code := B.code ++ (24 :: u16b 0), calls := B.calls ++ [(B.code.length + 1, fn)] } := by rw [Hw.out.2.2.2]; simp
    rw [← eq]
    have E0 : Em w P g hd wc { B with code := B.code ++ [24], calls := B.calls ++ [(m, fn)] } := ⟨H9.out.1.x, H9.out.2.1, H9.out.2.2⟩
    exact (E0.then (e := .returned (.tuple #[])) ⟨rfl, key⟩).ret
end Go.Proofs.Qxb6500277aGreat
