/- The emitters: num, back, land, over. -/
import Derived.Test.Qxb6500277aGreatGE4
namespace Go.Proofs.Qxb6500277aGreat
open Go Go.RowKit

set_option maxRecDepth 100000 in
set_option maxHeartbeats 1000000 in
theorem numF {w : World} {g : Nat} {P : Nat → Prop} {hd : Nat → Value} {B : Gb} (h : GX w g P hd B) (x : Int) (hl : B.code.length ≤ 49000) : Calls Tryz.prog 97 #[.pointer (some ⟨g, 0, none⟩), .int .i64 x] w (EmR w g P hd { B with code := B.code ++ (0 :: i64b x) }) := by
  have q1 := opF h 0 (by omega) (by omega)
  have hPl := h.lt
  clear h
  go_enter Tryz.func97, Tryz.ntmps97
  go_wp2_with fail
  refine q1.mono ?_
  rintro v w1 ⟨rfl, hx1, hf1⟩
  clear q1
  obtain ⟨cv, hv, xv, ev, col, H⟩ := hx1
  have c12 : w1.cell? ⟨g, 12, none⟩ = some cv := H.cl (o := 12) (by omega)
  have hlt := H.glt
  have hz := H.blk.frozen
  have q2 := apI64 H.code x (by simp only [List.length_append, List.length_cons, List.length_nil]; omega)
  have Hh : Hid _ := And.intro H (And.intro hf1 hPl)
  clear H hf1 hPl
  go_wp2_with fail
  refine q2.mono ?_
  rintro v w2 ⟨v', rfl, hc5, hb5, f5⟩
  clear q2
  obtain ⟨va, vc, hvv, _⟩ := hc5.sl
  obtain ⟨nn, hnn⟩ : ∃ nn, nn = (({ B with code := B.code ++ [0] } : Gb).code ++ i64b x).length := ⟨_, rfl⟩
  rw [← hnn] at hvv
  subst hvv
  have hcm := Hh.out.1.blk.frame f5 Hh.out.1.cne
  have cm1 := hcm.cell (o := 12) (by omega)
  have cml := hcm.lt
  have cmz := hcm.frozen
  have Hc5 : Hid _ := And.intro hc5 (And.intro hb5 f5)
  clear hc5 hb5 f5 hcm hnn
  go_wp2_with fail
  go_end0
  obtain ⟨hc5, hb5, f5⟩ := Hc5.out
  have key := Hh.out.1.setC f5 hc5 hb5 hc5.lt (by simp)
  have eq : ({ B with code := B.code ++ [0] ++ i64b x } : Gb) = { B with code := B.code ++ (0 :: i64b x) } := by simp
  rw [← eq]
  have E0 : Em w P g hd w1 { B with code := B.code ++ [0] } := ⟨Hh.out.1.x, Hh.out.2.1, Hh.out.2.2⟩
  exact (E0.then (e := .returned (.tuple #[])) ⟨rfl, key⟩).ret
set_option maxRecDepth 100000 in
set_option maxHeartbeats 1000000 in
theorem backF {w : World} {g : Nat} {P : Nat → Prop} {hd : Nat → Value} {B : Gb} (h : GX w g P hd B) (o a : Nat) (ho : o < 256) (ha : a < 65536) (hl : B.code.length ≤ 49000) : Calls Tryz.prog 198 #[.pointer (some ⟨g, 0, none⟩), .int .i64 (o : Nat), .int .i64 (a : Nat)] w (EmR w g P hd { B with code := B.code ++ (o :: u16b a) }) := by
  have q1 := opF h o ho (by omega)
  have hPl := h.lt
  clear h
  go_enter Tryz.func198, Tryz.ntmps198
  go_wp2_with fail
  refine q1.mono ?_
  rintro v w1 ⟨rfl, hx1, hf1⟩
  clear q1
  obtain ⟨cv, hv, xv, ev, col, H⟩ := hx1
  have c12 : w1.cell? ⟨g, 12, none⟩ = some cv := H.cl (o := 12) (by omega)
  have hlt := H.glt
  have hz := H.blk.frozen
  have q2 := apU16 H.code a ha (by simp only [List.length_append, List.length_cons, List.length_nil]; omega)
  have Hh : Hid _ := And.intro H (And.intro hf1 hPl)
  clear H hf1 hPl
  go_wp2_with fail
  refine q2.mono ?_
  rintro v w2 ⟨v', rfl, hc5, hb5, f5⟩
  clear q2
  obtain ⟨va, vc, hvv, _⟩ := hc5.sl
  obtain ⟨nn, hnn⟩ : ∃ nn, nn = (({ B with code := B.code ++ [o] } : Gb).code ++ u16b a).length := ⟨_, rfl⟩
  rw [← hnn] at hvv
  subst hvv
  have hcm := Hh.out.1.blk.frame f5 Hh.out.1.cne
  have cm1 := hcm.cell (o := 12) (by omega)
  have cml := hcm.lt
  have cmz := hcm.frozen
  have Hc5 : Hid _ := And.intro hc5 (And.intro hb5 f5)
  clear hc5 hb5 f5 hcm hnn
  go_wp2_with fail
  go_end0
  obtain ⟨hc5, hb5, f5⟩ := Hc5.out
  have key := Hh.out.1.setC f5 hc5 hb5 hc5.lt (by simp)
  have eq : ({ B with code := B.code ++ [o] ++ u16b a } : Gb) = { B with code := B.code ++ (o :: u16b a) } := by simp
  rw [← eq]
  have E0 : Em w P g hd w1 { B with code := B.code ++ [o] } := ⟨Hh.out.1.x, Hh.out.2.1, Hh.out.2.2⟩
  exact (E0.then (e := .returned (.tuple #[])) ⟨rfl, key⟩).ret
end Go.Proofs.Qxb6500277aGreat
