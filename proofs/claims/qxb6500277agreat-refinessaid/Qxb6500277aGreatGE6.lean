/- The emitters: land, over. -/
import Derived.Test.Qxb6500277aGreatGE5
import Derived.Deep.CutRange
namespace Go.Proofs.Qxb6500277aGreat
open Go Go.RowKit

theorem GY.hne {w : World} {g : Nat} {P : Nat → Prop} {hd : Nat → Value} {B : Gb} {cv hv xv ev : Value} {col : Nat → Nat} (H : GY w g P hd B cv hv xv ev col) : ¬ isB hv g := fun h => by have h1 := (H.ch g h).2; rw [H.pg.2] at h1; cases h1
set_option maxRecDepth 100000 in
set_option maxHeartbeats 1000000 in
theorem landF {w : World} {g : Nat} {P : Nat → Prop} {hd : Nat → Value} {B : Gb} (h : GX w g P hd B) {l : List Int} {x : Nat} (hh : B.holes = l ++ [(x : Int)]) (hx : x + 1 < B.code.length) (hl : B.code.length ≤ 49000) : Calls Tryz.prog 197 #[.pointer (some ⟨g, 0, none⟩)] w (EmR w g P hd { B with code := fillL B.code x B.code.length, holes := l }) := by
  have qh := hereF h
  have qf := fillF h x B.code.length (by omega) hx (by omega)
  have hPl := h.lt
  obtain ⟨cv, hv, xv, ev, col, H⟩ := h
  have c13 : w.cell? ⟨g, 13, none⟩ = some hv := H.cl (o := 13) (by omega)
  have hlt := H.glt
  have hz := H.blk.frozen
  have hll : B.holes.length = l.length + 1 := by rw [hh]; simp
  have hcl := H.hl
  obtain ⟨b, c, e1, e2, e3, e4⟩ := H.hol.get (i := l.length) (by omega)
  have e5 : B.holes[l.length] = (x : Int) := by simp [hh]
  rw [e5] at e3
  rw [e1, hll] at c13
  obtain ⟨n, hn⟩ : ∃ n, n = l.length := ⟨_, rfl⟩
  rw [← hn] at c13 e3 e4 hll
  have hn5 : (n : Int) ≤ 50000 := by omega
  have hnl : n ≤ B.code.length := by omega
  have Hn : Hid _ := And.intro hn (And.intro hh (And.intro hll hPl))
  clear H hh e1 e5 hPl hn hll hcl
  go_enter Tryz.func197, Tryz.ntmps197
  go_wp2_with fail
  refine qh.mono ?_
  rintro v w1 ⟨rfl, hw1⟩
  subst w1
  go_wp2_with fail
  refine qf.mono ?_
  rintro v w2 ⟨rfl, hx2, hf2⟩
  obtain ⟨cv2, hv2, xv2, ev2, col2, H2⟩ := hx2
  have d13 : w2.cell? ⟨g, 13, none⟩ = some hv2 := H2.cl (o := 13) (by omega)
  have hlt2 := H2.glt
  have hz2 := H2.blk.frozen
  have hll2 : ({ B with code := fillL B.code x B.code.length } : Gb).holes.length = n + 1 := Hn.out.2.2.1
  obtain ⟨b2, k2, g1, g2, g3⟩ := H2.hol.get (i := n) (by omega)
  have gn := H2.hol
  rw [g1] at gn
  have gt := KiAt.take gn (k := n) (by omega)
  rw [hll2] at g1
  rw [g1] at d13
  have gs := H2.hol.sl
  have hcap : n ≤ k2 := by
    obtain ⟨a', c', s1, s2⟩ := gs
    rw [g1] at s1
    injection s1 with _ _ s1
    omega
  have Hg : Hid _ := And.intro H2 (And.intro g1 (And.intro gt hf2))
  clear H2 g1 gn gt g3 hll2 gs hf2 qh qf
  go_wp2_with fail
  go_end0
  obtain ⟨H2, g1, gt, hf2⟩ := Hg.out
  obtain ⟨hn, hh, hll, hPl⟩ := Hn.out
  have e6 : (({ B with code := fillL B.code x B.code.length } : Gb).holes.take n) = l := by show B.holes.take n = l; rw [hh, hn]; simp
  rw [e6] at gt
  have key := H2.setH (Fr.refl _ _) gt (fun b hb => .inr (by rw [isB_one hb, g1]; exact ⟨_, _, rfl⟩)) (fun b hb => by rw [isB_one hb]; exact g2) (by show l.length ≤ (fillL B.code x B.code.length).length; rw [fillL_len]; omega)
  have E0 : Em w P g hd w2 { B with code := fillL B.code x B.code.length } := ⟨H2.x, hf2, hPl⟩
  exact (E0.then (e := .returned (.tuple #[])) ⟨rfl, key⟩).ret
set_option maxRecDepth 100000 in
set_option maxHeartbeats 1000000 in
theorem overF {w : World} {g : Nat} {P : Nat → Prop} {hd : Nat → Value} {B : Gb} (h : GX w g P hd B) {l : List Int} {x : Nat} (hh : B.holes = l ++ [(x : Int)]) (hx : x + 1 < B.code.length) (hl : B.code.length ≤ 48000) : Calls Tryz.prog 196 #[.pointer (some ⟨g, 0, none⟩)] w (EmR w g P hd { B with code := fillL (B.code ++ (21 :: u16b 0)) x (B.code.length + 3), holes := l ++ [((B.code.length + 1 : Nat) : Int)] }) := by
  have q1 := opF h 21 (by omega) (by omega)
  have hPl := h.lt
  have hll : B.holes.length = l.length + 1 := by rw [hh]; simp
  clear h
  go_enter Tryz.func196, Tryz.ntmps196
  go_wp2_with fail
  refine q1.mono ?_
  rintro v w1 ⟨rfl, hx1, hf1⟩
  have q2 := hereF hx1
  obtain ⟨cv, hv, xv, ev, col, H⟩ := hx1
  have c12 : w1.cell? ⟨g, 12, none⟩ = some cv := H.cl (o := 12) (by omega)
  have hlt := H.glt
  have hz := H.blk.frozen
  have q3 := apU16 H.code 0 (by omega) (by simp only [List.length_append, List.length_cons, List.length_nil]; omega)
  have e1 : ({ B with code := B.code ++ [21] } : Gb).code.length = B.code.length + 1 := by simp
  rw [e1] at q2
  obtain ⟨m, hm⟩ : ∃ m, m = B.code.length + 1 := ⟨_, rfl⟩
  rw [← hm] at q2
  have hcl := H.hl
  rw [e1] at hcl
  have Hh : Hid _ := And.intro H (And.intro hf1 (And.intro hPl (And.intro hm (And.intro hh (And.intro hll hcl)))))
  clear H hf1 hPl q1 e1 hm hh hll hcl
  go_wp2_with fail
  refine q2.mono ?_
  rintro v w2 ⟨rfl, hw2⟩
  subst w2
  go_wp2_with fail
  refine q3.mono ?_
  rintro v w2 ⟨v', rfl, hc5, hb5, f5⟩
  clear q2 q3
  obtain ⟨va, vc, hvv, _⟩ := hc5.sl
  obtain ⟨nn, hnn⟩ : ∃ nn, nn = (({ B with code := B.code ++ [21] } : Gb).code ++ u16b 0).length := ⟨_, rfl⟩
  rw [← hnn] at hvv
  subst hvv
  have hcm := Hh.out.1.blk.frame f5 Hh.out.1.cne
  have cm1 := hcm.cell (o := 12) (by omega)
  have cml := hcm.lt
  have cmz := hcm.frozen
  have key := Hh.out.1.setC f5 hc5 hb5 hc5.lt (by simp)
  have E0 : Em w P g hd w1 { B with code := B.code ++ [21] } := ⟨Hh.out.1.x, Hh.out.2.1, Hh.out.2.2.1⟩
  have E1 : Em w P g hd _ { B with code := B.code ++ [21] ++ u16b 0 } := E0.then (e := .returned (.tuple #[])) ⟨rfl, key⟩
  have HE1 : Hid (True ∧ _) := ⟨trivial, E1⟩
  clear hnn E1 key E0 hc5 hb5 f5 hcm
  go_upto_region 3 with fail
  have E1 := HE1.out.2
  obtain ⟨w3, hw3⟩ : ∃ w3, w3 = w2.setCell ⟨g, 12, none⟩ (.slice va nn vc) := ⟨_, rfl⟩
  rw [← hw3] at E1
  rw [← hw3]
  have hx3 := E1.1
  obtain ⟨cv3, hv3, xv3, ev3, col3, H3⟩ := E1.1
  have c13 : w3.cell? ⟨g, 13, none⟩ = some hv3 := H3.cl (o := 13) (by omega)
  have hlt3 := H3.glt
  have hz3 := H3.blk.frozen
  obtain ⟨hm, hh, hll, hcl⟩ := Hh.out.2.2.2
  obtain ⟨n, hn⟩ : ∃ n, n = l.length := ⟨_, rfl⟩
  have hll3 : ({ B with code := B.code ++ [21] ++ u16b 0 } : Gb).holes.length = n + 1 := by rw [hn]; exact hll
  obtain ⟨b3, k3, g1, _, g2, g3, g4, g5⟩ := H3.hol.set (i := n) (by omega)
  have e5 : ({ B with code := B.code ++ [21] ++ u16b 0 } : Gb).holes[n] = (x : Int) := by subst n; simp [hh]
  rw [e5] at g3
  have e6 : ({ B with code := B.code ++ [21] ++ u16b 0 } : Gb).code.length = m + 2 := by simp [u16b]; omega
  have qh := hereF E1.1
  rw [e6] at qh
  have qf := fillF E1.1 x (m + 2) (by omega) (by rw [e6]; omega) (by rw [e6]; omega)
  rw [hll3] at g1
  rw [g1] at c13
  have hn5 : (n : Int) ≤ 50000 := by omega
  have hnl : n ≤ m := by omega
  have HE : Hid _ := And.intro E1.2 (And.intro hn hll3)
  have Hx3 : Hid (True ∧ GX w3 g (Gw P w w3) hd { B with code := B.code ++ [21] ++ u16b 0 }) := ⟨trivial, hx3⟩
  clear hx3
  clear HE1 E1 H3 hw3 hm hh hll hcl hn hll3 g1 g5 e5 e6 hlt hz c12 cml cmz cm1
  go_wp2_with fail
  refine qh.mono ?_
  rintro v w4 ⟨rfl, hw4⟩
  subst w4
  go_wp2_with fail
  refine qf.mono ?_
  rintro v w4 ⟨rfl, hx4, hf4⟩
  obtain ⟨cv4, hv4, xv4, ev4, col4, H4⟩ := hx4
  have d13 : w4.cell? ⟨g, 13, none⟩ = some hv4 := H4.cl (o := 13) (by omega)
  have hlt4 := H4.glt
  have hz4 := H4.blk.frozen
  have hll4 : ({ B with code := fillL (B.code ++ [21] ++ u16b 0) x (m + 2) } : Gb).holes.length = n + 1 := HE.out.2.2
  obtain ⟨b4, k4, i1, i0, i2, i3, i4, i5⟩ := H4.hol.set (i := n) (by omega)
  have i6 := i5 ((m : Nat) : Int)
  rw [hll4] at i1
  rw [i1] at d13
  have hbg : b4 ≠ g := fun e => H4.hne (by rw [i1, e]; exact ⟨_, _, rfl⟩)
  obtain ⟨old, hold⟩ : ∃ old, old = ({ B with code := fillL (B.code ++ [21] ++ u16b 0) x (m + 2) } : Gb).holes[n] := ⟨_, rfl⟩
  rw [← hold] at i3
  have Hg : Hid _ := And.intro H4 (And.intro i1 (And.intro i6 (And.intro hf4 hll4)))
  clear H4 i1 i5 i6 hf4 hll4 hold qh qf i0
  go_wp2_with fail
  go_end0
  obtain ⟨H4, i1, i6, hf4, hll4⟩ := Hg.out
  obtain ⟨hE2, hn, hll3⟩ := HE.out
  obtain ⟨hm, hh, hll, hcl⟩ := Hh.out.2.2.2
  have F4 : Fr (isB hv4) w4 (w4.setCell ⟨b4, n, none⟩ (.int .i64 (m : Nat))) := (Fr.refl _ _).setC b4 n _ fun _ => by rw [i1]; exact ⟨_, _, rfl⟩
  have e7 : ({ B with code := fillL (B.code ++ [21] ++ u16b 0) x (m + 2) } : Gb).holes.set n ((m : Nat) : Int) = l ++ [((B.code.length + 1 : Nat) : Int)] := by show B.holes.set n _ = _; subst n; rw [hh, hm]; simp
  rw [e7] at i6
  have Y := H4.fillH F4 i6 (by show (l ++ [((B.code.length + 1 : Nat) : Int)]).length = B.holes.length; simp [hh])
  have eq : ({ code := fillL (B.code ++ [21] ++ u16b 0) x (m + 2), holes := l ++ [((B.code.length + 1 : Nat) : Int)], calls := B.calls, entry := B.entry } : Gb) = { B with code := fillL (B.code ++ (21 :: u16b 0)) x (B.code.length + 3), holes := l ++ [((B.code.length + 1 : Nat) : Int)] } := by rw [hm]; simp
  rw [eq] at Y
  have hk4 : EmR w3 g (Gw P w w3) hd { B with code := fillL (B.code ++ (21 :: u16b 0)) x (B.code.length + 3), holes := l ++ [((B.code.length + 1 : Nat) : Int)] } (.returned (.tuple #[])) (w4.setCell ⟨b4, n, none⟩ (.int .i64 (m : Nat))) := ⟨rfl, Y.x.mono (fun _ h => h.elim (fun h => .inl h) (fun h => .inr ⟨h.1, by simpa using h.2⟩)) (Gw.lt (fun b hb => Gw.lt hE2.2 hE2.1.size b hb) (Nat.le_trans hf4.size F4.size)), hf4.trans F4 (fun b hb h => by
    have h1 := (H4.ch b h).1
    rcases h1 with h1 | h1
    · exact h1
    · omega)⟩
  have E3 : GX w3 g (Gw P w w3) hd { B with code := B.code ++ [21] ++ u16b 0 } := Hx3.out.2
  exact ((show Em w P g hd w3 { B with code := B.code ++ [21] ++ u16b 0 } from ⟨E3, hE2⟩).then hk4).ret
end Go.Proofs.Qxb6500277aGreat
