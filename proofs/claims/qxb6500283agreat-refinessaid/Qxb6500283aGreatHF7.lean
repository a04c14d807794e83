/- fill. -/
import Derived.Test.Qxb6500283aGreatHF6
namespace Go.Proofs.Qxb6500283aGreat
open Go Go.RowKit

/-- What fill's loop keeps. -/
structure FillAt (w wr : World) (bb len : Nat) (t s : ByteArray) (ps : List Pc) (cs : List (Nat → Int)) (i : Nat) (l : List UInt8) (last : Nat) : Prop where
  asc : Asc s.size (cs.drop i) last
  eq : l ++ outFrom t s ps (cs.drop i) last = outFrom t s ps cs 0
  blk : ∃ f, Blk wr bb len f ∧ HoldsB f l
  fr : Fr (fun c => c = bb) w wr
theorem FillAt.len {w wr : World} {bb len : Nat} {t s : ByteArray} {ps : List Pc} {cs : List (Nat → Int)} {i last : Nat} {l : List UInt8} (h : FillAt w wr bb len t s ps cs i l last) (hl : len = sizeFrom s.size ps cs 0) : l.length + sizeFrom s.size ps (cs.drop i) last = len := by
  have := congrArg List.length h.eq
  rw [List.length_append, out_len, out_len] at this
  omega
set_option maxRecDepth 100000 in
set_option maxHeartbeats 8000000 in
theorem fill_any {w : World} {fb e sb pb bb len cap : Nat} {cs : List (Nat → Int)} {ps : List Pc} {f0 : Nat → Value} (hP : PMem w fb e sb cs.length pb ps) (hS : SMem w sb cs) (hok : ∀ p ∈ ps, PcOk p) (t s : ByteArray) (hin : ∀ p ∈ ps, p.g < 0 → p.hi ≤ t.size) (ht : t.size ≤ 32) (hs : s.size ≤ 256) (hA : Asc s.size cs 0) (hb : Blk w bb len f0) (hl : len = sizeFrom s.size ps cs 0) (hlen : len ≤ 1000000) (hf1 : fb ≠ bb) (hf2 : pb ≠ bb) (hf3 : sb ≠ bb) :
    Calls Tryz.prog 64 #[.pointer (some ⟨fb, 0, none⟩), .slice (some ⟨bb, 0, none⟩) len cap, .string s, .string t] w fun v w' => v = .returned (.tuple #[]) ∧ ∃ f, Blk w' bb len f ∧ HoldsB f (outFrom t s ps cs 0) ∧ Fr (fun c => c = bb) w w' := by
  have hsb : (s.size : Int) ≤ 256 := by omega
  have hle := hS.le
  have hpl := hP.le
  have hlb : (len : Int) ≤ 1000000 := by omega
  have Hok : Hid _ := hok
  have Hin : Hid _ := hin
  have HA : Hid _ := hA
  have Hl : Hid _ := hl
  have Hcap : Hid (∀ c, CapOk s.size c → CapOk 256 c) := fun c hc g hg => (hc g hg).imp id (fun h => by omega)
  clear hok hin hA hl
  go_enter Tryz.func64, Tryz.ntmps64
  go_wp2_with fail
  go_loopg [8, 9, 10] cs.length (fun g av lv iv wr => ∃ (i last : Nat) (l : List UInt8), av = .int .i64 (l.length : Nat) ∧ lv = .int .i64 (last : Nat) ∧ iv = .int .i64 (i : Nat) ∧ i + g = cs.length ∧ FillAt w wr bb len t s ps cs i l last)
  case atStart => exact ⟨0, 0, [], rfl, rfl, rfl, by omega, ⟨by simpa using HA.out, by simp, ⟨f0, hb, fun o ho => by simp at ho⟩, Fr.refl _ _⟩⟩
  case round =>
    obtain ⟨i, last, l, rfl, rfl, rfl, hg, hF⟩ := hrel
    have hg' : i + gk = cs.length := hg
    clear hg
    have hll := hF.len Hl.out
    obtain ⟨z1, z2, ⟨f, hB, hHB⟩, hfr⟩ := hF
    have hPr := hP.frame hfr hf1 hf2
    have hSr := hS.frame hfr hf3
    have c1 := hPr.fd.cell (o := 1) (by omega)
    have c2 := hPr.fd.cell (o := 2) (by omega)
    have c3 := hPr.fd.cell (o := 3) (by omega)
    have c4 := hPr.fd.cell (o := 4) (by omega)
    simp only [fdCell] at c1 c2 c3 c4
    have lf := hPr.fd.lt
    have ib : (i : Int) ≤ 257 := by omega
    have Z2 : Hid _ := z2
    clear z2
    by_cases hlt : i < cs.length
    · have hI : decide ((i : Int) < (cs.length : Nat)) = true := decide_eq_true (by omega)
      obtain ⟨q1, q2, q3, q4⟩ := HA.out.drop i hlt
      have s0 := hSr.cells hlt (j := 0) (by omega)
      have s1 := hSr.cells hlt (j := 1) (by omega)
      have s2 := hSr.cells hlt (j := 2) (by omega)
      have s3 := hSr.cells hlt (j := 3) (by omega)
      have s4 := hSr.cells hlt (j := 4) (by omega)
      have s5 := hSr.cells hlt (j := 5) (by omega)
      have s6 := hSr.cells hlt (j := 6) (by omega)
      have s7 := hSr.cells hlt (j := 7) (by omega)
      simp only [Nat.add_zero] at s0
      have hd : cs.drop i = cs[i] :: cs.drop (i + 1) := List.drop_eq_getElem_cons hlt
      rw [hd] at z1 hll
      have Z3 := Z2.out
      rw [hd] at Z3
      obtain ⟨y1, y2, y3, y4, y5⟩ := z1
      obtain ⟨a0, ha0⟩ : ∃ a0 : Nat, cs[i] 0 = a0 := ⟨(cs[i] 0).toNat, by omega⟩
      obtain ⟨a1, ha1⟩ : ∃ a1 : Nat, cs[i] 1 = a1 := ⟨(cs[i] 1).toNat, by omega⟩
      simp only [sizeFrom, ha0, ha1, Int.toNat_natCast] at hll
      simp only [outFrom, ha0, ha1, Int.toNat_natCast] at Z3
      rw [ha1, Int.toNat_natCast] at y5
      have hla : last ≤ a0 := by omega
      have ha01 : a0 ≤ a1 := by omega
      have ha1n : a1 ≤ s.size := by omega
      have Y5 : Hid _ := y5
      have Q4 : Hid _ := q4
      have Z4 : Hid _ := Z3
      have Ha0 : Hid _ := ha0
      have Ha1 : Hid _ := ha1
      have hcb := capB wr cs[i]
      have kC := (Fr.refl (fun _ => False) wr).alloc (.cells #[.int .i64 (cs[i] 0), .int .i64 (cs[i] 1), .int .i64 (cs[i] 2), .int .i64 (cs[i] 3), .int .i64 (cs[i] 4), .int .i64 (cs[i] 5), .int .i64 (cs[i] 6), .int .i64 (cs[i] 7)] 64)
      have hBc := hB.frame kC (fun h => h)
      have hC0 := hcb.cell (o := 0) (by omega)
      have hC1 := hcb.cell (o := 1) (by omega)
      rw [Ha0.out] at hC0
      rw [Ha1.out] at hC1
      clear y1 y2 y3 y4 y5 q1 q2 q3 q4 hd Z3 ha0 ha1
      go_wp2_with fail
      have hcall := lay_any (cap := cap) hBc hlen s l.length last a0 hla (by omega) (by omega) (by omega)
      rw [← Ha0.out] at hcall
      refine hcall.mono ?_
      rintro v w2 ⟨rfl, hB2, f2⟩
      clear hcall
      have hbl := hB.lt
      have hcb2 := hcb.frame f2 (by omega)
      have F2 := (hfr.trans kC (fun _ _ h => h.elim)).trans f2 (fun _ _ h => h)
      have hHB2 := hHB.lay s last (a0 - last)
      obtain ⟨l1, hl1⟩ : ∃ l1, l1 = l ++ bytes s last (a0 - last) := ⟨_, rfl⟩
      rw [← hl1] at hHB2
      have hl1n : l1.length = l.length + (a0 - last) := by rw [hl1, List.length_append, bytes_len]
      have z5 : l1 ++ (ps.flatMap (pcB t s cs[i]) ++ outFrom t s ps (cs.drop (i + 1)) a1) = outFrom t s ps cs 0 := by
        have := Z4.out
        rw [hl1]
        rw [← this]
        simp only [List.append_assoc]
      have Z5 : Hid _ := z5
      clear z5
      rw [← hl1n]
      have hlf2 : l1.length + pw ps cs[i] + sizeFrom s.size ps (cs.drop (i + 1)) a1 = len := by omega
      have Hl1n : Hid _ := hl1n
      clear hl1 hl1n Z4 hll hB hHB hBc hcb kC hC0 hC1 s0 s1 s2 s3 s4 s5 s6 s7 c1 c2 c3 c4 hPr hSr
      obtain ⟨cbk, hcbk⟩ : ∃ c, c = wr.heap.size := ⟨_, rfl⟩
      have hbc : cbk ≠ bb := by omega
      rw [← hcbk] at hcb2 ⊢
      clear hcbk
      have hC1 := hcb2.cell (o := 1) (by omega)
      have lcb := hcb2.lt
      go_wp2_with fail
      go_loopg [8, 12] ps.length (fun g2 av kv wq => ∃ (k : Nat) (l2 : List UInt8), av = .int .i64 (l2.length : Nat) ∧ kv = .int .i64 (k : Nat) ∧ k + g2 = ps.length ∧ l2 = l1 ++ (ps.take k).flatMap (pcB t s cs[i]) ∧ (∃ f, Blk wq bb len f ∧ HoldsB f l2) ∧ Blk wq cbk 8 (fun o => .int .i64 (cs[i] o)) ∧ Fr (fun c => c = bb) w wq)
      case atStart => exact ⟨0, l1, rfl, rfl, by omega, by simp, ⟨_, hB2, hHB2⟩, hcb2, F2⟩
      case round =>
        obtain ⟨k, l2, rfl, rfl, hg2, hl2, ⟨f3, hB3, hHB3⟩, hcb3, F3⟩ := hrel
        have hg2' : k + gk = ps.length := hg2
        clear hg2 hB2 hHB2 hcb2 F2 hC1
        have hPq := hP.frame F3 hf1 hf2
        have c1 := hPq.fd.cell (o := 1) (by omega)
        have c2 := hPq.fd.cell (o := 2) (by omega)
        have c3 := hPq.fd.cell (o := 3) (by omega)
        have c4 := hPq.fd.cell (o := 4) (by omega)
        simp only [fdCell] at c1 c2 c3 c4
        have lfq := hPq.fd.lt
        have lpq : pb < _ := hPq.pc.choose_spec.1.lt
        have lcq := hcb3.lt
        have lbq := hB3.lt
        have hl2n : l2.length = l1.length + pw (ps.take k) cs[i] := by rw [hl2, List.length_append, flat_len]
        have Hl2 : Hid _ := hl2
        clear hl2
        have kb : (k : Int) ≤ 32 := by omega
        by_cases hk : k < ps.length
        · have hK : decide ((k : Int) < (ps.length : Nat)) = true := decide_eq_true (by omega)
          have p0 := hPq.cells hk (j := 0) (by omega)
          have p1 := hPq.cells hk (j := 1) (by omega)
          have p2 := hPq.cells hk (j := 2) (by omega)
          simp only [pcCell, Nat.add_zero] at p0 p1 p2
          have hpk := Hok.out ps[k] (List.getElem_mem hk)
          have hpin := Hin.out ps[k] (List.getElem_mem hk)
          have hmono : pw (ps.take k) cs[i] + wdP ps[k] cs[i] ≤ pw ps cs[i] := by
            rw [← pw_take ps cs[i] k hk]
            have e : pw ps cs[i] = pw (ps.take (k + 1)) cs[i] + pw (ps.drop (k + 1)) cs[i] := by
              unfold pw
              rw [← List.sum_append, ← List.map_append, List.take_append_drop]
            omega
          have hat : l2.length + wdP ps[k] cs[i] ≤ len := by omega
          have hnew : ∀ L, L = l2 ++ pcB t s cs[i] ps[k] → L = l1 ++ (ps.take (k + 1)).flatMap (pcB t s cs[i]) := fun L hL => by
            rw [hL, flat_take t s cs[i] ps k hk, Hl2.out, List.append_assoc]
          have Hnew : Hid _ := hnew
          have Hl2n : Hid _ := hl2n
          clear hmono hnew hl2n
          by_cases hgn : ps[k].g < 0
          · have hT : decide (ps[k].g < 0) = true := decide_eq_true hgn
            obtain ⟨r1, r2, r3⟩ := hpk.run hgn
            have hhi := hpin hgn
            have hwd : wdP ps[k] cs[i] = ps[k].hi - ps[k].lo := by unfold wdP; rw [if_pos hgn]
            have hpb : pcB t s cs[i] ps[k] = bytes t ps[k].lo (ps[k].hi - ps[k].lo) := by unfold pcB; rw [if_pos hgn]
            have hBp := hB3.frame ((Fr.refl (fun _ => False) _).alloc (.cells #[.int .i64 (ps[k].lo : Nat), .int .i64 (ps[k].hi : Nat), .int .i64 ps[k].g] 84)) (fun h => h)
            have hcp := hcb3.frame ((Fr.refl (fun _ => False) _).alloc (.cells #[.int .i64 (ps[k].lo : Nat), .int .i64 (ps[k].hi : Nat), .int .i64 ps[k].g] 84)) (fun h => h)
            have FP := F3.alloc (.cells #[.int .i64 (ps[k].lo : Nat), .int .i64 (ps[k].hi : Nat), .int .i64 ps[k].g] 84)
            have Hpb : Hid _ := hpb
            have Hwd : Hid _ := hwd
            rw [hwd] at hat
            clear hwd hpb hgn r1
            go_wp2_with fail
            refine (lay_any (cap := cap) hBp hlen t l2.length ps[k].lo ps[k].hi (by omega) hhi hat (by omega)).mono ?_
            rintro v w5 ⟨rfl, hB5, f5⟩
            have hHB5 := hHB3.lay t ps[k].lo (ps[k].hi - ps[k].lo)
            have hn5 : (l2 ++ bytes t ps[k].lo (ps[k].hi - ps[k].lo)).length = l2.length + (ps[k].hi - ps[k].lo) := by rw [List.length_append, bytes_len]
            go_wp2_with fail
            go_roundg (gk - 1)
            case measure => omega
            case rel => exact ⟨k + 1, l2 ++ bytes t ps[k].lo (ps[k].hi - ps[k].lo), by rw [hn5]; simp, by simp, by omega, Hnew.out _ (by rw [Hpb.out]), ⟨_, hB5, hHB5⟩, hcp.frame f5 (by omega), FP.trans f5 (fun _ _ h => h)⟩
          · obtain ⟨h1, h2, h3⟩ := hpk.grp (by omega)
            rcases (show ps[k].g = 0 ∨ ps[k].g = 1 ∨ ps[k].g = 2 ∨ ps[k].g = 3 by omega) with hg4 | hg4 | hg4 | hg4
            · have hpe : ps[k] = ⟨0, 0, 0⟩ := by
                rcases hps : ps[k] with ⟨lo, hi, gg⟩
                rw [hps] at h2 h3 hg4
                simp only at h2 h3 hg4
                rw [h2, h3, hg4]
              have hc := Q4.out 0 (by omega)
              simp only [Nat.reduceMul, Nat.reduceAdd] at hc
              have hwd : wdP ps[k] cs[i] = if cs[i] 0 < 0 then 0 else (cs[i] 1 - cs[i] 0).toNat := by rw [hpe]; rfl
              have hpb : pcB t s cs[i] ps[k] = bytes s (cs[i] 0).toNat (wdP ps[k] cs[i]) := by
                unfold pcB
                rw [if_neg (by omega), hpe]
                rfl
              have hx1 : -1 ≤ cs[i] 0 := by omega
              have hx2 : cs[i] 0 ≤ 256 := by omega
              have hpk' : PcOk ⟨0, 0, 0⟩ := hpe ▸ hpk
              rw [hpe] at p0 p1 p2
              simp only [Int.cast_ofNat_Int] at p0 p1 p2
              have hBp := hB3.frame ((Fr.refl (fun _ => False) _).alloc (.cells #[.int .i64 0, .int .i64 0, .int .i64 0] 84)) (fun h => h)
              have hcp := hcb3.frame ((Fr.refl (fun _ => False) _).alloc (.cells #[.int .i64 0, .int .i64 0, .int .i64 0] 84)) (fun h => h)
              have hpp : Blk (wr.alloc (.cells #[.int .i64 0, .int .i64 0, .int .i64 0] 84)) wr.heap.size 3 (pcCell ⟨0, 0, 0⟩) := pcBk wr ⟨0, 0, 0⟩
              have FP := F3.alloc (.cells #[.int .i64 0, .int .i64 0, .int .i64 0] 84)
              have hC0 := hcb3.cell (o := 0) (by omega)
              have hC1 := hcb3.cell (o := 1) (by omega)
              have hC2 := hcb3.cell (o := 2) (by omega)
              have hC3 := hcb3.cell (o := 3) (by omega)
              have hC4 := hcb3.cell (o := 4) (by omega)
              have hC5 := hcb3.cell (o := 5) (by omega)
              have hC6 := hcb3.cell (o := 6) (by omega)
              have hC7 := hcb3.cell (o := 7) (by omega)
              have Hpb : Hid _ := hpb
              have Hc : Hid _ := hc
              have Hwd : Hid _ := hwd
              have Hpe : Hid _ := hpe
              have Hpk : Hid _ := hpk'
              clear hpb hc hwd hpe hpk' hpk hpin hgn h2 h3 hg4
              go_wp2_with fail
              refine (width_any ⟨0, 0, 0⟩ cs[i] 256 (by omega) Hpk.out (Hcap.out _ Q4.out) _).mono ?_
              rintro v w5 ⟨rfl, f5⟩
              rw [← Hpe.out]
              have hB5 := hBp.frame f5 (fun h => h)
              have hcp5 := hcp.frame f5 (fun h => h)
              have hpp5 := hpp.frame f5 (fun h => h)
              have F5 := FP.trans f5 (fun _ _ h => h.elim)
              clear hC0 hC1 hC2 hC3 hC4 hC5 hC6 hC7 p0 p1 p2 c1 c2 c3 c4
              have g2 := hpp5.cell (o := 2) (by omega)
              simp only [pcCell] at g2
              have hX := hcp5.cell (o := 0) (by omega)
              have lp5 := hpp5.lt
              have lc5 := hcp5.lt
              rcases Hc.out with ⟨u1, u2⟩ | ⟨u1, u2, u3⟩
              · have hw0 : wdP ps[k] cs[i] = 0 := by rw [Hwd.out, if_pos (by omega)]
                rw [hw0]
                have HU : Hid _ := u1
                have HW : Hid _ := hw0
                clear u1 u2 hw0
                go_wp2_with fail
                refine wp_region_text (by kernel_rfl) (by kernel_rfl) ?_
                go_wp2_with fail
                refine (lay_none (cap := cap) s l2.length (cs[i] 0)).mono ?_
                rintro v w6 ⟨rfl, rfl⟩
                go_wp2_with fail
                refine ⟨by kernel_rfl, ?_⟩
                go_wp2_with fail
                go_roundg (gk - 1)
                case measure => omega
                case rel => exact ⟨k + 1, l2, rfl, by simp, by omega, Hnew.out _ (by rw [Hpb.out, HW.out]; simp [bytes]), ⟨_, hB5.drew, hHB3⟩, hcp5.drew, F5.drew⟩
              · obtain ⟨x, hx⟩ : ∃ x : Nat, cs[i] 0 = x := ⟨(cs[i] 0).toNat, by omega⟩
                obtain ⟨d, hd⟩ : ∃ d : Nat, d = wdP ps[k] cs[i] := ⟨_, rfl⟩
                have hdx : x + d ≤ s.size := by
                  rw [hd, Hwd.out, if_neg (by omega)]
                  omega
                rw [← hd] at hat ⊢
                have hdb : (d : Int) ≤ 256 := by omega
                have hcall := lay_any (cap := cap) hB5.drew hlen s l2.length x (x + d) (by omega) hdx (by omega) (by omega)
                have e2 : ((x + d : Nat) : Int) = cs[i] 0 + (d : Nat) := by omega
                rw [e2, ← hx] at hcall
                have e3 : l2.length + (x + d - x) = l2.length + d := by omega
                rw [e3, show x + d - x = d by omega] at hcall
                have Hx : Hid _ := hx
                have Hd : Hid _ := hd
                have Hcall : Hid _ := hcall
                clear hx hd hcall e2 e3 u1 u2 u3
                go_wp2_with fail
                refine wp_region_text (by kernel_rfl) (by kernel_rfl) ?_
                go_wp2_with fail
                refine Calls.mono Hcall.out ?_
                rintro v w6 ⟨rfl, hB6, f6⟩
                have hHB6 := hHB3.lay s x d
                have hn6 : (l2 ++ bytes s x d).length = l2.length + d := by rw [List.length_append, bytes_len]
                go_wp2_with fail
                refine ⟨by kernel_rfl, ?_⟩
                go_wp2_with fail
                go_roundg (gk - 1)
                case measure => omega
                case rel => exact ⟨k + 1, l2 ++ bytes s x d, by rw [hn6]; simp, by simp, by omega, Hnew.out _ (by rw [Hpb.out, ← Hd.out, Hx.out, Int.toNat_natCast]), ⟨_, hB6, hHB6⟩, (hcp5.drew).frame f6 (by omega), (F5.drew).trans f6 (fun _ _ h => h)⟩
            · have hpe : ps[k] = ⟨0, 0, 1⟩ := by
                rcases hps : ps[k] with ⟨lo, hi, gg⟩
                rw [hps] at h2 h3 hg4
                simp only at h2 h3 hg4
                rw [h2, h3, hg4]
              have hc := Q4.out 1 (by omega)
              simp only [Nat.reduceMul, Nat.reduceAdd] at hc
              have hwd : wdP ps[k] cs[i] = if cs[i] 2 < 0 then 0 else (cs[i] 3 - cs[i] 2).toNat := by rw [hpe]; rfl
              have hpb : pcB t s cs[i] ps[k] = bytes s (cs[i] 2).toNat (wdP ps[k] cs[i]) := by
                unfold pcB
                rw [if_neg (by omega), hpe]
                rfl
              have hx1 : -1 ≤ cs[i] 2 := by omega
              have hx2 : cs[i] 2 ≤ 256 := by omega
              have hpk' : PcOk ⟨0, 0, 1⟩ := hpe ▸ hpk
              rw [hpe] at p0 p1 p2
              simp only [Int.cast_ofNat_Int] at p0 p1 p2
              have hBp := hB3.frame ((Fr.refl (fun _ => False) _).alloc (.cells #[.int .i64 0, .int .i64 0, .int .i64 1] 84)) (fun h => h)
              have hcp := hcb3.frame ((Fr.refl (fun _ => False) _).alloc (.cells #[.int .i64 0, .int .i64 0, .int .i64 1] 84)) (fun h => h)
              have hpp : Blk (wr.alloc (.cells #[.int .i64 0, .int .i64 0, .int .i64 1] 84)) wr.heap.size 3 (pcCell ⟨0, 0, 1⟩) := pcBk wr ⟨0, 0, 1⟩
              have FP := F3.alloc (.cells #[.int .i64 0, .int .i64 0, .int .i64 1] 84)
              have hC0 := hcb3.cell (o := 0) (by omega)
              have hC1 := hcb3.cell (o := 1) (by omega)
              have hC2 := hcb3.cell (o := 2) (by omega)
              have hC3 := hcb3.cell (o := 3) (by omega)
              have hC4 := hcb3.cell (o := 4) (by omega)
              have hC5 := hcb3.cell (o := 5) (by omega)
              have hC6 := hcb3.cell (o := 6) (by omega)
              have hC7 := hcb3.cell (o := 7) (by omega)
              have Hpb : Hid _ := hpb
              have Hc : Hid _ := hc
              have Hwd : Hid _ := hwd
              have Hpe : Hid _ := hpe
              have Hpk : Hid _ := hpk'
              clear hpb hc hwd hpe hpk' hpk hpin hgn h2 h3 hg4
              go_wp2_with fail
              refine (width_any ⟨0, 0, 1⟩ cs[i] 256 (by omega) Hpk.out (Hcap.out _ Q4.out) _).mono ?_
              rintro v w5 ⟨rfl, f5⟩
              rw [← Hpe.out]
              have hB5 := hBp.frame f5 (fun h => h)
              have hcp5 := hcp.frame f5 (fun h => h)
              have hpp5 := hpp.frame f5 (fun h => h)
              have F5 := FP.trans f5 (fun _ _ h => h.elim)
              clear hC0 hC1 hC2 hC3 hC4 hC5 hC6 hC7 p0 p1 p2 c1 c2 c3 c4
              have g2 := hpp5.cell (o := 2) (by omega)
              simp only [pcCell] at g2
              have hX := hcp5.cell (o := 2) (by omega)
              have lp5 := hpp5.lt
              have lc5 := hcp5.lt
              rcases Hc.out with ⟨u1, u2⟩ | ⟨u1, u2, u3⟩
              · have hw0 : wdP ps[k] cs[i] = 0 := by rw [Hwd.out, if_pos (by omega)]
                rw [hw0]
                have HU : Hid _ := u1
                have HW : Hid _ := hw0
                clear u1 u2 hw0
                go_wp2_with fail
                refine wp_region_text (by kernel_rfl) (by kernel_rfl) ?_
                go_wp2_with fail
                refine (lay_none (cap := cap) s l2.length (cs[i] 2)).mono ?_
                rintro v w6 ⟨rfl, rfl⟩
                go_wp2_with fail
                refine ⟨by kernel_rfl, ?_⟩
                go_wp2_with fail
                go_roundg (gk - 1)
                case measure => omega
                case rel => exact ⟨k + 1, l2, rfl, by simp, by omega, Hnew.out _ (by rw [Hpb.out, HW.out]; simp [bytes]), ⟨_, hB5.drew, hHB3⟩, hcp5.drew, F5.drew⟩
              · obtain ⟨x, hx⟩ : ∃ x : Nat, cs[i] 2 = x := ⟨(cs[i] 2).toNat, by omega⟩
                obtain ⟨d, hd⟩ : ∃ d : Nat, d = wdP ps[k] cs[i] := ⟨_, rfl⟩
                have hdx : x + d ≤ s.size := by
                  rw [hd, Hwd.out, if_neg (by omega)]
                  omega
                rw [← hd] at hat ⊢
                have hdb : (d : Int) ≤ 256 := by omega
                have hcall := lay_any (cap := cap) hB5.drew hlen s l2.length x (x + d) (by omega) hdx (by omega) (by omega)
                have e2 : ((x + d : Nat) : Int) = cs[i] 2 + (d : Nat) := by omega
                rw [e2, ← hx] at hcall
                have e3 : l2.length + (x + d - x) = l2.length + d := by omega
                rw [e3, show x + d - x = d by omega] at hcall
                have Hx : Hid _ := hx
                have Hd : Hid _ := hd
                have Hcall : Hid _ := hcall
                clear hx hd hcall e2 e3 u1 u2 u3
                go_wp2_with fail
                refine wp_region_text (by kernel_rfl) (by kernel_rfl) ?_
                go_wp2_with fail
                refine Calls.mono Hcall.out ?_
                rintro v w6 ⟨rfl, hB6, f6⟩
                have hHB6 := hHB3.lay s x d
                have hn6 : (l2 ++ bytes s x d).length = l2.length + d := by rw [List.length_append, bytes_len]
                go_wp2_with fail
                refine ⟨by kernel_rfl, ?_⟩
                go_wp2_with fail
                go_roundg (gk - 1)
                case measure => omega
                case rel => exact ⟨k + 1, l2 ++ bytes s x d, by rw [hn6]; simp, by simp, by omega, Hnew.out _ (by rw [Hpb.out, ← Hd.out, Hx.out, Int.toNat_natCast]), ⟨_, hB6, hHB6⟩, (hcp5.drew).frame f6 (by omega), (F5.drew).trans f6 (fun _ _ h => h)⟩
            · have hpe : ps[k] = ⟨0, 0, 2⟩ := by
                rcases hps : ps[k] with ⟨lo, hi, gg⟩
                rw [hps] at h2 h3 hg4
                simp only at h2 h3 hg4
                rw [h2, h3, hg4]
              have hc := Q4.out 2 (by omega)
              simp only [Nat.reduceMul, Nat.reduceAdd] at hc
              have hwd : wdP ps[k] cs[i] = if cs[i] 4 < 0 then 0 else (cs[i] 5 - cs[i] 4).toNat := by rw [hpe]; rfl
              have hpb : pcB t s cs[i] ps[k] = bytes s (cs[i] 4).toNat (wdP ps[k] cs[i]) := by
                unfold pcB
                rw [if_neg (by omega), hpe]
                rfl
              have hx1 : -1 ≤ cs[i] 4 := by omega
              have hx2 : cs[i] 4 ≤ 256 := by omega
              have hpk' : PcOk ⟨0, 0, 2⟩ := hpe ▸ hpk
              rw [hpe] at p0 p1 p2
              simp only [Int.cast_ofNat_Int] at p0 p1 p2
              have hBp := hB3.frame ((Fr.refl (fun _ => False) _).alloc (.cells #[.int .i64 0, .int .i64 0, .int .i64 2] 84)) (fun h => h)
              have hcp := hcb3.frame ((Fr.refl (fun _ => False) _).alloc (.cells #[.int .i64 0, .int .i64 0, .int .i64 2] 84)) (fun h => h)
              have hpp : Blk (wr.alloc (.cells #[.int .i64 0, .int .i64 0, .int .i64 2] 84)) wr.heap.size 3 (pcCell ⟨0, 0, 2⟩) := pcBk wr ⟨0, 0, 2⟩
              have FP := F3.alloc (.cells #[.int .i64 0, .int .i64 0, .int .i64 2] 84)
              have hC0 := hcb3.cell (o := 0) (by omega)
              have hC1 := hcb3.cell (o := 1) (by omega)
              have hC2 := hcb3.cell (o := 2) (by omega)
              have hC3 := hcb3.cell (o := 3) (by omega)
              have hC4 := hcb3.cell (o := 4) (by omega)
              have hC5 := hcb3.cell (o := 5) (by omega)
              have hC6 := hcb3.cell (o := 6) (by omega)
              have hC7 := hcb3.cell (o := 7) (by omega)
              have Hpb : Hid _ := hpb
              have Hc : Hid _ := hc
              have Hwd : Hid _ := hwd
              have Hpe : Hid _ := hpe
              have Hpk : Hid _ := hpk'
              clear hpb hc hwd hpe hpk' hpk hpin hgn h2 h3 hg4
              go_wp2_with fail
              refine (width_any ⟨0, 0, 2⟩ cs[i] 256 (by omega) Hpk.out (Hcap.out _ Q4.out) _).mono ?_
              rintro v w5 ⟨rfl, f5⟩
              rw [← Hpe.out]
              have hB5 := hBp.frame f5 (fun h => h)
              have hcp5 := hcp.frame f5 (fun h => h)
              have hpp5 := hpp.frame f5 (fun h => h)
              have F5 := FP.trans f5 (fun _ _ h => h.elim)
              clear hC0 hC1 hC2 hC3 hC4 hC5 hC6 hC7 p0 p1 p2 c1 c2 c3 c4
              have g2 := hpp5.cell (o := 2) (by omega)
              simp only [pcCell] at g2
              have hX := hcp5.cell (o := 4) (by omega)
              have lp5 := hpp5.lt
              have lc5 := hcp5.lt
              rcases Hc.out with ⟨u1, u2⟩ | ⟨u1, u2, u3⟩
              · have hw0 : wdP ps[k] cs[i] = 0 := by rw [Hwd.out, if_pos (by omega)]
                rw [hw0]
                have HU : Hid _ := u1
                have HW : Hid _ := hw0
                clear u1 u2 hw0
                go_wp2_with fail
                refine wp_region_text (by kernel_rfl) (by kernel_rfl) ?_
                go_wp2_with fail
                refine (lay_none (cap := cap) s l2.length (cs[i] 4)).mono ?_
                rintro v w6 ⟨rfl, rfl⟩
                go_wp2_with fail
                refine ⟨by kernel_rfl, ?_⟩
                go_wp2_with fail
                go_roundg (gk - 1)
                case measure => omega
                case rel => exact ⟨k + 1, l2, rfl, by simp, by omega, Hnew.out _ (by rw [Hpb.out, HW.out]; simp [bytes]), ⟨_, hB5.drew, hHB3⟩, hcp5.drew, F5.drew⟩
              · obtain ⟨x, hx⟩ : ∃ x : Nat, cs[i] 4 = x := ⟨(cs[i] 4).toNat, by omega⟩
                obtain ⟨d, hd⟩ : ∃ d : Nat, d = wdP ps[k] cs[i] := ⟨_, rfl⟩
                have hdx : x + d ≤ s.size := by
                  rw [hd, Hwd.out, if_neg (by omega)]
                  omega
                rw [← hd] at hat ⊢
                have hdb : (d : Int) ≤ 256 := by omega
                have hcall := lay_any (cap := cap) hB5.drew hlen s l2.length x (x + d) (by omega) hdx (by omega) (by omega)
                have e2 : ((x + d : Nat) : Int) = cs[i] 4 + (d : Nat) := by omega
                rw [e2, ← hx] at hcall
                have e3 : l2.length + (x + d - x) = l2.length + d := by omega
                rw [e3, show x + d - x = d by omega] at hcall
                have Hx : Hid _ := hx
                have Hd : Hid _ := hd
                have Hcall : Hid _ := hcall
                clear hx hd hcall e2 e3 u1 u2 u3
                go_wp2_with fail
                refine wp_region_text (by kernel_rfl) (by kernel_rfl) ?_
                go_wp2_with fail
                refine Calls.mono Hcall.out ?_
                rintro v w6 ⟨rfl, hB6, f6⟩
                have hHB6 := hHB3.lay s x d
                have hn6 : (l2 ++ bytes s x d).length = l2.length + d := by rw [List.length_append, bytes_len]
                go_wp2_with fail
                refine ⟨by kernel_rfl, ?_⟩
                go_wp2_with fail
                go_roundg (gk - 1)
                case measure => omega
                case rel => exact ⟨k + 1, l2 ++ bytes s x d, by rw [hn6]; simp, by simp, by omega, Hnew.out _ (by rw [Hpb.out, ← Hd.out, Hx.out, Int.toNat_natCast]), ⟨_, hB6, hHB6⟩, (hcp5.drew).frame f6 (by omega), (F5.drew).trans f6 (fun _ _ h => h)⟩
            · have hpe : ps[k] = ⟨0, 0, 3⟩ := by
                rcases hps : ps[k] with ⟨lo, hi, gg⟩
                rw [hps] at h2 h3 hg4
                simp only at h2 h3 hg4
                rw [h2, h3, hg4]
              have hc := Q4.out 3 (by omega)
              simp only [Nat.reduceMul, Nat.reduceAdd] at hc
              have hwd : wdP ps[k] cs[i] = if cs[i] 6 < 0 then 0 else (cs[i] 7 - cs[i] 6).toNat := by rw [hpe]; rfl
              have hpb : pcB t s cs[i] ps[k] = bytes s (cs[i] 6).toNat (wdP ps[k] cs[i]) := by
                unfold pcB
                rw [if_neg (by omega), hpe]
                rfl
              have hx1 : -1 ≤ cs[i] 6 := by omega
              have hx2 : cs[i] 6 ≤ 256 := by omega
              have hpk' : PcOk ⟨0, 0, 3⟩ := hpe ▸ hpk
              rw [hpe] at p0 p1 p2
              simp only [Int.cast_ofNat_Int] at p0 p1 p2
              have hBp := hB3.frame ((Fr.refl (fun _ => False) _).alloc (.cells #[.int .i64 0, .int .i64 0, .int .i64 3] 84)) (fun h => h)
              have hcp := hcb3.frame ((Fr.refl (fun _ => False) _).alloc (.cells #[.int .i64 0, .int .i64 0, .int .i64 3] 84)) (fun h => h)
              have hpp : Blk (wr.alloc (.cells #[.int .i64 0, .int .i64 0, .int .i64 3] 84)) wr.heap.size 3 (pcCell ⟨0, 0, 3⟩) := pcBk wr ⟨0, 0, 3⟩
              have FP := F3.alloc (.cells #[.int .i64 0, .int .i64 0, .int .i64 3] 84)
              have hC0 := hcb3.cell (o := 0) (by omega)
              have hC1 := hcb3.cell (o := 1) (by omega)
              have hC2 := hcb3.cell (o := 2) (by omega)
              have hC3 := hcb3.cell (o := 3) (by omega)
              have hC4 := hcb3.cell (o := 4) (by omega)
              have hC5 := hcb3.cell (o := 5) (by omega)
              have hC6 := hcb3.cell (o := 6) (by omega)
              have hC7 := hcb3.cell (o := 7) (by omega)
              have Hpb : Hid _ := hpb
              have Hc : Hid _ := hc
              have Hwd : Hid _ := hwd
              have Hpe : Hid _ := hpe
              have Hpk : Hid _ := hpk'
              clear hpb hc hwd hpe hpk' hpk hpin hgn h2 h3 hg4
              go_wp2_with fail
              refine (width_any ⟨0, 0, 3⟩ cs[i] 256 (by omega) Hpk.out (Hcap.out _ Q4.out) _).mono ?_
              rintro v w5 ⟨rfl, f5⟩
              rw [← Hpe.out]
              have hB5 := hBp.frame f5 (fun h => h)
              have hcp5 := hcp.frame f5 (fun h => h)
              have hpp5 := hpp.frame f5 (fun h => h)
              have F5 := FP.trans f5 (fun _ _ h => h.elim)
              clear hC0 hC1 hC2 hC3 hC4 hC5 hC6 hC7 p0 p1 p2 c1 c2 c3 c4
              have g2 := hpp5.cell (o := 2) (by omega)
              simp only [pcCell] at g2
              have hX := hcp5.cell (o := 6) (by omega)
              have lp5 := hpp5.lt
              have lc5 := hcp5.lt
              rcases Hc.out with ⟨u1, u2⟩ | ⟨u1, u2, u3⟩
              · have hw0 : wdP ps[k] cs[i] = 0 := by rw [Hwd.out, if_pos (by omega)]
                rw [hw0]
                have HU : Hid _ := u1
                have HW : Hid _ := hw0
                clear u1 u2 hw0
                go_wp2_with fail
                refine wp_region_text (by kernel_rfl) (by kernel_rfl) ?_
                go_wp2_with fail
                refine (lay_none (cap := cap) s l2.length (cs[i] 6)).mono ?_
                rintro v w6 ⟨rfl, rfl⟩
                go_wp2_with fail
                refine ⟨by kernel_rfl, ?_⟩
                go_wp2_with fail
                go_roundg (gk - 1)
                case measure => omega
                case rel => exact ⟨k + 1, l2, rfl, by simp, by omega, Hnew.out _ (by rw [Hpb.out, HW.out]; simp [bytes]), ⟨_, hB5.drew, hHB3⟩, hcp5.drew, F5.drew⟩
              · obtain ⟨x, hx⟩ : ∃ x : Nat, cs[i] 6 = x := ⟨(cs[i] 6).toNat, by omega⟩
                obtain ⟨d, hd⟩ : ∃ d : Nat, d = wdP ps[k] cs[i] := ⟨_, rfl⟩
                have hdx : x + d ≤ s.size := by
                  rw [hd, Hwd.out, if_neg (by omega)]
                  omega
                rw [← hd] at hat ⊢
                have hdb : (d : Int) ≤ 256 := by omega
                have hcall := lay_any (cap := cap) hB5.drew hlen s l2.length x (x + d) (by omega) hdx (by omega) (by omega)
                have e2 : ((x + d : Nat) : Int) = cs[i] 6 + (d : Nat) := by omega
                rw [e2, ← hx] at hcall
                have e3 : l2.length + (x + d - x) = l2.length + d := by omega
                rw [e3, show x + d - x = d by omega] at hcall
                have Hx : Hid _ := hx
                have Hd : Hid _ := hd
                have Hcall : Hid _ := hcall
                clear hx hd hcall e2 e3 u1 u2 u3
                go_wp2_with fail
                refine wp_region_text (by kernel_rfl) (by kernel_rfl) ?_
                go_wp2_with fail
                refine Calls.mono Hcall.out ?_
                rintro v w6 ⟨rfl, hB6, f6⟩
                have hHB6 := hHB3.lay s x d
                have hn6 : (l2 ++ bytes s x d).length = l2.length + d := by rw [List.length_append, bytes_len]
                go_wp2_with fail
                refine ⟨by kernel_rfl, ?_⟩
                go_wp2_with fail
                go_roundg (gk - 1)
                case measure => omega
                case rel => exact ⟨k + 1, l2 ++ bytes s x d, by rw [hn6]; simp, by simp, by omega, Hnew.out _ (by rw [Hpb.out, ← Hd.out, Hx.out, Int.toNat_natCast]), ⟨_, hB6, hHB6⟩, (hcp5.drew).frame f6 (by omega), (F5.drew).trans f6 (fun _ _ h => h)⟩
        · have hK : decide ((k : Int) < (ps.length : Nat)) = false := decide_eq_false (by omega)
          have hkk : k = ps.length := by omega
          subst hkk
          have h2 := Hl2.out
          rw [List.take_length] at h2
          have H2 : Hid _ := h2
          clear h2 hl2n Hl2
          have hZ : l2 ++ outFrom t s ps (cs.drop (i + 1)) a1 = outFrom t s ps cs 0 := by
            rw [H2.out, ← Z5.out, List.append_assoc]
          have HZ : Hid _ := hZ
          clear hZ
          go_wp2_with fail
          go_roundg (cs.length - (i + 1))
          case measure => omega
          case rel => exact ⟨i + 1, a1, l2, rfl, by rw [Ha1.out], by simp, by omega, ⟨Y5.out, HZ.out, ⟨f3, hB3, hHB3⟩, F3⟩⟩
    · have hI : decide ((i : Int) < (cs.length : Nat)) = false := decide_eq_false (by omega)
      have hii : i = cs.length := by omega
      subst hii
      have hd : cs.drop cs.length = [] := List.drop_length
      rw [hd] at z1 hll
      have Z3 := Z2.out
      rw [hd] at Z3
      simp only [sizeFrom] at hll
      simp only [outFrom] at Z3
      have hla : last ≤ s.size := z1
      clear z1
      go_wp2_with fail
      refine (lay_any (cap := cap) hB hlen s l.length last s.size hla (Nat.le_refl _) (by omega) (by omega)).mono ?_
      rintro v w2 ⟨rfl, hB2, f2⟩
      go_wp2_with fail
      go_end0
      refine ⟨rfl, _, hB2, ?_, hfr.trans f2 (fun _ _ h => h)⟩
      rw [← Z3]
      exact hHB.lay s last (s.size - last)
end Go.Proofs.Qxb6500283aGreat
