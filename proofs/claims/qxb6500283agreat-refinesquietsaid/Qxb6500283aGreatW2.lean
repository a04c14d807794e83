/- copyRun. -/
import Derived.Test.Qxb6500283aGreatW1
namespace Go.Proofs.Qxb6500283aGreat
open Go Go.RowKit

theorem take_succ_map {α : Type} (f : α → α) (l : List α) (k : Nat) (h : k < l.length) : (l.take (k + 1)).map f = (l.take k).map f ++ [f l[k]] := by
  rw [List.take_succ_eq_append_getElem h, List.map_append]
  rfl
set_option maxRecDepth 100000 in
set_option maxHeartbeats 8000000 in
theorem copyRun_any {w : World} {s x : Nat} {out : List Nd} {ws : List Tk} {rs : List Nat} (h : SM w s x out ws rs) (from_ to : Nat) (hft : from_ ≤ to) (hto : to ≤ out.length) (hcap : out.length + (to - from_) ≤ 31) (hbd : ∀ i (h : i < out.length), from_ ≤ i → i < to → out[i].a ≤ 31 ∧ out[i].b ≤ 31) :
    Calls Tryz.prog 147 #[.pointer (some ⟨s, 0, none⟩), .int .i64 (from_ : Nat), .int .i64 (to : Nat)] w fun v w' => v = .returned (.int .i64 (((out.length + (to - from_) : Nat) : Int) - 1)) ∧ SM w' s x (out ++ ((out.drop from_).take (to - from_)).map (shift (out.length - from_))) ws rs ∧ Fr (fun b => SBld s b) w w' := by
  have h0 := h
  obtain ⟨g, fo, fw, fr, hB, hL, hO, ho, hW, hw, hR, hr⟩ := h
  have c4 := hB.cell (o := 4) (by omega)
  rw [hL.n4] at c4
  have l1 := hB.lt
  have hob : (out.length : Int) ≤ 31 := by omega
  have hfb : (from_ : Int) ≤ 31 := by omega
  have htb : (to : Int) ≤ 31 := by omega
  have Hbd : Hid _ := hbd
  clear hbd
  go_enter Tryz.func147, Tryz.ntmps147
  go_wp2_with fail
  go_loopg [8] (to - from_) (fun gk iv wr => ∃ i : Nat, iv = .int .i64 (i : Nat) ∧ i + gk = to ∧ from_ ≤ i ∧ SM wr s x (out ++ ((out.drop from_).take (i - from_)).map (shift (out.length - from_))) ws rs ∧ Fr (fun b => SBld s b) w wr)
  case atStart => exact ⟨from_, rfl, by omega, Nat.le_refl _, by simpa using h0, Fr.refl _ _⟩
  case round =>
    clear hB hL hO ho hW hw hR hr c4 l1
    obtain ⟨i, rfl, hig, hfi, hSM, hfr⟩ := hrel
    have hig' : i + gk = to := hig
    clear hig
    have hSM' := hSM
    obtain ⟨g', fo', fw', fr', hB', hL', hO', ho', hW', hw', hR', hr'⟩ := hSM'
    have d3 := hB'.cell (o := 3) (by omega)
    rw [hL'.o3] at d3
    have d4 := hB'.cell (o := 4) (by omega)
    rw [hL'.n4] at d4
    have l1 := hB'.lt
    have l3 := hO'.lt
    have hib : (i : Int) ≤ 31 := by omega
    have hlen : (out ++ ((out.drop from_).take (i - from_)).map (shift (out.length - from_))).length = out.length + (i - from_) := by simp; omega
    by_cases hlt : i < to
    · have hid : decide ((i : Int) < to) = true := decide_eq_true (by omega)
      have hib2 : (i : Int) ≤ 30 := by omega
      have hiL : i < (out ++ ((out.drop from_).take (i - from_)).map (shift (out.length - from_))).length := by rw [hlen]; omega
      have hN := ho'.at hO' (by rw [hlen]; omega)
      have hge : (out ++ ((out.drop from_).take (i - from_)).map (shift (out.length - from_)))[i] = out[i] := List.getElem_append_left (by omega)
      have n0 := hN i hiL 0 (by omega)
      have n1 := hN i hiL 1 (by omega)
      have n2 := hN i hiL 2 (by omega)
      have n3 := hN i hiL 3 (by omega)
      have n4 := hN i hiL 4 (by omega)
      have n5 := hN i hiL 5 (by omega)
      have n6 := hN i hiL 6 (by omega)
      have n7 := hN i hiL 7 (by omega)
      have n8 := hN i hiL 8 (by omega)
      have n9 := hN i hiL 9 (by omega)
      have n10 := hN i hiL 10 (by omega)
      rw [hge] at n0 n1 n2 n3 n4 n5 n6 n7 n8 n9 n10
      have hbb := Hbd.out i (by omega) hfi hlt
      have Hst : Hid (out ++ ((out.drop from_).take (i + 1 - from_)).map (shift (out.length - from_)) = (out ++ ((out.drop from_).take (i - from_)).map (shift (out.length - from_))) ++ [shift (out.length - from_) out[i]]) := by
        have hk : i - from_ < (out.drop from_).length := by simp; omega
        have := take_succ_map (shift (out.length - from_)) (out.drop from_) (i - from_) hk
        rw [show i + 1 - from_ = i - from_ + 1 by omega, this, ← List.append_assoc]
        congr 3
        simp
        congr 1
        omega
      have hroom : (out ++ ((out.drop from_).take (i - from_)).map (shift (out.length - from_))).length < 31 := by rw [hlen]; omega
      generalize out[i] = nd at *
      obtain ⟨hba, hbb⟩ := hbb
      simp only [ndCell, Nat.add_zero] at n0 n1 n2 n3 n4 n5 n6 n7 n8 n9 n10
      clear hN hge hiL ho' d4
      by_cases ha : 0 ≤ nd.a
      · have had : decide ((0 : Int) ≤ nd.a) = true := decide_eq_true ha
        by_cases hb : 0 ≤ nd.b
        · have hbdd : decide ((0 : Int) ≤ nd.b) = true := decide_eq_true hb
          have hv : ndV (shift (out.length - from_) nd) = .agg #[.int .i64 nd.kind, .int .i64 (nd.a + ((out.length : Int) - from_)), .int .i64 (nd.b + ((out.length : Int) - from_)), .int .i64 nd.mn, .int .i64 nd.mx, .int .i64 nd.cap, .bool nd.lz, .int .u64 (wd nd.st 0 : Nat), .int .u64 (wd nd.st 1 : Nat), .int .u64 (wd nd.st 2 : Nat), .int .u64 (wd nd.st 3 : Nat)] := by
            have e1 : shiftI (out.length - from_) nd.a = nd.a + ((out.length : Int) - from_) := by unfold shiftI; rw [if_pos ha]; omega
            have e2 : shiftI (out.length - from_) nd.b = nd.b + ((out.length : Int) - from_) := by unfold shiftI; rw [if_pos hb]; omega
            unfold ndV shift
            simp only [e1, e2]
          have hSMA := hSM.idle ((Fr.refl (fun _ => False) wr).alloc (.cells #[.int .i64 nd.kind, .int .i64 (nd.a + ((out.length : Int) - from_)), .int .i64 (nd.b + ((out.length : Int) - from_)), .int .i64 nd.mn, .int .i64 nd.mx, .int .i64 nd.cap, .bool nd.lz, .int .u64 (wd nd.st 0 : Nat), .int .u64 (wd nd.st 1 : Nat), .int .u64 (wd nd.st 2 : Nat), .int .u64 (wd nd.st 3 : Nat)] 97))
          have FA := hfr.alloc (.cells #[.int .i64 nd.kind, .int .i64 (nd.a + ((out.length : Int) - from_)), .int .i64 (nd.b + ((out.length : Int) - from_)), .int .i64 nd.mn, .int .i64 nd.mx, .int .i64 nd.cap, .bool nd.lz, .int .u64 (wd nd.st 0 : Nat), .int .u64 (wd nd.st 1 : Nat), .int .u64 (wd nd.st 2 : Nat), .int .u64 (wd nd.st 3 : Nat)] 97)
          have Hv : Hid _ := hv
          clear hv
          go_wp2_with fail
          rw [← Hv.out]
          refine (addS_any _ hSMA hroom).mono ?_
          rintro v w3 ⟨rfl, hSM3, f3⟩
          go_wp2_with fail
          go_roundg (gk - 1)
          case measure => omega
          case rel => exact ⟨i + 1, by simp, by omega, by omega, by rw [Hst.out]; exact hSM3, FA.trans f3 (fun _ _ h => h)⟩
        · have hbdd : decide ((0 : Int) ≤ nd.b) = false := decide_eq_false hb
          have hv : ndV (shift (out.length - from_) nd) = .agg #[.int .i64 nd.kind, .int .i64 (nd.a + ((out.length : Int) - from_)), .int .i64 (nd.b), .int .i64 nd.mn, .int .i64 nd.mx, .int .i64 nd.cap, .bool nd.lz, .int .u64 (wd nd.st 0 : Nat), .int .u64 (wd nd.st 1 : Nat), .int .u64 (wd nd.st 2 : Nat), .int .u64 (wd nd.st 3 : Nat)] := by
            have e1 : shiftI (out.length - from_) nd.a = nd.a + ((out.length : Int) - from_) := by unfold shiftI; rw [if_pos ha]; omega
            have e2 : shiftI (out.length - from_) nd.b = nd.b := by unfold shiftI; rw [if_neg (by omega)]
            unfold ndV shift
            simp only [e1, e2]
          have hSMA := hSM.idle ((Fr.refl (fun _ => False) wr).alloc (.cells #[.int .i64 nd.kind, .int .i64 (nd.a + ((out.length : Int) - from_)), .int .i64 (nd.b), .int .i64 nd.mn, .int .i64 nd.mx, .int .i64 nd.cap, .bool nd.lz, .int .u64 (wd nd.st 0 : Nat), .int .u64 (wd nd.st 1 : Nat), .int .u64 (wd nd.st 2 : Nat), .int .u64 (wd nd.st 3 : Nat)] 97))
          have FA := hfr.alloc (.cells #[.int .i64 nd.kind, .int .i64 (nd.a + ((out.length : Int) - from_)), .int .i64 (nd.b), .int .i64 nd.mn, .int .i64 nd.mx, .int .i64 nd.cap, .bool nd.lz, .int .u64 (wd nd.st 0 : Nat), .int .u64 (wd nd.st 1 : Nat), .int .u64 (wd nd.st 2 : Nat), .int .u64 (wd nd.st 3 : Nat)] 97)
          have Hv : Hid _ := hv
          clear hv
          go_wp2_with fail
          rw [← Hv.out]
          refine (addS_any _ hSMA hroom).mono ?_
          rintro v w3 ⟨rfl, hSM3, f3⟩
          go_wp2_with fail
          go_roundg (gk - 1)
          case measure => omega
          case rel => exact ⟨i + 1, by simp, by omega, by omega, by rw [Hst.out]; exact hSM3, FA.trans f3 (fun _ _ h => h)⟩
      · have had : decide ((0 : Int) ≤ nd.a) = false := decide_eq_false ha
        by_cases hb : 0 ≤ nd.b
        · have hbdd : decide ((0 : Int) ≤ nd.b) = true := decide_eq_true hb
          have hv : ndV (shift (out.length - from_) nd) = .agg #[.int .i64 nd.kind, .int .i64 (nd.a), .int .i64 (nd.b + ((out.length : Int) - from_)), .int .i64 nd.mn, .int .i64 nd.mx, .int .i64 nd.cap, .bool nd.lz, .int .u64 (wd nd.st 0 : Nat), .int .u64 (wd nd.st 1 : Nat), .int .u64 (wd nd.st 2 : Nat), .int .u64 (wd nd.st 3 : Nat)] := by
            have e1 : shiftI (out.length - from_) nd.a = nd.a := by unfold shiftI; rw [if_neg (by omega)]
            have e2 : shiftI (out.length - from_) nd.b = nd.b + ((out.length : Int) - from_) := by unfold shiftI; rw [if_pos hb]; omega
            unfold ndV shift
            simp only [e1, e2]
          have hSMA := hSM.idle ((Fr.refl (fun _ => False) wr).alloc (.cells #[.int .i64 nd.kind, .int .i64 (nd.a), .int .i64 (nd.b + ((out.length : Int) - from_)), .int .i64 nd.mn, .int .i64 nd.mx, .int .i64 nd.cap, .bool nd.lz, .int .u64 (wd nd.st 0 : Nat), .int .u64 (wd nd.st 1 : Nat), .int .u64 (wd nd.st 2 : Nat), .int .u64 (wd nd.st 3 : Nat)] 97))
          have FA := hfr.alloc (.cells #[.int .i64 nd.kind, .int .i64 (nd.a), .int .i64 (nd.b + ((out.length : Int) - from_)), .int .i64 nd.mn, .int .i64 nd.mx, .int .i64 nd.cap, .bool nd.lz, .int .u64 (wd nd.st 0 : Nat), .int .u64 (wd nd.st 1 : Nat), .int .u64 (wd nd.st 2 : Nat), .int .u64 (wd nd.st 3 : Nat)] 97)
          have Hv : Hid _ := hv
          clear hv
          go_wp2_with fail
          rw [← Hv.out]
          refine (addS_any _ hSMA hroom).mono ?_
          rintro v w3 ⟨rfl, hSM3, f3⟩
          go_wp2_with fail
          go_roundg (gk - 1)
          case measure => omega
          case rel => exact ⟨i + 1, by simp, by omega, by omega, by rw [Hst.out]; exact hSM3, FA.trans f3 (fun _ _ h => h)⟩
        · have hbdd : decide ((0 : Int) ≤ nd.b) = false := decide_eq_false hb
          have hv : ndV (shift (out.length - from_) nd) = .agg #[.int .i64 nd.kind, .int .i64 (nd.a), .int .i64 (nd.b), .int .i64 nd.mn, .int .i64 nd.mx, .int .i64 nd.cap, .bool nd.lz, .int .u64 (wd nd.st 0 : Nat), .int .u64 (wd nd.st 1 : Nat), .int .u64 (wd nd.st 2 : Nat), .int .u64 (wd nd.st 3 : Nat)] := by
            have e1 : shiftI (out.length - from_) nd.a = nd.a := by unfold shiftI; rw [if_neg (by omega)]
            have e2 : shiftI (out.length - from_) nd.b = nd.b := by unfold shiftI; rw [if_neg (by omega)]
            unfold ndV shift
            simp only [e1, e2]
          have hSMA := hSM.idle ((Fr.refl (fun _ => False) wr).alloc (.cells #[.int .i64 nd.kind, .int .i64 (nd.a), .int .i64 (nd.b), .int .i64 nd.mn, .int .i64 nd.mx, .int .i64 nd.cap, .bool nd.lz, .int .u64 (wd nd.st 0 : Nat), .int .u64 (wd nd.st 1 : Nat), .int .u64 (wd nd.st 2 : Nat), .int .u64 (wd nd.st 3 : Nat)] 97))
          have FA := hfr.alloc (.cells #[.int .i64 nd.kind, .int .i64 (nd.a), .int .i64 (nd.b), .int .i64 nd.mn, .int .i64 nd.mx, .int .i64 nd.cap, .bool nd.lz, .int .u64 (wd nd.st 0 : Nat), .int .u64 (wd nd.st 1 : Nat), .int .u64 (wd nd.st 2 : Nat), .int .u64 (wd nd.st 3 : Nat)] 97)
          have Hv : Hid _ := hv
          clear hv
          go_wp2_with fail
          rw [← Hv.out]
          refine (addS_any _ hSMA hroom).mono ?_
          rintro v w3 ⟨rfl, hSM3, f3⟩
          go_wp2_with fail
          go_roundg (gk - 1)
          case measure => omega
          case rel => exact ⟨i + 1, by simp, by omega, by omega, by rw [Hst.out]; exact hSM3, FA.trans f3 (fun _ _ h => h)⟩
    · have hid : decide ((i : Int) < to) = false := decide_eq_false (by omega)
      obtain rfl : i = to := by omega
      rw [hlen] at d4
      have hlb : ((out.length + (i - from_) : Nat) : Int) ≤ 31 := by omega
      obtain ⟨n, hn⟩ : ∃ n, n = out.length + (i - from_) := ⟨_, rfl⟩
      rw [← hn] at d4 hlb
      have Hn : Hid _ := hn
      clear hn hlen
      go_wp2_with fail
      go_ret
      exact ⟨by rw [← Hn.out]; rfl, hSM, hfr⟩
end Go.Proofs.Qxb6500283aGreat
