/- The law: the observers. -/
import Derived.Test.Qxb6500278aKL1
import Derived.Deep.QuietTactic
import Derived.BigQuiet
namespace Go.Proofs.Qxb6500278a
open Go Go.RowKit

theorem LVi.ki {w : World} {v : Value} {p : List Int} (h : LVi w v p) : KiAt w v p := by
  obtain ⟨b, f, rfl, hb, hf⟩ := h
  exact .inr ⟨b, _, f, rfl, Nat.le_refl _, hb, hf⟩
theorem LVi.frame {S : Nat → Prop} {w w' : World} {v : Value} {p : List Int} (h : LVi w v p) (k : Fr S w w') (hb : ∀ b, isB v b → ¬ S b) : LVi w' v p := by
  obtain ⟨b, f, rfl, hbk, hf⟩ := h
  exact ⟨b, f, rfl, hbk.frame k (hb b ⟨_, _, rfl⟩), hf⟩
theorem flat_le (S : HS) (L : List Int) : ∀ l : List Int, (l.flatMap (objD S L)).length ≤ 2 * wdL S.mem l
  | [] => by simp [wdL]
  | x :: l => by
    have ih := flat_le S L l
    have e : wdL S.mem (x :: l) = wdO S.mem x.toNat + wdL S.mem l := by simp [wdL]
    have e2 : (objD S L x).length = 2 + nrO S.mem x.toNat + niO S.mem x.toNat := by simp [objD, rfO_len, itO_len]; omega
    simp only [List.flatMap_cons, List.length_append]
    rw [e, e2]
    unfold wdO
    omega
theorem HInv.dlen {S : HS} {os : List Int} (hI : HInv S os) : 0 < S.gh.dump.length ∧ S.gh.dump.length ≤ 1000 := by
  have h1 := hI.live
  have h2 := hI.le
  have h3 := hI.top
  have h4 := gh_live S
  have h5 := flat_le S S.gh.ord S.gh.ord
  have h6 : (Go.Proofs.Qxb6500278a.rts S S.top).length = S.top := by simp [Go.Proofs.Qxb6500278a.rts]
  rw [dump_eq]
  simp only [List.length_append, List.length_map, List.length_singleton]
  omega
theorem Rel.dumps {S : HS} {M : MS} (h : Rel S M) : S.gh.dump = M.gh.dump := by
  obtain ⟨P, os, hI, hs, _⟩ := h.all
  exact hs.dump
set_option maxHeartbeats 1000000 in
theorem sameList {w : World} {v1 v2 : Value} {p : List Int} (h1 : KiAt w v1 p) (h2 : KiAt w v2 p) (hl : p.length ≤ 1000) :
    Calls Try.prog 16 #[v1, v2] w fun v w' => v = .returned (.bool true) ∧ Fr (fun _ => False) w w' := by
  have hlb : (p.length : Int) ≤ 1000 := by omega
  by_cases h0 : p = []
  · obtain ⟨a1, k1, rfl, _⟩ := h1.sl
    obtain ⟨a2, k2, rfl, _⟩ := h2.sl
    subst h0
    simp only [List.length_nil]
    go_enter Try.func16, Try.ntmps16
    go_wp2_with fail
    refine wp_loop_rounds 1 ?_
    rw [rounds_succ]
    go_wp2_with fail
    go_ret
    exact ⟨rfl, Fr.refl _ _⟩
  · rcases h1 with ⟨_, hh⟩ | ⟨b1, k1, f1, rfl, hm1, hB1, hf1⟩
    · exact absurd hh h0
    rcases h2 with ⟨_, hh⟩ | ⟨b2, k2, f2, rfl, hm2, hB2, hf2⟩
    · exact absurd hh h0
    clear h0
    go_enter Try.func16, Try.ntmps16
    go_wp2_with fail
    go_loopg [5] p.length (fun g iv wr => ∃ i : Nat, iv = .int .i64 i ∧ i + g = p.length ∧ Fr (fun _ => False) w wr)
    case atStart => exact ⟨0, rfl, by omega, Fr.refl _ _⟩
    case round =>
      obtain ⟨i, rfl, hg, hfr⟩ := hrel
      have hg' : i + gk = p.length := hg
      clear hg
      have ib : (i : Int) ≤ 1000 := by omega
      by_cases hlt : i < p.length
      · have hI : decide ((i : Int) < (p.length : Nat)) = true := decide_eq_true (by omega)
        have hC1 := hB1.frame hfr (fun h => h)
        have hC2 := hB2.frame hfr (fun h => h)
        have a0 := hC1.cell (o := i) (by omega)
        rw [hf1 i hlt] at a0
        have d0 := hC2.cell (o := i) (by omega)
        rw [hf2 i hlt] at d0
        have l1 := hC1.lt
        have l2 := hC2.lt
        go_wp2_with fail
        go_quiet (fail)
        go_wp2_with fail
        go_roundg (gk - 1)
        case measure => omega
        case rel => exact ⟨i + 1, by simp, by omega, hfr.drewN _⟩
      · have hI : decide ((i : Int) < (p.length : Nat)) = false := decide_eq_false (by omega)
        go_wp2_with fail
        go_ret
        exact ⟨rfl, hfr⟩
set_option maxHeartbeats 1000000 in
theorem tidyL {w : World} {v : Value} {p : List Int} (h : LVi w v p) (h0 : 0 < p.length) : Calls Try.prog 15 #[v] w fun e w' => e = .returned (.bool true) ∧ w' = w := by
  obtain ⟨b, f, rfl, hbk, hf⟩ := h
  have hp : (0 : Int) < p.length := by omega
  go_enter Try.func15, Try.ntmps15
  go_wp2_with fail
  go_ret
  exact ⟨rfl, rfl⟩
section
variable {w w1 w2 w' : World} {h m : Nat} {S S' : HS} {M M' : MS} {O : Nat → Prop} {N : Nat} {al : Prop}
set_option maxHeartbeats 1000000 in
theorem sameDump (L : HLaw w h m S M O N) : Calls Try.prog 24 #[.pointer (some ⟨h, 0, none⟩), .pointer (some ⟨m, 0, none⟩)] w fun e w' => e = .returned (.bool true) ∧ Fr (fun _ => False) w w' := by
  obtain ⟨os, hI⟩ := L.inv
  obtain ⟨d0, d1⟩ := hI.dlen
  go_enter Try.func24, Try.ntmps24
  go_wp2_with fail
  refine (dumpF L.hm hI).mono ?_
  rintro v w1 ⟨v1, rfl, D1, _, _, f1⟩
  go_wp2_with fail
  obtain ⟨ov, rv, f, V⟩ := L.mm.same f1
  refine (dumpMF V L.rel.mi L.t24).mono ?_
  rintro v w2 ⟨v2, rfl, D2, _, _, f2⟩
  rw [← L.rel.dumps] at D2
  have D1' := D1.frame f2 (fun _ _ h => h)
  go_wp2_with fail
  refine (tidyL D1' d0).mono ?_
  rintro v w3 ⟨rfl, rfl⟩
  go_wp2_with fail
  refine (sameList D1'.ki D2.ki d1).mono ?_
  rintro v w4 ⟨rfl, f4⟩
  go_wp2_with fail
  go_ret
  exact ⟨rfl, (f1.trans f2 (fun _ _ h => h)).trans f4 (fun _ _ h => h)⟩
set_option maxHeartbeats 1000000 in
theorem probe (L : HLaw w h m S M O N) : Calls Try.prog 25 #[.pointer (some ⟨h, 0, none⟩), .pointer (some ⟨m, 0, none⟩)] w fun e w' => e = .returned (.bool true) ∧ Fr (fun _ => False) w w' := by
  have h24 := L.t24
  have h24i : (M.rt.length : Int) ≤ 24 := by omega
  have hmi := L.rel.mi
  go_enter Try.func25, Try.ntmps25
  go_wp2_with fail
  refine (depthMF L.mm).mono ?_
  rintro v w1 ⟨rfl, hw⟩
  subst w1
  go_wp2_with fail
  go_loopg [6, 7, 8, 9, 10] M.rt.length (fun g iv _ _ _ _ wr => ∃ i : Nat, iv = .int .i64 i ∧ i + g = M.rt.length ∧ Fr (fun _ => False) w wr)
  case atStart => exact ⟨0, rfl, by omega, Fr.refl _ _⟩
  case round =>
    obtain ⟨i, rfl, hg, hfr⟩ := hrel
    have hg' : i + gk = M.rt.length := hg
    clear hg
    have ib : (i : Int) ≤ 24 := by omega
    by_cases hlt : i < M.rt.length
    · have hI : decide ((i : Int) < (M.rt.length : Nat)) = true := decide_eq_true (by omega)
      have L1 := L.same hfr
      go_wp2_with fail
      refine (sameLen L1 i).mono ?_
      rintro v w2 ⟨rfl, f2⟩
      have L2 := L1.same f2
      go_wp2_with fail
      refine (lenMF L2.mm hmi h24 i).mono ?_
      rintro v w3 ⟨rfl, f3⟩
      have L3 := L2.same f3
      have F3 := (hfr.trans f2 (fun _ _ h => h)).trans f3 (fun _ _ h => h)
      have hn : (lenM M i).2.1 ≤ 48 := by
        unfold lenM
        split
        · simp
        · simp only [itM]
          cases hq : M.objs[(atM M i).1.toNat]? with
          | none => simp
          | some o => have := (hmi.sz o (List.mem_of_getElem? hq)).2; simp; omega
      have hn0 : 0 ≤ (lenM M i).2.1 := by
        unfold lenM
        split
        · simp
        · simp
      generalize (lenM M i).1 = q1
      generalize (lenM M i).2.2 = q3
      generalize (lenM M i).2.1 = q2 at hn hn0 ⊢
      obtain ⟨nn, rfl⟩ := Int.eq_ofNat_of_zero_le hn0
      clear hn0 f2 f3 L1 L2
      have g0 := gk
      have hgg : i + gk = M.rt.length := hg'
      go_wp2_with fail
      go_loopg [10] nn (fun g jv wr => ∃ j : Nat, jv = .int .i64 j ∧ j + g = nn ∧ Fr (fun _ => False) w3 wr)
      case atStart => exact ⟨0, rfl, by omega, Fr.refl _ _⟩
      case round =>
        obtain ⟨j, rfl, hj, hf3⟩ := hrel
        have hj' : j + gk = nn := hj
        clear hj
        have jb : (j : Int) ≤ 48 := by omega
        by_cases hjlt : j < nn
        · have hJ : decide ((j : Int) < (nn : Nat)) = true := decide_eq_true (by omega)
          have L4 := L3.same hf3
          go_wp2_with fail
          refine (sameLdInt L4 i j).mono ?_
          rintro v w5 ⟨rfl, rfl⟩
          go_wp2_with fail
          go_roundg (gk - 1)
          case measure => omega
          case rel => exact ⟨j + 1, by simp, by omega, hf3⟩
        · have hJ : decide ((j : Int) < (nn : Nat)) = false := decide_eq_false (by omega)
          go_wp2_with fail
          go_roundg (M.rt.length - (i + 1))
          case measure => omega
          case rel => exact ⟨i + 1, by simp, by omega, F3.trans hf3 (fun _ _ h => h)⟩
    · have hI : decide ((i : Int) < (M.rt.length : Nat)) = false := decide_eq_false (by omega)
      go_wp2_with fail
      go_ret
      exact ⟨rfl, hfr⟩
set_option maxHeartbeats 1000000 in
theorem alike (L : HLaw w h m S M O N) : Calls Try.prog 10 #[.pointer (some ⟨h, 0, none⟩), .pointer (some ⟨m, 0, none⟩)] w fun e w' => e = .returned (.bool true) ∧ Fr (fun _ => False) w w' := by
  obtain ⟨os, hI⟩ := L.inv
  go_enter Try.func10, Try.ntmps10
  go_wp2_with fail
  refine (sameDepth L).mono ?_
  rintro v w1 ⟨rfl, rfl⟩
  go_wp2_with fail
  refine (sameLive L).mono ?_
  rintro v w2 ⟨rfl, f2⟩
  have L2 := L.same f2
  go_wp2_with fail
  refine (sameDump L2).mono ?_
  rintro v w3 ⟨rfl, f3⟩
  have L3 := L2.same f3
  go_wp2_with fail
  refine (probe L3).mono ?_
  rintro v w4 ⟨rfl, f4⟩
  have L4 := L3.same f4
  go_wp2_with fail
  refine (checkHF L4.hm hI).mono ?_
  rintro v w5 ⟨rfl, _, f5⟩
  have L5 := L4.same f5
  go_wp2_with fail
  refine (within L5).mono ?_
  rintro v w6 ⟨rfl, f6⟩
  go_wp2_with fail
  go_ret
  exact ⟨rfl, (((f2.trans f3 (fun _ _ h => h)).trans f4 (fun _ _ h => h)).trans f5 (fun _ _ h => h)).trans f6 (fun _ _ h => h)⟩
def freeN (S : HS) : Int := (S.base : Int) + 48 - S.free
theorem roomW {w : World} {h m : Nat} {S S' : HS} {M : MS} {O : Nat → Prop} {N : Nat} {kind : Int} (L : HLaw w h m S' M O N) (hr : RoomR (kind = 2) S S') (hN : N ≤ 1000000000000000000) (hq : S.turns ≤ N) :
    Calls Try.prog 21 #[.pointer (some ⟨m, 0, none⟩), .int .i64 kind, .int .i64 S.turns, .int .i64 (freeN S), .int .i64 S'.turns, .int .i64 (freeN S')] w fun e w' => e = .returned (.bool true) ∧ Fr (fun _ => False) w w' := by
  have key : (S'.turns = S.turns ∧ freeN S' = freeN S) ∨ (kind = 2 ∧ ((S'.turns = S.turns ∧ freeN S' < freeN S) ∨ (S'.turns = S.turns + 1 ∧ freeN S' = 48 - (S'.gh.live : Int) ∧ (S'.gh.live : Int) ≤ 48))) := by
    have r := L.rel.within
    unfold freeN
    rcases hr with ⟨h1, h2, h3⟩ | ⟨hk, ⟨h1, h2, h3⟩ | ⟨h1, h2⟩⟩
    · exact .inl ⟨h1, by rw [h2, h3]⟩
    · by_cases e : S'.free = S.free
      · exact .inl ⟨h1, by rw [h2, e]⟩
      · exact .inr ⟨hk, .inl ⟨h1, by rw [h2]; omega⟩⟩
    · exact .inr ⟨hk, .inr ⟨h1, by omega, by omega⟩⟩
  clear hr
  have hlv := L.rel.live
  rcases key with ⟨e1, e2⟩ | ⟨rfl, ⟨e1, e2⟩ | ⟨e1, e2, e3⟩⟩
  · rw [e1, e2]
    clear e1 e2 hlv
    generalize freeN S = fr
    go_enter Try.func21, Try.ntmps21
    go_wp2_with fail
    go_ret
    exact ⟨rfl, Fr.refl _ _⟩
  · have hne : (freeN S' == freeN S) = false := by simp; omega
    rw [e1]
    clear e1 hlv
    generalize freeN S = fr at e2 hne ⊢
    generalize freeN S' = fs at e2 hne ⊢
    go_enter Try.func21, Try.ntmps21
    go_wp2_with fail
    go_ret
    exact ⟨rfl, Fr.refl _ _⟩
  · rw [e2]
    have ht : (S'.turns : Int) = (S.turns : Int) + 1 := by omega
    rw [ht]
    have hne : (((S.turns : Int) + 1) == (S.turns : Int)) = false := by simp; omega
    have hb : (S.turns : Int) ≤ 1000000000000000000 := by omega
    clear e1 e2 ht
    go_enter Try.func21, Try.ntmps21
    go_wp2_with fail
    obtain ⟨ov, rv, f, V⟩ := L.mm
    refine (liveMF V L.rel.mi L.t24).mono ?_
    rintro v w2 ⟨rfl, _, f2⟩
    rw [← hlv]
    clear hlv
    generalize S'.gh.live = el at e3 ⊢
    go_wp2_with fail
    go_ret
    exact ⟨rfl, f2⟩
end
end Go.Proofs.Qxb6500278a
