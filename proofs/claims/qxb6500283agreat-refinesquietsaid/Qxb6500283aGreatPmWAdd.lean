import Derived.Test.Qxb6500283aGreatPmPikeS
import Derived.Deep.LoopGhost
namespace Go.Proofs.Qxb6500283aGreat
open Go Go.RowKit

theorem follow_any {w : World} {x : Nat} {s : PS} (h : PRep w x s) (p : List In) (pb cap : Nat) (hok : OkProg p) (hp : PAt w pb p) (hpb : ¬ pOwn x pb) (size : Int) (W pc n sp : Nat) (at_ : Int) (hW : W < 2) (hpc : pc < p.length)
    (hn : s.f (W * 130 + 128) = n) (hlt : n < 64) (hsp : s.f 261 = sp) (hsp' : sp < 64) :
    Calls Tryz.prog 93 #[.pointer (some ⟨x, 0, none⟩), .slice (some ⟨pb, 0, none⟩) p.length cap, .int .i64 size, .int .i64 W, .int .i64 pc, .int .i64 at_] w fun e w' =>
      e = .returned (.tuple #[]) ∧ PRep w' x (followS p size W pc at_ s) ∧ Fr (pOwn x) w w' := by
  have hi := hok.all pc hpc
  have hlen := hok.max
  unfold okIn at hi
  by_cases o1 : p[pc].op = 1
  · exact follow_split h p pb cap hp hpb size W pc n sp at_ hW hpc hlen hn hlt hsp hsp' o1
  by_cases o2 : p[pc].op = 2
  · exact follow_jmp h p pb cap hp hpb size W pc n sp at_ hW hpc hlen hn hlt hsp hsp' o2
  by_cases o3 : p[pc].op = 3
  · exact follow_save h p pb cap hp hpb size W pc n sp at_ hW hpc hlen hn hlt hsp hsp' o3 p[pc].x.toNat (by omega) (by omega)
  by_cases o4 : p[pc].op = 4
  · by_cases ha : at_ = 0
    · exact follow_begin_yes h p pb cap hp hpb size W pc n sp at_ hW hpc hlen hn hlt hsp hsp' o4 ha
    · exact follow_begin_no h p pb cap hp hpb size W pc n sp at_ hW hpc hlen hn hlt hsp hsp' o4 ha
  by_cases o5 : p[pc].op = 5
  · by_cases ha : at_ = size
    · exact follow_end_yes h p pb cap hp hpb size W pc n sp at_ hW hpc hlen hn hlt hsp hsp' o5 ha
    · exact follow_end_no h p pb cap hp hpb size W pc n sp at_ hW hpc hlen hn hlt hsp hsp' o5 ha
  exact follow_wait h p pb cap hp hpb size W pc n sp at_ hW hpc hlen hn hlt hsp hsp' ⟨o1, o2, o3, o4, o5⟩

def addSM (p : List In) (size : Int) (W pc : Nat) (at_ : Int) (s : PS) : PS := addRun p size W at_ 300 (pushS { s with f := upd s.f 261 0 } pc (-1) 0)

theorem AInv.start {p : List In} {W pc : Nat} {s : PS} (hok : OkProg p) (hW : W < 2) (hl : LInv s.f W p.length) (hpc : pc < p.length) :
    AInv p W (pushS { s with f := upd s.f 261 0 } pc (-1) 0) ∧ amu W (pushS { s with f := upd s.f 261 0 } pc (-1) 0) ≤ 300 := by
  have hm := hok.max
  have n0 := hl.n0
  have n1 := hl.n1
  have l1 : LInv (upd s.f 261 0) W p.length := hl.congr hm fun o h1 h2 => by simp [upd, show o ≠ 261 by omega]
  have s1 : SInv p.length 0 { s with f := upd s.f 261 0 } := ⟨by simp [upd], by simp [upd], fun j hj => by simp [upd] at hj; omega⟩
  have np : (pushS { s with f := upd s.f 261 0 } pc (-1) 0).f (W * 130 + 128) = s.f (W * 130 + 128) := by
    rw [pushS_f _ _ _ _ _ (by omega)]; simp [upd, show W * 130 + 128 ≠ 261 by omega]
  refine ⟨⟨l1.congr hm fun o h1 h2 => pushS_f _ _ _ _ o (by omega), (s1.push 0 (.inl ⟨rfl, by omega, by omega⟩)).of rfl rfl (by rw [np]; omega)⟩, ?_⟩
  simp only [amu, np, pushS_sp]
  simp [upd]; omega

theorem addTurn_steps {p : List In} {W : Nat} {s : PS} {size at_ : Int} (hp : OkProg p) (hW : W < 2) (h : AInv p W s) (hpos : 0 < s.f 261) : (addTurn p size W at_ s).f 265 = s.f 265 + 1 := by
  have hm := hp.max
  have n0 := h.l.n0
  have n1 := h.l.n1
  obtain ⟨j, hj⟩ : ∃ j : Nat, s.f 261 = (j : Int) + 1 := ⟨(s.f 261 - 1).toNat, by omega⟩
  have hj' : (s.f 261 - 1).toNat = j := by omega
  have hfr := h.s.fr j (by omega)
  unfold addTurn
  simp only [hj']
  have e : upd (upd s.f 265 (s.f 265 + 1)) 261 (s.f 261 - 1) 265 = s.f 265 + 1 := by simp [upd]
  have n128 : upd (upd s.f 265 (s.f 265 + 1)) 261 (s.f 261 - 1) (W * 130 + 128) = s.f (W * 130 + 128) := by simp [upd, show W * 130 + 128 ≠ 261 by omega, show W * 130 + 128 ≠ 265 by omega]
  split
  · exact e
  · split
    · exact e
    · have hpc' : (s.k (j * 3)).toNat < p.length := by unfold frOK at hfr; omega
      have e2 : putF (upd (upd s.f 265 (s.f 265 + 1)) 261 (s.f 261 - 1)) W (s.k (j * 3)).toNat 265 = s.f 265 + 1 := by
        rw [putF_other _ _ _ _ (by omega) (by omega) (by rw [n128]; omega)]; exact e
      refine followS_cases p size W (s.k (j * 3)).toNat at_ _ hp hpc' (fun t => t.f 265 = s.f 265 + 1) ?_ ?_ ?_ e2 e2
      · intro a _ _; rw [pushS_f _ _ _ _ _ (by omega)]; exact e2
      · intro a b _ _ _ _; rw [pushS_f _ _ _ _ _ (by omega), pushS_f _ _ _ _ _ (by omega)]; exact e2
      · intro k _ _ _
        rw [pushS_f _ _ _ _ _ (by omega)]
        exact (pushS_f { s with f := putF (upd (upd s.f 265 (s.f 265 + 1)) 261 (s.f 261 - 1)) W (s.k (j * 3)).toNat } 0 k (s.r k) 265 (by omega)).trans e2

set_option maxHeartbeats 1000000 in
theorem add_any {w : World} {x : Nat} {s : PS} (h : PRep w x s) (p : List In) (pb cap : Nat) (hok : OkProg p) (hp : PAt w pb p) (hpb : ¬ pOwn x pb) (size : Int) (W pc : Nat) (at_ : Int) (hW : W < 2) (hpc : pc < p.length)
    (hl : LInv s.f W p.length) (ht0 : 0 ≤ s.f 265) (ht1 : s.f 265 ≤ 1000000000) :
    Calls Tryz.prog 71 #[.pointer (some ⟨x, 0, none⟩), .slice (some ⟨pb, 0, none⟩) p.length cap, .int .i64 size, .int .i64 W, .int .i64 pc, .int .i64 at_] w fun e w' =>
      e = .returned (.tuple #[]) ∧ PRep w' x (addSM p size W pc at_ s) ∧ Fr (pOwn x) w w' := by
  obtain ⟨st1, st2⟩ := AInv.start (s := s) hok hW hl hpc
  obtain ⟨s0, hs0⟩ : ∃ s0, s0 = pushS { s with f := upd s.f 261 0 } pc (-1) 0 := ⟨_, rfl⟩
  unfold addSM
  rw [← hs0] at st1 st2 ⊢
  have Hs0 : Hid (s0 = pushS { s with f := upd s.f 261 0 } pc (-1) 0) := hs0
  clear hs0
  have c1 : w.cell? ⟨x, 261, none⟩ = some (.int .i64 (s.f 261)) := h.int (by omega) (by unfold intCell; omega)
  have g1 := h.main.frozen 261
  go_enter Tryz.func71, Tryz.ntmps71
  go_wp2_with fail
  refine (pushM_any (h.setF 261 0 (by unfold intCell; omega)) 0 _ _ _ (by simp [upd]) (by omega)).mono ?_
  rintro e w1 ⟨rfl, h1, f1⟩
  have f1' : Fr (pOwn x) w w1 := ((Fr.refl _ _).pset0 _ _).trans f1 (fun _ _ h => h)
  clear f1 c1 g1
  go_wp2_with fail
  rw [← Hs0.out] at h1
  go_loopg [] 300 (fun k wr => ∃ s', AInv p W s' ∧ 0 ≤ s'.f 265 ∧ s'.f 265 + k ≤ 1000000300 ∧ amu W s' ≤ k ∧ addRun p size W at_ 300 s0 = addRun p size W at_ k s' ∧ PRep wr x s' ∧ Fr (pOwn x) w wr)
  case atStart =>
    have e5 : s0.f 265 = s.f 265 := by rw [Hs0.out, pushS_f _ _ _ _ _ (by omega)]; simp [upd]
    exact ⟨s0, st1, by omega, by omega, st2, rfl, h1, f1'⟩
  case round =>
    obtain ⟨s', ha, ht0, ht1, hmu, hrun, hr, hfr⟩ := hrel
    have Hb : Hid (_ ∧ _) := ⟨hmu, hrun⟩
    clear hmu hrun st1 st2
    have hm := hok.max
    have n0 := ha.l.n0
    have n1 := ha.l.n1
    have s0' := ha.s.h0
    have s1' := ha.s.h1
    have d1 : wr.cell? ⟨x, 261, none⟩ = some (.int .i64 (s'.f 261)) := hr.int (by omega) (by unfold intCell; omega)
    by_cases hpos : 0 < s'.f 261
    · obtain ⟨j, hj⟩ : ∃ j : Nat, s'.f 261 = (j : Int) + 1 := ⟨(s'.f 261 - 1).toNat, by omega⟩
      have d2 : wr.cell? ⟨x, 265, none⟩ = some (.int .i64 (s'.f 265)) := hr.int (by omega) (by unfold intCell; omega)
      have d3 : wr.cell? ⟨x, 260, none⟩ = some (.slice (some ⟨x + 3, 0, none⟩) 65 65) := hr.main.cell (by omega)
      have d4 : wr.cell? ⟨x + 3, j * 3, none⟩ = some (.int .i64 (s'.k (j * 3))) := hr.st.cell (by omega)
      have d5 : wr.cell? ⟨x + 3, j * 3 + 1, none⟩ = some (.int .i64 (s'.k (j * 3 + 1))) := hr.st.cell (by omega)
      have d6 : wr.cell? ⟨x + 3, j * 3 + 2, none⟩ = some (.int .i64 (s'.k (j * 3 + 2))) := hr.st.cell (by omega)
      have g1 := hr.main.frozen 261
      have g2 := hr.main.frozen 265
      rw [hj] at d1
      have hturn := ha.turn hok hW size at_ hpos
      have hstep := addTurn_steps (at_ := at_) (size := size) hok hW ha hpos
      have hfrm := ha.s.fr j (by omega)
      have e1 : addTurn p size W at_ s' = (if s'.k (j * 3 + 1) ≠ -1 then { ({ s' with f := upd (upd s'.f 265 (s'.f 265 + 1)) 261 j } : PS) with r := upd s'.r (s'.k (j * 3 + 1)).toNat (s'.k (j * 3 + 2)) }
          else if hasF (upd (upd s'.f 265 (s'.f 265 + 1)) 261 j) W (s'.k (j * 3)).toNat then { s' with f := upd (upd s'.f 265 (s'.f 265 + 1)) 261 j } else followS p size W (s'.k (j * 3)).toNat at_ { s' with f := upd (upd s'.f 265 (s'.f 265 + 1)) 261 j }) := by
        simp [addTurn, hj, show ((j : Int) + 1 - 1) = j by omega]
      have hr1 := (hr.setF 265 (s'.f 265 + 1) (by unfold intCell; omega)).setF 261 j (by unfold intCell; omega)
      have hf1 := (hfr.pset0 265 (.int .i64 (s'.f 265 + 1))).pset0 261 (.int .i64 j)
      have hfin : ∀ (w' : World), PRep w' x (addTurn p size W at_ s') → Fr (pOwn x) w w' → ∃ k', k' < gk ∧ ∃ s'', AInv p W s'' ∧ 0 ≤ s''.f 265 ∧ s''.f 265 + k' ≤ 1000000300 ∧ amu W s'' ≤ k' ∧ addRun p size W at_ 300 s0 = addRun p size W at_ k' s'' ∧ PRep w' x s'' ∧ Fr (pOwn x) w w' := by
        obtain ⟨hmu, hrun⟩ := Hb.out
        intro w' hw' hf'
        obtain ⟨k', rfl⟩ : ∃ k', gk = k' + 1 := ⟨gk - 1, by omega⟩
        refine ⟨k', by omega, _, hturn.1, by omega, by omega, by omega, ?_, hw', hf'⟩
        rw [hrun]; simp [addRun, hpos]
      have Hfin : Hid _ := hfin
      have He1 : Hid _ := e1
      have hj64 : j < 65 := by omega
      have hjn : (j : Int) ≤ s'.f (W * 130 + 128) := by omega
      clear hfin e1 hturn hstep Hb hj hl
      have b4 : x + 4 < wr.heap.size := hr.rg.lt
      have b0 : x < wr.heap.size := hr.main.lt
      by_cases hslot : s'.k (j * 3 + 1) = -1
      · have hpc' : 0 ≤ s'.k (j * 3) ∧ s'.k (j * 3) < p.length := by unfold frOK at hfrm; omega
        rw [hslot] at d5
        obtain ⟨q, hq⟩ := Int.eq_ofNat_of_zero_le hpc'.1
        rw [hq] at d4 hpc'
        have e2 := He1.out
        rw [if_neg (by simpa using hslot), hq, Int.toNat_natCast] at e2
        have hl1 : LInv (upd (upd s'.f 265 (s'.f 265 + 1)) 261 j) W p.length := ha.l.congr hm fun o h1 h2 => by simp [upd, show o ≠ 261 by omega, show o ≠ 265 by omega]
        have hsp1 := hl1.sp q (by omega)
        have hn1 := hl1.n1
        have hn0 := hl1.n0
        have He2 : Hid _ := e2
        have Hl1 : Hid _ := hl1
        clear hslot hq He1 hfrm e2 hl1
        go_wp2_with fail
        refine wp_region_text (by kernel_rfl) (by kernel_rfl) ?_
        go_wp2_with fail
        refine ⟨by kernel_rfl, ?_⟩
        go_wp2_with fail
        refine (hasM_any ((hr1.alloc _).drew) W q hW (by omega) hsp1.1 (by exact Int.le_trans hn1 (by omega))).mono ?_
        rintro e w2 ⟨rfl, rfl⟩
        cases hh : hasF (upd (upd s'.f 265 (s'.f 265 + 1)) 261 j) W q with
        | true =>
          have e3 := He2.out
          rw [hh, if_pos rfl] at e3
          have hr2 := (hr1.alloc (.cells #[.int .i64 q, .int .i64 (-1), .int .i64 (s'.k (j * 3 + 2))] 188)).drew
          rw [← e3] at hr2
          have Hr2 : Hid _ := hr2
          clear e3 hr2 He2 hh
          go_wp2_with fail
          obtain ⟨k', hk', hrel'⟩ := Hfin.out _ Hr2.out (hf1.alloc _).drew
          go_roundg k'
          case measure => exact hk'
          case rel => exact hrel'
        | false =>
          have hlt := n_lt Hl1.out hm (by omega) hh
          have e3 := He2.out
          rw [hh, if_neg (by simp)] at e3
          have He3 : Hid _ := e3
          have Hhh : Hid _ := hh
          obtain ⟨n, hn⟩ := Int.eq_ofNat_of_zero_le hn0
          have Hn : Hid _ := hn
          have hn64 : n < 64 := by omega
          have hj63 : j < 64 := by
            rw [show upd (upd s'.f 265 (s'.f 265 + 1)) 261 j (W * 130 + 128) = s'.f (W * 130 + 128) by simp [upd, show W * 130 + 128 ≠ 261 by omega, show W * 130 + 128 ≠ 265 by omega]] at hn
            omega
          have hq' : q < p.length := by omega
          clear e3 He2 hh hn hlt hn0 hn1
          go_wp2_with fail
          refine (follow_any ((hr1.alloc _).drew) p pb cap hok (hp.frame (hf1.alloc _).drew hpb) hpb size W q n j at_ hW hq' Hn.out hn64 (by simp [upd]) hj63).mono ?_
          rintro e w3 ⟨rfl, h3, f3⟩
          rw [← He3.out] at h3
          go_wp2_with fail
          obtain ⟨k', hk', hrel'⟩ := Hfin.out _ h3 ((hf1.alloc _).drew.trans f3 (fun _ _ h => h))
          go_roundg k'
          case measure => exact hk'
          case rel => exact hrel'
      · obtain ⟨q, hq⟩ : ∃ q : Nat, s'.k (j * 3 + 1) = q := ⟨(s'.k (j * 3 + 1)).toNat, by unfold frOK at hfrm; omega⟩
        have hq8 : q < 8 := by unfold frOK at hfrm; omega
        have d7 : wr.cell? ⟨x, 262, none⟩ = some (.slice (some ⟨x + 4, 0, none⟩) 8 8) := hr.main.cell (by omega)
        have d8 : wr.cell? ⟨x + 4, q, none⟩ = some (.int .i64 (s'.r q)) := hr.rg.cell (by omega)
        have g3 := hr.rg.frozen q
        rw [hq] at d5
        have hb : ((q : Int) != -1) = true := by simp
        have e2 := He1.out
        rw [if_pos hslot, hq, Int.toNat_natCast] at e2
        have hr2 := ((hr1.setR q (s'.k (j * 3 + 2))).alloc (.cells #[.int .i64 (s'.k (j * 3)), .int .i64 q, .int .i64 (s'.k (j * 3 + 2))] 188)).drew.drew
        have hf2 := ((hf1.psetM 4 q (.int .i64 (s'.k (j * 3 + 2))) (by omega)).alloc (.cells #[.int .i64 (s'.k (j * 3)), .int .i64 q, .int .i64 (s'.k (j * 3 + 2))] 188)).drew.drew
        rw [← e2] at hr2
        have Hr2 : Hid (_ ∧ _) := ⟨hr2, hf2⟩
        clear hslot hq e2 hr2 hf2 He1 hfrm
        go_wp2_with fail
        refine wp_region_text (by kernel_rfl) (by kernel_rfl) ?_
        go_wp2_with fail
        refine ⟨by kernel_rfl, ?_⟩
        go_wp2_with fail
        refine wp_region_text (by kernel_rfl) (by kernel_rfl) ?_
        go_wp2_with fail
        refine ⟨by kernel_rfl, ?_⟩
        go_wp2_with fail
        obtain ⟨k', hk', hrel'⟩ := Hfin.out _ Hr2.out.1 Hr2.out.2
        go_roundg k'
        case measure => exact hk'
        case rel => exact hrel'
    · have e0 : s'.f 261 = 0 := by omega
      rw [e0] at d1
      go_wp2_with fail
      go_end0
      obtain ⟨hmu, hrun⟩ := Hb.out
      refine ⟨rfl, ?_, hfr⟩
      rw [hrun]
      have : addRun p size W at_ gk s' = s' := by cases gk <;> simp [addRun, e0]
      rw [this]; exact hr
end Go.Proofs.Qxb6500283aGreat
