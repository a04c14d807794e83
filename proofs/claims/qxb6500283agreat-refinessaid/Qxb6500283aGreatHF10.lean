/- The finder's Check. -/
import Derived.Test.Qxb6500283aGreatHF8
namespace Go.Proofs.Qxb6500283aGreat
open Go Go.RowKit

/-- Where the search goes on behind a match. -/
def nx (c : Nat → Int) : Nat := if c 0 = c 1 then (c 1).toNat + 1 else (c 1).toNat
def AscS (N : Nat) : List (Nat → Int) → Nat → Prop
  | [], _ => True
  | c :: r, fr => (fr : Int) ≤ c 0 ∧ c 0 ≤ c 1 ∧ c 1 ≤ (N : Nat) ∧ CapOk N c ∧ AscS N r (nx c)
theorem CapOk.up {N M : Nat} (h : N ≤ M) {c : Nat → Int} (hc : CapOk N c) : CapOk M c := fun g hg => (hc g hg).imp id (fun h => by omega)
theorem AscS.up {N M : Nat} (h : N ≤ M) : ∀ {cs : List (Nat → Int)} {fr : Nat}, AscS N cs fr → AscS M cs fr
  | [], _, _ => trivial
  | _ :: _, _, ⟨a, b, c, d, e⟩ => ⟨a, b, by omega, d.up h, e.up h⟩
theorem AscS.asc {N : Nat} : ∀ {cs : List (Nat → Int)} {fr : Nat} (last : Nat), AscS N cs fr → last ≤ fr → last ≤ N → Asc N cs last
  | [], _, _, _, _, h => h
  | c :: r, fr, last, ⟨a, b, d, e, g⟩, h1, h2 => ⟨by omega, b, d, e, g.asc (c 1).toNat (by unfold nx; split <;> omega) (by omega)⟩
theorem AscS.at {N : Nat} : ∀ {cs : List (Nat → Int)} {fr : Nat} (i : Nat) (h : i < cs.length), AscS N (cs.drop i) fr → (fr : Int) ≤ cs[i] 0 ∧ cs[i] 0 ≤ cs[i] 1 ∧ cs[i] 1 ≤ (N : Nat) ∧ AscS N (cs.drop (i + 1)) (nx cs[i]) := by
  intro cs fr i h hA
  rw [List.drop_eq_getElem_cons h] at hA
  exact ⟨hA.1, hA.2.1, hA.2.2.1, hA.2.2.2.2⟩
set_option maxRecDepth 100000 in
set_option maxHeartbeats 4000000 in
theorem pieceFine_any (p : Pc) (hp : PcOk p) (w : World) : Calls Tryz.prog 32 #[pcV p] w fun v w' => v = .returned (.bool true) ∧ Fr (fun _ => False) w w' := by
  unfold pcV
  by_cases hg : p.g < 0
  · obtain ⟨h1, h2, h3⟩ := hp.run hg
    rw [h1]
    have t1 : decide ((p.lo : Int) < (p.hi : Nat)) = true := decide_eq_true (by omega)
    have t2 : decide ((p.hi : Int) ≤ 32) = true := decide_eq_true (by omega)
    have t3 : decide (0 ≤ (p.lo : Int)) = true := decide_eq_true (by omega)
    clear hg h1
    go_enter Tryz.func32, Tryz.ntmps32
    go_wp2_with fail
    go_ret
    exact ⟨rfl, (Fr.refl _ _).alloc _⟩
  · obtain ⟨h1, h2, h3⟩ := hp.grp (by omega)
    rw [h2, h3]
    have t1 : decide (p.g < 0) = false := decide_eq_false hg
    have t2 : decide (p.g ≤ 3) = true := decide_eq_true h1
    clear hg h1 h2 h3
    go_enter Tryz.func32, Tryz.ntmps32
    go_wp2_with fail
    go_ret
    exact ⟨rfl, (Fr.refl _ _).alloc _⟩
set_option maxRecDepth 100000 in
set_option maxHeartbeats 8000000 in
theorem checkF {w : World} {fb e sb pb : Nat} {cs : List (Nat → Int)} {ps : List Pc} (hP : PMem w fb e sb cs.length pb ps) (hS : SMem w sb cs) (hA : AscS 256 cs 0) (hok : PsOk 32 ps) :
    Calls Tryz.prog 14 #[.pointer (some ⟨fb, 0, none⟩)] w fun v w' => v = .returned (.bool true) ∧ Fr (fun _ => False) w w' := by
  have hle := hS.le
  have hpl := hP.le
  have c0 := hP.fd.cell (o := 0) (by omega)
  have c1 := hP.fd.cell (o := 1) (by omega)
  have c2 := hP.fd.cell (o := 2) (by omega)
  have c3 := hP.fd.cell (o := 3) (by omega)
  have c4 := hP.fd.cell (o := 4) (by omega)
  simp only [fdCell] at c0 c1 c2 c3 c4
  have lf := hP.fd.lt
  have b1 : decide (257 < ((cs.length : Nat) : Int)) = false := decide_eq_false (by omega)
  have b2 : decide (32 < ((ps.length : Nat) : Int)) = false := decide_eq_false (by omega)
  have b3 : decide (((cs.length : Nat) : Int) < 0) = false := decide_eq_false (by omega)
  have b4 : decide (((ps.length : Nat) : Int) < 0) = false := decide_eq_false (by omega)
  have HA : Hid _ := hA
  have Hok : Hid _ := hok
  clear hA hok
  go_enter Tryz.func14, Tryz.ntmps14
  go_wp2_with fail
  clear c0 c1 c2 c3 c4
  go_loopg [3, 4] cs.length (fun g lv iv wr => ∃ i fr : Nat, lv = .int .i64 (fr : Nat) ∧ iv = .int .i64 (i : Nat) ∧ i + g = cs.length ∧ AscS 256 (cs.drop i) fr ∧ wr = w)
  case atStart => exact ⟨0, 0, rfl, rfl, by omega, by simpa using HA.out, rfl⟩
  case round =>
    obtain ⟨i, fr, rfl, rfl, hg, hB, rfl⟩ := hrel
    have hg' : i + gk = cs.length := hg
    clear hg
    have ib : (i : Int) ≤ 257 := by omega
    have c0 := hP.fd.cell (o := 0) (by omega)
    have c1 := hP.fd.cell (o := 1) (by omega)
    have c2 := hP.fd.cell (o := 2) (by omega)
    have c3 := hP.fd.cell (o := 3) (by omega)
    have c4 := hP.fd.cell (o := 4) (by omega)
    simp only [fdCell] at c0 c1 c2 c3 c4
    by_cases hlt : i < cs.length
    · have hI : decide ((i : Int) < (cs.length : Nat)) = true := decide_eq_true (by omega)
      obtain ⟨q1, q2, q3, q4⟩ := hB.at i hlt
      have s0 := hS.cells hlt (j := 0) (by omega)
      have s1 := hS.cells hlt (j := 1) (by omega)
      simp only [Nat.add_zero] at s0
      have d1 : decide (cs[i] 0 < (fr : Nat)) = false := decide_eq_false (by omega)
      have d2 : decide (cs[i] 1 < cs[i] 0) = false := decide_eq_false (by omega)
      have d3 : decide (256 < cs[i] 1) = false := decide_eq_false (by omega)
      have hb1 : 0 ≤ cs[i] 1 := by omega
      have Q4 : Hid _ := q4
      clear hB q4
      by_cases he : cs[i] 0 = cs[i] 1
      · have d4 : (cs[i] 0 == cs[i] 1) = true := by simpa using he
        have hn : ((nx cs[i] : Nat) : Int) = cs[i] 1 + 1 := by unfold nx; rw [if_pos he]; omega
        have HN : Hid _ := hn
        have HE : Hid _ := he
        clear hn he
        go_wp2_with fail
        go_roundg (gk - 1)
        case measure => omega
        case rel => exact ⟨i + 1, nx cs[i], by rw [HN.out], by simp, by omega, Q4.out, rfl⟩
      · have d4 : (cs[i] 0 == cs[i] 1) = false := by simpa using he
        have hn : ((nx cs[i] : Nat) : Int) = cs[i] 1 := by unfold nx; rw [if_neg he]; omega
        have HN : Hid _ := hn
        clear hn he
        go_wp2_with fail
        go_roundg (gk - 1)
        case measure => omega
        case rel => exact ⟨i + 1, nx cs[i], by rw [HN.out], by simp, by omega, Q4.out, rfl⟩
    · have hI : decide ((i : Int) < (cs.length : Nat)) = false := decide_eq_false (by omega)
      clear hB
      go_wp2_with fail
      go_loopg [7] ps.length (fun g kv wq => ∃ k : Nat, kv = .int .i64 (k : Nat) ∧ k + g = ps.length ∧ Fr (fun _ => False) wr wq)
      case atStart => exact ⟨0, rfl, by omega, Fr.refl _ _⟩
      case round =>
        obtain ⟨k, rfl, hg2, hfq⟩ := hrel
        have hg2' : k + gk = ps.length := hg2
        clear hg2 c0 c1 c2 c3 c4
        have hPq := hP.frame hfq (fun h => h) (fun h => h)
        have c0 := hPq.fd.cell (o := 0) (by omega)
        have c1 := hPq.fd.cell (o := 1) (by omega)
        have c2 := hPq.fd.cell (o := 2) (by omega)
        have c3 := hPq.fd.cell (o := 3) (by omega)
        have c4 := hPq.fd.cell (o := 4) (by omega)
        simp only [fdCell] at c0 c1 c2 c3 c4
        have lfq := hPq.fd.lt
        have lpq : pb < _ := hPq.pc.choose_spec.1.lt
        have kb : (k : Int) ≤ 32 := by omega
        by_cases hk : k < ps.length
        · have hK : decide ((k : Int) < (ps.length : Nat)) = true := decide_eq_true (by omega)
          have p0 := hPq.cells hk (j := 0) (by omega)
          have p1 := hPq.cells hk (j := 1) (by omega)
          have p2 := hPq.cells hk (j := 2) (by omega)
          simp only [pcCell, Nat.add_zero] at p0 p1 p2
          have hpk := (Hok.out.ok ps[k] (List.getElem_mem hk)).1
          go_wp2_with fail
          refine (pieceFine_any ps[k] hpk _).mono ?_
          rintro v w3 ⟨rfl, f3⟩
          have hf3 := hfq.trans f3 (fun _ _ h => h)
          have hP3 := hP.frame hf3 (fun h => h) (fun h => h)
          clear c0 c1 c2 c3 c4 p0 p1 p2
          have c0 := hP3.fd.cell (o := 0) (by omega)
          have c1 := hP3.fd.cell (o := 1) (by omega)
          have c2 := hP3.fd.cell (o := 2) (by omega)
          have c3 := hP3.fd.cell (o := 3) (by omega)
          have c4 := hP3.fd.cell (o := 4) (by omega)
          simp only [fdCell] at c0 c1 c2 c3 c4
          have p0 := hP3.cells hk (j := 0) (by omega)
          have p1 := hP3.cells hk (j := 1) (by omega)
          have p2 := hP3.cells hk (j := 2) (by omega)
          simp only [pcCell, Nat.add_zero] at p0 p1 p2
          have lf3 := hP3.fd.lt
          have lp3 : pb < _ := hP3.pc.choose_spec.1.lt
          have F3d := hf3.drew
          by_cases hk0 : k = 0
          · subst hk0
            go_wp2_with fail
            refine wp_region_text (by kernel_rfl) (by kernel_rfl) ?_
            go_wp2_with fail
            refine ⟨by kernel_rfl, ?_⟩
            go_wp2_with fail
            go_roundg (gk - 1)
            case measure => omega
            case rel => exact ⟨1, by simp, by omega, F3d⟩
          · obtain ⟨m, rfl⟩ : ∃ m, k = m + 1 := ⟨k - 1, by omega⟩
            have hm : m < ps.length := by omega
            have r0 := hP3.cells hm (j := 0) (by omega)
            have r1 := hP3.cells hm (j := 1) (by omega)
            have r2 := hP3.cells hm (j := 2) (by omega)
            simp only [pcCell, Nat.add_zero] at r0 r1 r2
            have hap := Hok.out.ap (ps.take m) ps[m] ps[m + 1] (ps.drop (m + 2)) (by
              rw [← List.drop_eq_getElem_cons hk, ← List.drop_eq_getElem_cons hm, List.take_append_drop])
            have e1 : decide ((0 : Int) < ((m + 1 : Nat) : Int)) = true := decide_eq_true (by omega)
            rw [Int.natCast_succ] at *
            by_cases x1 : ps[m + 1].g < 0
            · have y1 : decide (ps[m + 1].g < 0) = true := decide_eq_true x1
              by_cases x2 : ps[m].g < 0
              · have y2 : decide (ps[m].g < 0) = true := decide_eq_true x2
                have y3 : ((ps[m].hi : Int) == (ps[m + 1].lo : Nat)) = false := by
                  simpa using (fun e : (ps[m].hi : Int) = (ps[m + 1].lo : Nat) => hap ⟨x2, x1, by omega⟩)
                have HX : Hid _ := And.intro x1 x2
                clear hap x1 x2
                go_wp2_with fail
                refine wp_region_text (by kernel_rfl) (by kernel_rfl) ?_
                go_wp2_with fail
                refine ⟨by kernel_rfl, ?_⟩
                go_wp2_with fail
                go_roundg (gk - 1)
                case measure => omega
                case rel => exact ⟨m + 2, by simp; omega, by omega, F3d⟩
              · have y2 : decide (ps[m].g < 0) = false := decide_eq_false x2
                clear hap x1 x2
                go_wp2_with fail
                refine wp_region_text (by kernel_rfl) (by kernel_rfl) ?_
                go_wp2_with fail
                refine ⟨by kernel_rfl, ?_⟩
                go_wp2_with fail
                go_roundg (gk - 1)
                case measure => omega
                case rel => exact ⟨m + 2, by simp; omega, by omega, F3d⟩
            · have y1 : decide (ps[m + 1].g < 0) = false := decide_eq_false x1
              clear hap x1
              go_wp2_with fail
              refine wp_region_text (by kernel_rfl) (by kernel_rfl) ?_
              go_wp2_with fail
              refine ⟨by kernel_rfl, ?_⟩
              go_wp2_with fail
              go_roundg (gk - 1)
              case measure => omega
              case rel => exact ⟨m + 2, by simp; omega, by omega, F3d⟩
        · have hK : decide ((k : Int) < (ps.length : Nat)) = false := decide_eq_false (by omega)
          go_wp2_with fail
          go_ret
          exact ⟨rfl, hfq⟩
end Go.Proofs.Qxb6500283aGreat
