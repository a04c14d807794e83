/- size: the output's length. -/
import Derived.Test.Qxb6500283aGreatHF4
namespace Go.Proofs.Qxb6500283aGreat
open Go Go.RowKit

def HoldsC (f : Nat → Value) (cs : List (Nat → Int)) : Prop := ∀ i (h : i < cs.length) j, j < 8 → f (i * 8 + j) = .int .i64 (cs[i] j)
/-- The matches, from last on, each behind the one before. -/
def Asc (N : Nat) : List (Nat → Int) → Nat → Prop
  | [], last => last ≤ N
  | c :: r, last => (last : Int) ≤ c 0 ∧ c 0 ≤ c 1 ∧ c 1 ≤ (N : Nat) ∧ CapOk N c ∧ Asc N r (c 1).toNat
def pw (ps : List Pc) (c : Nat → Int) : Nat := (ps.map (wdP · c)).sum
def sizeFrom (N : Nat) (ps : List Pc) : List (Nat → Int) → Nat → Nat
  | [], last => N - last
  | c :: r, last => (c 0).toNat - last + pw ps c + sizeFrom N ps r (c 1).toNat
theorem wdP_le {N : Nat} {p : Pc} {c : Nat → Int} (hN : 32 ≤ N) (hp : PcOk p) (hc : CapOk N c) : wdP p c ≤ N := by
  unfold wdP
  split
  · rename_i h; have := hp.run h; omega
  · rename_i h
    have h3 := hp.grp (by omega)
    have := hc p.g.toNat (by omega)
    split
    · omega
    · omega
theorem pw_le {N : Nat} (hN : 32 ≤ N) {c : Nat → Int} (hc : CapOk N c) : ∀ (ps : List Pc), (∀ p ∈ ps, PcOk p) → pw ps c ≤ ps.length * N
  | [], _ => by simp [pw]
  | p :: r, h => by
    have h1 := wdP_le hN (h p (by simp)) hc
    have h2 := pw_le hN hc r (fun q hq => h q (by simp [hq]))
    have e : pw (p :: r) c = wdP p c + pw r c := by simp [pw]
    rw [e, List.length_cons, Nat.succ_mul]
    omega
theorem pw_take (ps : List Pc) (c : Nat → Int) (k : Nat) (h : k < ps.length) : pw (ps.take (k + 1)) c = pw (ps.take k) c + wdP ps[k] c := by
  unfold pw
  rw [List.take_add_one, List.map_append, List.sum_append]
  simp [h]
theorem Asc.drop {N : Nat} : ∀ {cs : List (Nat → Int)} {last : Nat} (i : Nat) (h : i < cs.length), Asc N cs last → 0 ≤ cs[i] 0 ∧ cs[i] 0 ≤ cs[i] 1 ∧ cs[i] 1 ≤ (N : Nat) ∧ CapOk N cs[i]
  | c :: r, last, 0, _, h => ⟨by have := h.1; simp; omega, h.2.1, h.2.2.1, h.2.2.2.1⟩
  | c :: r, last, i + 1, hi, h => by
    have := Asc.drop (cs := r) i (by simpa using hi) h.2.2.2.2
    simpa using this
structure SMem (w : World) (sb : Nat) (cs : List (Nat → Int)) : Prop where
  sp : ∃ f, Blk w sb 2056 f ∧ HoldsC f cs
  le : cs.length ≤ 257
theorem SMem.frame {S : Nat → Prop} {w w' : World} {sb : Nat} {cs : List (Nat → Int)} (h : SMem w sb cs) (k : Fr S w w') (h1 : ¬ S sb) : SMem w' sb cs := by
  obtain ⟨⟨f, a, b⟩, c⟩ := h
  exact ⟨⟨f, a.frame k h1, b⟩, c⟩
theorem SMem.cells {w : World} {sb : Nat} {cs : List (Nat → Int)} (h : SMem w sb cs) {i : Nat} (hi : i < cs.length) {j : Nat} (hj : j < 8) : w.cell? ⟨sb, i * 8 + j, none⟩ = some (.int .i64 (cs[i] j)) := by
  obtain ⟨⟨f, a, b⟩, c⟩ := h
  rw [a.cell (by omega), b i hi j hj]
theorem PMem.cells {w : World} {fb e sb n pb : Nat} {ps : List Pc} (h : PMem w fb e sb n pb ps) {i : Nat} (hi : i < ps.length) {j : Nat} (hj : j < 3) : w.cell? ⟨pb, i * 3 + j, none⟩ = some (pcCell ps[i] j) := by
  obtain ⟨_, ⟨f, a, b⟩, _, c⟩ := h
  rw [a.cell (by omega), b i hi j hj]
/-- Where the loop stands behind i matches: what is counted, where the last match ended. -/
def SzAt (N : Nat) (ps : List Pc) (cs : List (Nat → Int)) (i tot last : Nat) : Prop := Asc N (cs.drop i) last ∧ tot + sizeFrom N ps (cs.drop i) last = sizeFrom N ps cs 0 ∧ tot ≤ i * 8448 + 0 ∧ last ≤ N
set_option maxRecDepth 100000 in
set_option maxHeartbeats 8000000 in
theorem sizeF_any {w : World} {fb e sb pb : Nat} {cs : List (Nat → Int)} {ps : List Pc} (hP : PMem w fb e sb cs.length pb ps) (hS : SMem w sb cs) (hok : ∀ p ∈ ps, PcOk p) (s : ByteArray) (hs : s.size ≤ 256) (hA : Asc s.size cs 0) :
    Calls Tryz.prog 63 #[.pointer (some ⟨fb, 0, none⟩), .string s] w fun v w' => v = .returned (.int .i64 (sizeFrom s.size ps cs 0 : Nat)) ∧ Fr (fun _ => False) w w' := by
  have hsb : (s.size : Int) ≤ 256 := by omega
  have hle := hS.le
  have hpl := hP.le
  have hcap : ∀ c, CapOk s.size c → CapOk 256 c := fun c hc g hg => (hc g hg).imp id (fun h => by omega)
  have Hok : Hid _ := hok
  have Hcap : Hid _ := hcap
  have HA : Hid _ := hA
  clear hok hcap hA
  go_enter Tryz.func63, Tryz.ntmps63
  go_wp2_with fail
  go_loopg [5, 6, 7] cs.length (fun g tv lv iv wr => ∃ i tot last : Nat, tv = .int .i64 (tot : Nat) ∧ lv = .int .i64 (last : Nat) ∧ iv = .int .i64 (i : Nat) ∧ i + g = cs.length ∧ SzAt s.size ps cs i tot last ∧ Fr (fun _ => False) w wr)
  case atStart => exact ⟨0, 0, 0, rfl, rfl, rfl, by omega, ⟨by simpa using HA.out, by simp, by omega, by omega⟩, Fr.refl _ _⟩
  case round =>
    obtain ⟨i, tot, last, rfl, rfl, rfl, hg, ⟨z1, z2, z3, z4⟩, hfr⟩ := hrel
    have hg' : i + gk = cs.length := hg
    clear hg
    have hPr := hP.frame hfr (fun h => h) (fun h => h)
    have hSr := hS.frame hfr (fun h => h)
    have c1 := hPr.fd.cell (o := 1) (by omega)
    have c2 := hPr.fd.cell (o := 2) (by omega)
    have c3 := hPr.fd.cell (o := 3) (by omega)
    have c4 := hPr.fd.cell (o := 4) (by omega)
    simp only [fdCell] at c1 c2 c3 c4
    have lf := hPr.fd.lt
    have tb : (tot : Int) ≤ 3000000 := by omega
    have lb : (last : Int) ≤ 256 := by omega
    have ib : (i : Int) ≤ 257 := by omega
    by_cases hlt : i < cs.length
    · have hI : decide ((i : Int) < (cs.length : Nat)) = true := decide_eq_true (by omega)
      obtain ⟨q1, q2, q3, q4⟩ := HA.out.drop i hlt
      have e0 := hSr.cells hlt (j := 0) (by omega)
      have e1 := hSr.cells hlt (j := 1) (by omega)
      simp only [Nat.add_zero] at e0
      have hd : cs.drop i = cs[i] :: cs.drop (i + 1) := List.drop_eq_getElem_cons hlt
      rw [hd] at z1 z2
      obtain ⟨y1, y2, y3, y4, y5⟩ := z1
      obtain ⟨a0, ha0⟩ : ∃ a0 : Nat, cs[i] 0 = a0 := ⟨(cs[i] 0).toNat, by omega⟩
      obtain ⟨a1, ha1⟩ : ∃ a1 : Nat, cs[i] 1 = a1 := ⟨(cs[i] 1).toNat, by omega⟩
      rw [ha0] at e0
      rw [ha1] at e1
      have ha1n : a1 ≤ s.size := by omega
      have hb0 : (a0 : Int) ≤ 256 := by omega
      have hb1 : (a1 : Int) ≤ 256 := by omega
      have H : Hid _ := And.intro y4 (And.intro y5 z2)
      have hb2 : (last : Int) ≤ a0 := by omega
      have Q4 : Hid _ := q4
      have Ha0 : Hid _ := ha0
      have Ha1 : Hid _ := ha1
      clear y1 y2 y3 y4 y5 z2 hd q4 q1 q2 q3 ha0 ha1
      go_wp2_with fail
      go_loopg [5, 8] ps.length (fun g2 tv kv wq => ∃ k t2 : Nat, tv = .int .i64 (t2 : Nat) ∧ kv = .int .i64 (k : Nat) ∧ k + g2 = ps.length ∧ t2 = tot + (a0 - last) + pw (ps.take k) cs[i] ∧ Fr (fun _ => False) w wq)
      case atStart => exact ⟨0, tot + (a0 - last), by simp; omega, rfl, by omega, by simp [pw], hfr⟩
      case round =>
        obtain ⟨k, t2, rfl, rfl, hg2, ht2, hfq⟩ := hrel
        have hg2' : k + gk = ps.length := hg2
        clear hg2
        have hPq := hP.frame hfq (fun h => h) (fun h => h)
        have hSq := hS.frame hfq (fun h => h)
        clear c1 c2 c3 c4
        have c1 := hPq.fd.cell (o := 1) (by omega)
        have c2 := hPq.fd.cell (o := 2) (by omega)
        have c3 := hPq.fd.cell (o := 3) (by omega)
        have c4 := hPq.fd.cell (o := 4) (by omega)
        simp only [fdCell] at c1 c2 c3 c4
        have lfq := hPq.fd.lt
        have kb : (k : Int) ≤ 32 := by omega
        have hpw : pw (ps.take k) cs[i] ≤ 8192 := by
          have := pw_le (N := 256) (by omega) (Hcap.out _ Q4.out) (ps.take k) (fun p hp => Hok.out p (List.mem_of_mem_take hp))
          have h2 : (ps.take k).length ≤ 32 := by simp; omega
          have h3 : (ps.take k).length * 256 ≤ 32 * 256 := Nat.mul_le_mul_right _ h2
          omega
        have tb2 : (t2 : Int) ≤ 4000000 := by omega
        have Ht2 : Hid _ := ht2
        clear ht2
        by_cases hk : k < ps.length
        · have hK : decide ((k : Int) < (ps.length : Nat)) = true := decide_eq_true (by omega)
          have p0 := hPq.cells hk (j := 0) (by omega)
          have p1 := hPq.cells hk (j := 1) (by omega)
          have p2 := hPq.cells hk (j := 2) (by omega)
          simp only [pcCell, Nat.add_zero] at p0 p1 p2
          clear e0 e1
          have s0 := hSq.cells hlt (j := 0) (by omega)
          have s1 := hSq.cells hlt (j := 1) (by omega)
          have s2 := hSq.cells hlt (j := 2) (by omega)
          have s3 := hSq.cells hlt (j := 3) (by omega)
          have s4 := hSq.cells hlt (j := 4) (by omega)
          have s5 := hSq.cells hlt (j := 5) (by omega)
          have s6 := hSq.cells hlt (j := 6) (by omega)
          have s7 := hSq.cells hlt (j := 7) (by omega)
          simp only [Nat.add_zero] at s0
          have hpk := Hok.out ps[k] (List.getElem_mem hk)
          have hw1 := wdP_le (N := 256) (by omega) hpk (Hcap.out _ Q4.out)
          have hwb : ((wdP ps[k] cs[i] : Nat) : Int) ≤ 256 := by omega
          go_wp2_with fail
          refine wp_region_text (by kernel_rfl) (by kernel_rfl) ?_
          go_wp2_with fail
          refine (width_any ps[k] cs[i] 256 (by omega) hpk (Hcap.out _ Q4.out) _).mono ?_
          rintro v w3 ⟨rfl, f3⟩
          go_wp2_with fail
          refine ⟨by kernel_rfl, ?_⟩
          go_wp2_with fail
          go_roundg (gk - 1)
          case measure => omega
          case rel => exact ⟨k + 1, t2 + wdP ps[k] cs[i], by simp, by simp, by omega, by rw [pw_take ps cs[i] k hk]; have := Ht2.out; omega, hfq.drew.trans f3 (fun _ _ h => h)⟩
        · have hK : decide ((k : Int) < (ps.length : Nat)) = false := decide_eq_false (by omega)
          have hkk : k = ps.length := by omega
          subst hkk
          have ht2 := Ht2.out
          rw [List.take_length] at ht2
          have Ht3 : Hid _ := ht2
          clear ht2 Ht2
          go_wp2_with fail
          go_roundg (cs.length - (i + 1))
          case measure => omega
          case rel =>
            refine ⟨i + 1, t2, a1, rfl, rfl, by simp, by omega, ⟨?_, ?_, ?_, by omega⟩, hfq⟩
            · have := H.out.2.1
              rw [Ha1.out] at this
              simpa using this
            · have h9 := H.out.2.2
              simp only [sizeFrom, Ha0.out, Ha1.out, Int.toNat_natCast] at h9
              have := Ht3.out
              omega
            · have := pw_le (N := 256) (by omega) (Hcap.out _ Q4.out) ps Hok.out
              have h3 : ps.length * 256 ≤ 32 * 256 := Nat.mul_le_mul_right _ hpl
              have := Ht3.out
              omega
    · have hI : decide ((i : Int) < (cs.length : Nat)) = false := decide_eq_false (by omega)
      have hii : i = cs.length := by omega
      subst hii
      rw [List.drop_length] at z2
      simp only [sizeFrom] at z2
      have e9 : (tot : Int) + (s.size : Nat) - (last : Nat) = ((sizeFrom s.size ps cs 0 : Nat) : Int) := by omega
      clear z1 z2
      go_wp2_with fail
      go_ret
      exact ⟨rfl, hfr⟩
end Go.Proofs.Qxb6500283aGreat
