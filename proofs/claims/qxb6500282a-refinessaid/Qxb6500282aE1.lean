/- The table that the cache keeps, plainly: how many of its cells are known, and which road is laid down in it. -/
import Derived.Test.Qxb6500282aF10
namespace Go.Proofs.Qxb6500282a
open Go Go.RowKit

/-- The bytes met from from_ up to i. -/
def metB (str : ByteArray) (from_ i b : Nat) : Bool := (List.range (i - from_)).any fun k => bt str (from_ + k) == b
def kindsN (str : ByteArray) (from_ i : Nat) : Nat := ((List.range 256).filter fun b => metB str from_ i b).length
theorem metB_at {str : ByteArray} {from_ k : Nat} (h : k < str.size - from_) : metB str from_ str.size (bt str (from_ + k)) = true := by
  unfold metB
  rw [List.any_eq_true]
  exact ⟨k, List.mem_range.2 h, by simp⟩
def rowN (met : Nat → Bool) (nx : Nat → Int) (c : Nat) : Nat := ((List.range 256).filter fun b => decide (0 ≤ nx (c * 256 + b)) && met b).length
theorem row_le (met : Nat → Bool) (nx : Nat → Int) (c : Nat) : rowN met nx c ≤ ((List.range 256).filter met).length := by
  unfold rowN
  rw [← List.countP_eq_length_filter, ← List.countP_eq_length_filter]
  exact List.countP_mono_left (fun b _ h => by simp at h; exact h.2)
theorem row_same {met : Nat → Bool} {nx nx' : Nat → Int} {c : Nat} (h : ∀ b, b < 256 → nx' (c * 256 + b) = nx (c * 256 + b)) : rowN met nx' c = rowN met nx c := by
  unfold rowN
  congr 1
  exact List.filter_congr (fun b hb => by rw [h b (List.mem_range.1 hb)])
theorem row_up {met : Nat → Bool} {nx : Nat → Int} {c b : Nat} (to : Nat) (hb : b < 256) (hm : met b = true) (hn : nx (c * 256 + b) < 0) : rowN met (upd nx (c * 256 + b) (to : Int)) c = rowN met nx c + 1 := by
  unfold rowN
  rw [filter_add (fun j => decide (0 ≤ nx (c * 256 + j)) && met j) (fun j => decide (0 ≤ upd nx (c * 256 + b) (to : Int) (c * 256 + j)) && met j) b (by simp; omega) (fun j => ?_) _ List.nodup_range]
  · simp [hb]
  · by_cases e : b = j
    · subst e; rw [upd_same]; simp [hm]
    · rw [upd_other _ _ _ _ (by omega)]; simp [e]
def knN (met : Nat → Bool) (nx : Nat → Int) : Nat := rowN met nx 0 + rowN met nx 1 + rowN met nx 2 + rowN met nx 3 + rowN met nx 4 + rowN met nx 5
theorem kn_le (met : Nat → Bool) (nx : Nat → Int) : knN met nx ≤ 6 * ((List.range 256).filter met).length := by
  have h0 := row_le met nx 0
  have h1 := row_le met nx 1
  have h2 := row_le met nx 2
  have h3 := row_le met nx 3
  have h4 := row_le met nx 4
  have h5 := row_le met nx 5
  unfold knN
  omega
theorem kn_up {met : Nat → Bool} {nx : Nat → Int} {c b : Nat} (to : Nat) (hc : c < 6) (hb : b < 256) (hm : met b = true) (hn : nx (c * 256 + b) < 0) : knN met (upd nx (c * 256 + b) (to : Int)) = knN met nx + 1 := by
  have ho : ∀ d, d ≠ c → rowN met (upd nx (c * 256 + b) (to : Int)) d = rowN met nx d := fun d hd => row_same (fun j hj => upd_other _ _ _ _ (by omega))
  have hu := row_up to hb hm hn
  unfold knN
  rcases (show c = 0 ∨ c = 1 ∨ c = 2 ∨ c = 3 ∨ c = 4 ∨ c = 5 by omega) with rfl | rfl | rfl | rfl | rfl | rfl
  · have h1 := ho 1 (by omega); have h2 := ho 2 (by omega); have h3 := ho 3 (by omega); have h4 := ho 4 (by omega); have h5 := ho 5 (by omega); omega
  · have h1 := ho 0 (by omega); have h2 := ho 2 (by omega); have h3 := ho 3 (by omega); have h4 := ho 4 (by omega); have h5 := ho 5 (by omega); omega
  · have h1 := ho 0 (by omega); have h2 := ho 1 (by omega); have h3 := ho 3 (by omega); have h4 := ho 4 (by omega); have h5 := ho 5 (by omega); omega
  · have h1 := ho 0 (by omega); have h2 := ho 1 (by omega); have h3 := ho 2 (by omega); have h4 := ho 4 (by omega); have h5 := ho 5 (by omega); omega
  · have h1 := ho 0 (by omega); have h2 := ho 1 (by omega); have h3 := ho 2 (by omega); have h4 := ho 3 (by omega); have h5 := ho 5 (by omega); omega
  · have h1 := ho 0 (by omega); have h2 := ho 1 (by omega); have h3 := ho 2 (by omega); have h4 := ho 3 (by omega); have h5 := ho 4 (by omega); omega
theorem bits_ext {a b : Nat} {R : Nat → Prop} (h1 : ∀ q, a.testBit q = true ↔ R q) (h2 : ∀ q, b.testBit q = true ↔ R q) : a = b := Nat.eq_of_testBit_eq fun q => by
  have h3 := (h1 q).trans (h2 q).symm
  cases h4 : a.testBit q with
  | true => exact (h3.1 h4).symm
  | false =>
    cases h5 : b.testBit q with
    | false => rfl
    | true => rw [h3.2 h5] at h4; cases h4
/-- The state of place j is cached, and its successor is noted. -/
def Kn (p : List In) (str : ByteArray) (from_ : Nat) (s : DS) (j : Nat) : Prop := ∃ c, c < s.used ∧ (∀ q, (s.keys c).testBit q = true ↔ RD p str from_ j q) ∧ 0 ≤ s.next (c * 256 + bt str (from_ + j))
def Cov (p : List In) (str : ByteArray) (from_ : Nat) (s : DS) : Prop := ∀ j, j < str.size - from_ → (∀ i, i ≤ j → ¬ HitK p str from_ i) → Kn p str from_ s j
def Cov0 (p : List In) (str : ByteArray) (from_ : Nat) (s : DS) : Prop := (∃ c, c < s.used ∧ ∀ q, (s.keys c).testBit q = true ↔ RD p str from_ 0 q) ∧ Cov p str from_ s
def kn (str : ByteArray) (from_ : Nat) (s : DS) : Nat := knN (fun b => metB str from_ str.size b) s.next
structure RunX (p : List In) (str : ByteArray) (from_ : Nat) (s s' : DS) (k : Nat) : Prop where
  tl : ∃ d, s'.flushes = s.flushes + d ∧ s'.worked + kn str from_ s ≤ s.worked + d * (1 + 6 * kindsN str from_ str.size) + kn str from_ s'
  cv : s'.flushes = s.flushes → ∀ j, j < k → Kn p str from_ s' j
  ks : s'.flushes = s.flushes → s.used ≤ s'.used ∧ ∀ d, d < s.used → s'.keys d = s.keys d
  st : Cov p str from_ s → s' = s
theorem RunX.start (p : List In) (str : ByteArray) (from_ : Nat) (s : DS) : RunX p str from_ s s 0 :=
  ⟨⟨0, rfl, by omega⟩, fun _ j h => by omega, fun _ => ⟨Nat.le_refl _, fun _ _ => rfl⟩, fun _ => rfl⟩
theorem RunX.step {p : List In} {str : ByteArray} {from_ : Nat} {s s1 s2 : DS} {k c to : Nat} (h : RunX p str from_ s s1 k) (hok : OkProg p) (hi : CInv p s1) (hc : c < s1.used) (hq : ∀ q, (s1.keys c).testBit q = true ↔ RD p str from_ k q) (hk : k < str.size - from_)
    (hno : ∀ j, j ≤ k → ¬ HitK p str from_ j) (hst : StepR p s1 c (bt str (from_ + k)) s2 to) : RunX p str from_ s s2 (k + 1) := by
  obtain ⟨⟨d, t1, t2⟩, cv, ks, st⟩ := h
  have hu := hi.used
  have hb := bt_lt' str (from_ + k)
  rcases hst with ⟨e, rfl⟩ | ⟨hneg, T, stk', sA, hT, hcr, rfl⟩
  · refine ⟨⟨d, t1, t2⟩, fun e1 j hj => ?_, ks, st⟩
    by_cases ej : j = k
    · subst ej; exact ⟨c, hc, hq, by omega⟩
    · exact cv e1 j (by omega)
  · have cp := CellR.p (hi.congr (t := { s1 with stk := stk', worked := s1.worked + 1 }) rfl rfl rfl rfl rfl rfl) (hT.good hok) hcr
    have c3 := cp.f0; have c4 := cp.f1; have c5 := cp.wk
    simp only at c3 c4 c5
    have bad : ¬ Cov p str from_ s := fun hC => by
      have e := st hC
      subst e
      obtain ⟨c', h1, h2, h3⟩ := hC k hk hno
      have ek : s1.keys c = s1.keys c' := bits_ext hq h2
      have := hi.kd c c' hc h1 ek
      subst this
      omega
    by_cases hf : sA.flushes = s1.flushes
    · rw [if_pos hf]
      obtain ⟨e1, e2, e3⟩ := cp.same hf
      simp only at e1 e2 e3
      refine ⟨⟨d, by simp only; omega, ?_⟩, fun e4 j hj => ?_, fun e4 => ?_, fun hC => absurd hC bad⟩
      · have := kn_up (met := fun b => metB str from_ str.size b) to (show c < 6 by omega) hb (metB_at hk) hneg
        unfold kn at t2 ⊢
        simp only
        rw [e1, this, c5]
        omega
      · simp only at e4
        by_cases ej : j = k
        · subst ej
          refine ⟨c, by simp only; omega, fun q => ?_, ?_⟩
          · simp only; rw [e3 c hc]; exact hq q
          · simp only; rw [upd_same]; omega
        · obtain ⟨c', h1, h2, h3⟩ := cv (by omega) j (by omega)
          refine ⟨c', by simp only; omega, fun q => ?_, ?_⟩
          · simp only; rw [e3 c' h1]; exact h2 q
          · simp only
            by_cases eo : c' * 256 + bt str (from_ + j) = c * 256 + bt str (from_ + k)
            · rw [eo, upd_same]; omega
            · rw [upd_other _ _ _ _ eo, e1]; exact h3
      · simp only at e4 ⊢
        obtain ⟨k1, k2⟩ := ks (by omega)
        exact ⟨by omega, fun d hd => by rw [e3 d (by omega), k2 d hd]⟩
    · rw [if_neg hf]
      refine ⟨⟨d + 1, by omega, ?_⟩, fun e4 => by omega, fun e4 => by omega, fun hC => absurd hC bad⟩
      have hle := kn_le (fun b => metB str from_ str.size b) s1.next
      have e6 : kn str from_ s1 ≤ 6 * kindsN str from_ str.size := hle
      rw [c5, Nat.succ_mul]
      omega
/-- What a whole run leaves. -/
structure RunE (p : List In) (str : ByteArray) (from_ : Nat) (s s' : DS) : Prop where
  tl : ∃ d, s'.flushes = s.flushes + d ∧ s'.worked + kn str from_ s ≤ s.worked + d * (1 + 6 * kindsN str from_ str.size) + kn str from_ s'
  cv : s'.flushes = s.flushes → Cov p str from_ s'
  ks : s'.flushes = s.flushes → s.used ≤ s'.used ∧ ∀ d, d < s.used → s'.keys d = s.keys d
  st : Cov p str from_ s → s' = s
theorem RunX.hit {p : List In} {str : ByteArray} {from_ : Nat} {s s1 : DS} {k : Nat} (h : RunX p str from_ s s1 k) (hh : HitK p str from_ k) : RunE p str from_ s s1 :=
  ⟨h.tl, fun e j _ hno => (Nat.lt_or_ge j k).elim (fun hl => h.cv e j hl) (fun hl => absurd hh (hno k hl)), h.ks, h.st⟩
theorem RunX.done {p : List In} {str : ByteArray} {from_ : Nat} {s s1 : DS} {k : Nat} (h : RunX p str from_ s s1 k) (hk : k = str.size - from_) : RunE p str from_ s s1 :=
  ⟨h.tl, fun e j hj _ => h.cv e j (by omega), h.ks, h.st⟩
end Go.Proofs.Qxb6500282a
