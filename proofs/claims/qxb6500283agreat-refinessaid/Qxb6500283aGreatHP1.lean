/- Matches, plain: where they lie, what they caught; all matches from a place on. -/
import Derived.Test.Qxb6500283aGreatE1
import Derived.Test.Qxb6500283aGreatHF10
namespace Go.Proofs.Qxb6500283aGreat
open Go Go.RowKit

theorem mem_dd {w : Wy} : ∀ (l : List Wy) (S : List Nat), w ∈ ddS S l → w ∈ l
  | x :: l, S, h => by
    simp only [ddS] at h
    split at h
    · exact List.mem_cons_of_mem _ (mem_dd l S h)
    · rcases List.mem_cons.1 h with rfl | h
      · simp
      · exact List.mem_cons_of_mem _ (mem_dd l _ h)
theorem mem_joinL {w : Wy} {a b : List Wy} (h : w ∈ joinL a b) : w ∈ a ∨ w ∈ b := by
  rcases List.mem_append.1 h with h | h
  · exact .inl h
  · exact .inr (mem_dd b _ h)
theorem mem_joinAll {w : Wy} (g : Wy → List Wy) : ∀ (l acc : List Wy), w ∈ l.foldl (fun acc x => joinL acc (g x)) acc → w ∈ acc ∨ ∃ x ∈ l, w ∈ g x
  | [], acc, h => .inl h
  | x :: l, acc, h => by
    rcases mem_joinAll g l _ h with h | ⟨y, hy, h⟩
    · rcases mem_joinL h with h | h
      · exact .inl h
      · exact .inr ⟨x, by simp, h⟩
    · exact .inr ⟨y, by simp [hy], h⟩
/-- A meaning that keeps captures in order. -/
def KeepC (N : Nat) (f : Wf) : Prop := ∀ i c, i ≤ N → CapOk N c → ∀ w ∈ f i c, CapOk N w.2
theorem KeepC.cat {N : Nat} {f g : Wf} (hf : KeepC N f) (hg : KeepC N g) (hF : Good N f) : KeepC N (catF f g) := by
  intro i c hi hc w hw
  rcases mem_joinAll _ _ _ hw with h | ⟨x, hx, h⟩
  · cases h
  · exact hg x.1 x.2 (hF.lo i c hi x hx).2 (hf i c hi hc x hx) w h
theorem KeepC.stop {N : Nat} : KeepC N stopF := fun i c _ hc w hw => by
  simp only [stopF, List.mem_singleton] at hw
  subst hw; exact hc
theorem KeepC.lz {N : Nat} {lz : Bool} {a b : List Wy} (ha : ∀ w ∈ a, CapOk N w.2) (hb : ∀ w ∈ b, CapOk N w.2) : ∀ w ∈ lzJ lz a b, CapOk N w.2 := by
  intro w hw
  unfold lzJ at hw
  split at hw
  · rcases mem_joinL hw with h | h
    · exact hb w h
    · exact ha w h
  · rcases mem_joinL hw with h | h
    · exact ha w h
    · exact hb w h
theorem KeepC.opt {N : Nat} {f : Wf} (hf : KeepC N f) (hF : Good N f) (lz : Bool) : ∀ k, KeepC N (optF f lz k)
  | 0 => KeepC.stop
  | k + 1 => fun i c hi hc => KeepC.lz ((hf.cat (KeepC.opt hf hF lz k) hF) i c hi hc) (fun w hw => by simp only [List.mem_singleton] at hw; subst hw; exact hc)
theorem KeepC.star {N : Nat} {f : Wf} (hf : KeepC N f) (hF : Good N f) (lz : Bool) : ∀ k, KeepC N (starG f lz k)
  | 0 => KeepC.stop
  | k + 1 => fun i c hi hc => KeepC.lz (fun w hw => by
      rcases mem_joinAll _ _ _ hw with h | ⟨x, hx, h⟩
      · cases h
      · have hx' := (List.mem_filter.1 hx).1
        exact KeepC.star hf hF lz k x.1 x.2 (hF.lo i c hi x hx').2 (hf i c hi hc x hx') w h) (fun w hw => by simp only [List.mem_singleton] at hw; subst hw; exact hc)
theorem KeepC.must {N : Nat} {f r : Wf} (hf : KeepC N f) (hF : Good N f) (hr : KeepC N r) : ∀ m, KeepC N (mustF f m r)
  | 0 => hr
  | m + 1 => hf.cat (KeepC.must hf hF hr m) hF
theorem KeepC.grp {N : Nat} {f : Wf} (hf : KeepC N f) (hF : Good N f) (k : Nat) : KeepC N (grpF f k) := by
  intro i c hi hc w hw
  obtain ⟨x, hx, rfl⟩ := List.mem_map.1 hw
  have h1 := hF.lo i c hi x hx
  have h2 := hf i c hi hc x hx
  intro g hg
  simp only [setC]
  by_cases he : g = k
  · subst he
    right
    rw [if_neg (by omega), if_pos rfl, if_pos rfl]
    omega
  · rw [if_neg (by omega), if_neg (by omega), if_neg (by omega), if_neg (by omega)]
    exact h2 g hg
theorem KeepC.if1 {N : Nat} (P : Nat → Prop) [DecidablePred P] (d : Nat → Nat) : KeepC N (fun i c => if P i then [(d i, c)] else []) := by
  intro i c _ hc w hw
  simp only at hw
  split at hw
  · simp only [List.mem_singleton] at hw; subst hw; exact hc
  · cases hw
theorem wy_keep (s : ByteArray) : ∀ r, KeepC s.size (wy s r)
  | .emp => KeepC.stop
  | .set P => KeepC.if1 (fun i => i < s.size ∧ P (bt s i) = true) (fun i => i + 1)
  | .bol => KeepC.if1 (fun i => i = 0) (fun i => i)
  | .eol => KeepC.if1 (fun i => i = s.size) (fun i => i)
  | .cat a b => (wy_keep s a).cat (wy_keep s b) (wy_good s a)
  | .alt a b => fun i c hi hc w hw => (mem_joinL hw).elim (wy_keep s a i c hi hc w) (wy_keep s b i c hi hc w)
  | .rep a mn mx lz => by
    refine (wy_keep s a).must (wy_good s a) ?_ mn
    unfold restF
    split
    · exact fun i c hi hc => (wy_keep s a).star (wy_good s a) lz _ i c hi hc
    · exact (wy_keep s a).opt (wy_good s a) lz _
  | .grp a k => (wy_keep s a).grp (wy_good s a) k
theorem noC_ok (N : Nat) : CapOk N noC := fun _ _ => .inl ⟨rfl, rfl⟩
theorem leftG_ex {f : Wf} {c : Cp} : ∀ (m a : Nat), leftG f m a = some c → ∃ a', a ≤ a' ∧ a' < a + m ∧ matchP f a' = some c
  | m + 1, a, h => by
    simp only [leftG] at h
    cases hm : matchP f a with
    | some d => rw [hm] at h; simp only [Option.some.injEq] at h; subst h; exact ⟨a, Nat.le_refl _, by omega, hm⟩
    | none =>
      rw [hm] at h
      obtain ⟨a', h1, h2, h3⟩ := leftG_ex m (a + 1) h
      exact ⟨a', by omega, by omega, h3⟩
/-- What a match keeps. -/
structure MOk (s : ByteArray) (fr : Nat) (c : Cp) : Prop where
  lo : (fr : Int) ≤ c 0
  mid : c 0 ≤ c 1
  hi : c 1 ≤ (s.size : Nat)
  cap : CapOk s.size c
theorem lfO_some {s : ByteArray} {r : Rx} {fr : Nat} {c : Cp} (h : lfO s fr (wy s r) = some c) : MOk s fr c := by
  unfold lfO at h
  split at h
  · cases h
  · split at h
    · cases h
    · rename_i h1 h2
      rw [Int.toNat_natCast] at h
      obtain ⟨a, ha, hb, hm⟩ := leftG_ex _ _ h
      have hal : a ≤ s.size := by omega
      unfold matchP headP at hm
      split at hm
      · cases hm
      · rename_i x l hx
        simp only [Option.some.injEq] at hm
        subst hm
        have hxm : x ∈ wy s r a noC := by rw [hx]; simp
        have hg := (wy_good s r).lo a noC hal x hxm
        have hk := wy_keep s r a noC hal (noC_ok _) x hxm
        refine ⟨by simp [setC]; omega, by simp [setC]; omega, by simp [setC]; omega, fun g hg4 => ?_⟩
        by_cases hg0 : g = 0
        · subst hg0; right; simp [setC]; omega
        · have := hk g hg4
          simp only [setC]
          rw [if_neg (by omega), if_neg (by omega), if_neg (by omega), if_neg (by omega)]
          exact this
theorem Sol.hit {p s : ByteArray} {fr : Nat} {er q : Int} {c : Cp} (h : Sol p s fr er q (some c)) : er = 0 ∧ q = 0 ∧ fr ≤ s.size ∧ s.size ≤ 256 ∧ p.size ≤ 128 ∧ MOk s fr c := by
  generalize ho : some c = o at h
  cases h with
  | long => cases ho
  | err => cases ho
  | ok h1 h2 h3 h4 h5 h6 =>
    have hm := lfO_some ho.symm
    have : fr ≤ s.size := by have := hm.lo; have := hm.mid; have := hm.hi; omega
    refine ⟨?_, rfl, this, h2, h1, hm⟩
    unfold lfE
    rw [if_neg (by omega), if_neg (by omega)]
/-- Once a place answers without an error, so does every place of the subject. -/
theorem Sol.zero' {p s : ByteArray} {fr fr' : Nat} {er q er' q' : Int} {o o' : Option Cp} (h : Sol p s fr er q o) (he : er = 0) (h' : Sol p s fr' er' q' o') (hf : fr' ≤ s.size) : er' = 0 ∧ q' = 0 := by
  cases h with
  | long => cases he
  | err h1 h2 h3 h4 => exact absurd he (coreO_err h3 h4)
  | ok h1 h2 h3 h4 h5 h6 =>
    cases h' with
    | long hl => omega
    | err k1 k2 k3 k4 =>
      obtain rfl := h3.det k3
      simp only [coreO] at k4
      rw [if_neg (by omega)] at k4
      cases k4
    | ok k1 k2 k3 k4 k5 k6 =>
      refine ⟨?_, rfl⟩
      unfold lfE
      rw [if_neg (by omega), if_neg (by omega)]
theorem Sol.zero {p s : ByteArray} {fr fr' : Nat} {q er' q' : Int} {o o' : Option Cp} (h : Sol p s fr 0 q o) (h' : Sol p s fr' er' q' o') (hf : fr' ≤ s.size) : er' = 0 ∧ q' = 0 := h.zero' rfl h' hf
/-- All matches from a place on. -/
inductive All (p s : ByteArray) : Nat → List Cp → Prop
  | stop {fr : Nat} {q : Int} : fr ≤ s.size → Sol p s fr 0 q none → All p s fr []
  | past {fr : Nat} : s.size < fr → All p s fr []
  | step {fr : Nat} {q : Int} {c : Cp} {l : List Cp} : Sol p s fr 0 q (some c) → All p s (nx c) l → All p s fr (c :: l)
theorem All.det {p s : ByteArray} {fr : Nat} {l l' : List Cp} (h : All p s fr l) (h' : All p s fr l') : l = l' := by
  induction h generalizing l' with
  | stop h1 h2 =>
    cases h' with
    | stop => rfl
    | past => rfl
    | step k1 _ => exact absurd (h2.det k1).2.2 (by simp)
  | past h1 =>
    cases h' with
    | stop => rfl
    | past => rfl
    | step k1 _ => have := k1.hit; omega
  | step h1 _ ih =>
    cases h' with
    | stop k1 k2 => exact absurd (h1.det k2).2.2 (by simp)
    | past k1 => have := h1.hit; omega
    | step k1 k2 =>
      have e := (h1.det k1).2.2
      simp only [Option.some.injEq] at e
      subst e
      rw [ih k2]
theorem nx_lt {s : ByteArray} {fr : Nat} {c : Cp} (h : MOk s fr c) : fr < nx c ∧ nx c ≤ s.size + 1 := by
  have := h.lo
  have := h.mid
  have := h.hi
  unfold nx
  split <;> omega
theorem All.asc {p s : ByteArray} {fr : Nat} {l : List Cp} (h : All p s fr l) : AscS s.size l fr ∧ l.length ≤ s.size + 1 - fr := by
  induction h with
  | stop => exact ⟨trivial, by simp⟩
  | past => exact ⟨trivial, by simp⟩
  | step h1 _ ih =>
    have hs := h1.hit
    have hn := nx_lt hs.2.2.2.2.2
    refine ⟨⟨hs.2.2.2.2.2.lo, hs.2.2.2.2.2.mid, hs.2.2.2.2.2.hi, hs.2.2.2.2.2.cap, ih.1⟩, ?_⟩
    simp only [List.length_cons]
    omega
end Go.Proofs.Qxb6500283aGreat
