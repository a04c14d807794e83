/- What holds of the machine at each byte. -/
import Derived.Test.Qxb6500277aGreatLexM
namespace Go.Proofs.Qxb6500277aGreat
open Go Go.RowKit

structure SoundT (t : Tok) : Prop where
  k0 : 0 ≤ t.kind
  k1 : t.kind < 40
  p0 : 0 ≤ t.pos
  id : t.kind = 1 → t.val = 0 ∧ 1 ≤ t.text.size ∧ t.text.size ≤ 8 ∧ t.text ≠ tokText (guessN t.text.size (bt t.text 0))
  num : t.kind = 2 → 0 ≤ t.val ∧ t.text = ⟨#[]⟩
  oth : t.kind ≠ 1 → t.kind ≠ 2 → t.val = 0 ∧ t.text = ⟨#[]⟩
def widthT (t : Tok) : Int := if t.kind = 1 then t.text.size else if t.kind = 2 then 1 else (tokText t.kind).size
def FineT (ts : List Tok) (e : Int) : Prop :=
  ∀ j (h : j < ts.length), SoundT ts[j] ∧ ts[j].kind ≠ 0 ∧ ts[j].pos + widthT ts[j] ≤ (if h' : j + 1 < ts.length then ts[j + 1].pos else e)
theorem FineT.nil (e : Int) : FineT [] e := fun j h => absurd h (by simp)
theorem FineT.mono {ts : List Tok} {e e' : Int} (h : FineT ts e) (he : e ≤ e') : FineT ts e' := fun j hj => by
  obtain ⟨h1, h2, h3⟩ := h j hj
  refine ⟨h1, h2, ?_⟩
  split
  · rename_i h'; rw [dif_pos h'] at h3; exact h3
  · rename_i h'; rw [dif_neg h'] at h3; omega
theorem FineT.snoc {ts : List Tok} {e e' : Int} {t : Tok} (h : FineT ts e) (hs : SoundT t) (hk : t.kind ≠ 0) (h1 : e ≤ t.pos) (h2 : t.pos + widthT t ≤ e') : FineT (ts ++ [t]) e' := fun j hj => by
  have hl : (ts ++ [t]).length = ts.length + 1 := by simp
  by_cases hlt : j < ts.length
  · obtain ⟨a, b, c⟩ := h j hlt
    have ej : (ts ++ [t])[j] = ts[j] := List.getElem_append_left hlt
    rw [ej]
    refine ⟨a, b, ?_⟩
    rw [dif_pos (by omega)]
    by_cases hn : j + 1 < ts.length
    · rw [dif_pos hn] at c
      rw [List.getElem_append_left hn]; exact c
    · rw [dif_neg hn] at c
      have e2 : j + 1 = ts.length := by omega
      rw [List.getElem_append_right (by omega)]
      simp only [e2, Nat.sub_self, List.getElem_cons_zero]
      omega
  · have e2 : j = ts.length := by omega
    subst e2
    have ej : (ts ++ [t])[ts.length] = t := by simp
    rw [ej, dif_neg (by omega)]
    exact ⟨hs, hk, h2⟩

structure MI (src : ByteArray) (i : Nat) (r : R) : Prop where
  st5 : r.state < 5
  le : r.start ≤ i
  val : r.val ≤ 9223372036854775807
  len : r.toks.length ≤ i
  len2 : r.state ≠ 0 → r.toks.length ≤ r.start ∧ r.start < i ∧ r.first = bt src r.start
  fine : FineT r.toks (if r.state = 0 then (i : Int) else r.start)
  word : r.state = 1 → r.fail = 0 → i ≤ r.start + 8

theorem ite_in {p : Prop} [Decidable p] {P : Nat → Prop} {a b : Nat} (ha : P a) (hb : P b) : P (if p then a else b) := by split <;> assumption
theorem guess_in (n c : Nat) : guessN n c = 1 ∨ (3 ≤ guessN n c ∧ guessN n c ≤ 16) := by
  unfold guessN
  repeat refine ite_in (P := fun k => k = 1 ∨ (3 ≤ k ∧ k ≤ 16)) (by omega) ?_
  omega
theorem single_in (c : Nat) : singleN c = 0 ∨ (17 ≤ singleN c ∧ singleN c ≤ 39 ∧ (tokText (singleN c)).size = 1) := by
  unfold singleN
  repeat refine ite_in (P := fun k : Nat => k = 0 ∨ (17 ≤ k ∧ k ≤ 39 ∧ (tokText k).size = 1)) (.inr ⟨by omega, by omega, by decide⟩) ?_
  exact .inl rfl
theorem twin_in (a b : Nat) : twinN a b = 0 ∨ (17 ≤ twinN a b ∧ twinN a b ≤ 39 ∧ (tokText (twinN a b)).size = 2) := by
  unfold twinN
  repeat refine ite_in (P := fun k : Nat => k = 0 ∨ (17 ≤ k ∧ k ≤ 39 ∧ (tokText k).size = 2)) (.inr ⟨by omega, by omega, by decide⟩) ?_
  exact .inl rfl

theorem sign_sound (k : Nat) (p : Nat) (h : 3 ≤ k) (h2 : k ≤ 39) : SoundT ⟨k, p, 0, ⟨#[]⟩⟩ :=
  ⟨by simp, by simp; omega, by simp, fun h' => by simp at h'; omega, fun h' => by simp at h'; omega, fun _ _ => ⟨rfl, rfl⟩⟩
theorem width_sign (k : Nat) (p : Nat) (h : 3 ≤ k) : widthT ⟨k, p, 0, ⟨#[]⟩⟩ = (tokText k).size := by
  unfold widthT
  simp only []
  rw [if_neg (by omega), if_neg (by omega)]
theorem bt_extract (src : ByteArray) (a b o : Nat) (h : a + o < b) (hb : b ≤ src.size) : bt (src.extract a b) o = bt src (a + o) := by
  have h1 : o < (src.extract a b).size := by rw [ByteArray.size_extract]; omega
  rw [bt_at _ _ h1, bt_at _ _ (by omega), ByteArray.getElem_extract]
theorem size_ex (src : ByteArray) (a b : Nat) (hb : b ≤ src.size) : (src.extract a b).size = b - a := by rw [ByteArray.size_extract]; omega

theorem word_fine {src : ByteArray} {i : Nat} {r : R} (h : MI src i r) (hs : r.state = 1) (h0 : r.fail = 0) (hi : i ≤ src.size) : FineT (r.toks ++ [wordT r (src.extract r.start i)]) i := by
  have h8 := h.word hs h0
  obtain ⟨h1, h2, h3⟩ := h.len2 (by omega)
  have hf := h.fine
  rw [if_neg (by omega)] at hf
  have hz := size_ex src r.start i hi
  have hb : bt (src.extract r.start i) 0 = r.first := by rw [bt_extract _ _ _ _ (by omega) hi, h3]; rfl
  unfold wordT
  split
  · rename_i hq
    rcases guess_in (src.extract r.start i).size r.first with e | ⟨e1, e2⟩
    · exact absurd e hq.1
    · refine hf.snoc (sign_sound _ _ e1 (by omega)) (show ((guessN _ _ : Nat) : Int) ≠ 0 by omega) (by simp) ?_
      rw [width_sign _ _ e1, ← hq.2, hz]
      simp; omega
  · rename_i hq
    refine hf.snoc ⟨by simp, by simp, by simp, fun _ => ⟨rfl, by simp; omega, by simp; omega, ?_⟩, fun h' => by simp at h', fun h' => absurd rfl h'⟩ (by simp) (by simp) ?_
    · simp only []
      rw [hb]
      intro e
      by_cases e1 : guessN (src.extract r.start i).size r.first = 1
      · rw [e1] at e
        have : (src.extract r.start i).size = 0 := by rw [e]; rfl
        omega
      · exact hq ⟨e1, e⟩
    · simp only [widthT, if_true]
      omega

/-- The byte is not spent: nothing is open. -/
def Idle (r : R) : Prop := r.state = 0 ∧ r.fail = 0
theorem feed_mi {src : ByteArray} {i c k : Nat} {r : R} (h : MI src i r) (h0 : r.fail = 0) (hi : i ≤ src.size) :
    ((feedR src i c k r).2 = true → MI src (i + 1) (feedR src i c k r).1) ∧ ((feedR src i c k r).2 = false → MI src i (feedR src i c k r).1 ∧ Idle (feedR src i c k r).1) := by
  have h5 := h.st5
  have hle := h.le
  have hval := h.val
  have hlen := h.len
  have hf := h.fine
  unfold feedR
  split
  · rename_i hs
    obtain ⟨l1, l2, l3⟩ := h.len2 (by omega)
    have h8 := h.word hs h0
    rw [if_neg (by omega)] at hf
    split
    · refine ⟨fun _ => ?_, fun e => by cases e⟩
      split
      · exact ⟨h5, by simp; omega, hval, by simp; omega, fun _ => ⟨l1, by simp; omega, l3⟩, by simpa [hs] using hf, fun _ e => by simp at e⟩
      · exact (show MI src (i + 1) r from ⟨h5, by omega, hval, by omega, fun _ => ⟨l1, by omega, l3⟩, by simpa [hs] using hf, fun _ _ => by omega⟩)
    · refine ⟨(fun e => by cases e), fun _ => ⟨⟨by simp, hle, hval, ?_, fun e => absurd rfl e, ?_, fun e => by simp at e⟩, rfl, h0⟩⟩
      · simp [pushR]; omega
      · simpa [pushR] using word_fine h hs h0 hi
  · split
    · rename_i hs
      obtain ⟨l1, l2, l3⟩ := h.len2 (by omega)
      rw [if_neg (by omega)] at hf
      split
      · refine ⟨fun _ => ?_, fun e => ?_⟩
        · split
          · exact ⟨h5, by simp; omega, hval, by simp; omega, fun _ => ⟨l1, by simp; omega, l3⟩, by simpa [hs] using hf, fun _ e => by simp at e⟩
          · exact ⟨h5, by simp; omega, by simp; omega, by simp; omega, fun _ => ⟨l1, by simp; omega, l3⟩, by simpa [hs] using hf, fun e => by simp at e; omega⟩
        · split at e <;> cases e
      · refine ⟨(fun e => by cases e), fun _ => ⟨⟨by simp, hle, hval, ?_, fun e => absurd rfl e, ?_, fun e => by simp at e⟩, rfl, h0⟩⟩
        · simp [pushR]; omega
        · refine (hf.snoc (t := ⟨2, r.start, r.val, ⟨#[]⟩⟩) ⟨by simp, by simp, by simp, fun e => by simp at e, fun _ => ⟨by simp, rfl⟩, fun _ e => absurd rfl e⟩ (by simp) (by simp) ?_ : FineT _ (i : Int))
          simp [widthT]; omega
    · split
      · rename_i hs
        obtain ⟨l1, l2, l3⟩ := h.len2 (by omega)
        rw [if_neg (by omega)] at hf
        split
        · exact ⟨fun _ => (show MI src (i + 1) r from ⟨h5, by omega, hval, by omega, fun _ => ⟨l1, by omega, l3⟩, by simpa [hs] using hf, fun e => by omega⟩), fun e => by cases e⟩
        · refine ⟨(fun e => by cases e), fun _ => ⟨⟨by simp, hle, hval, hlen, fun e => absurd rfl e, ?_, fun e => by simp at e⟩, rfl, h0⟩⟩
          exact hf.mono (by simp; omega)
      · split
        · rename_i hs
          obtain ⟨l1, l2, l3⟩ := h.len2 (by omega)
          rw [if_neg (by omega)] at hf
          split
          · rename_i ht
            rcases twin_in r.first c with e | ⟨e1, e2, e3⟩
            · exact absurd e ht
            refine ⟨fun _ => ⟨by simp, by simp [pushR]; omega, hval, by simp [pushR]; omega, fun e => absurd rfl e, ?_, fun e => by simp at e⟩, fun e => by cases e⟩
            refine (hf.snoc (sign_sound (twinN r.first c) r.start (by omega) e2) (show ((twinN _ _ : Nat) : Int) ≠ 0 by omega) (by simp) ?_ : FineT _ ((i + 1 : Nat) : Int))
            rw [width_sign _ _ (by omega), e3]
            simp; omega
          · split
            · exact ⟨fun _ => ⟨h5, by simp; omega, hval, by simp; omega, fun _ => ⟨l1, by simp; omega, l3⟩, by simpa [hs] using hf, fun _ e => by simp at e⟩, fun e => by cases e⟩
            · rename_i hg
              rcases single_in r.first with e | ⟨e1, e2, e3⟩
              · exact absurd e hg
              refine ⟨(fun e => by cases e), fun _ => ⟨⟨by simp, hle, hval, by simp [pushR]; omega, fun e => absurd rfl e, ?_, fun e => by simp at e⟩, rfl, h0⟩⟩
              refine (hf.snoc (sign_sound (singleN r.first) r.start (by omega) e2) (show ((singleN _ : Nat) : Int) ≠ 0 by omega) (by simp) ?_ : FineT _ (i : Int))
              rw [width_sign _ _ (by omega), e3]
              simp; omega
        · have hs : r.state = 0 := by omega
          rw [if_pos hs] at hf
          exact ⟨fun e => by (cases e), fun _ => ⟨⟨by simp, hle, hval, hlen, fun e => absurd rfl e, by simpa using hf, fun e => by simp at e⟩, rfl, h0⟩⟩
theorem sign_ne (c : Nat) (h : classN c = 6) : singleN c ≠ 0 := by
  have : c = 40 ∨ c = 41 ∨ c = 123 ∨ c = 125 ∨ c = 91 ∨ c = 93 ∨ c = 44 ∨ c = 59 ∨ c = 43 ∨ c = 45 ∨ c = 42 ∨ c = 47 ∨ c = 37 := by
    unfold classN at h
    (repeat' split at h) <;> omega
  rcases this with rfl | rfl | rfl | rfl | rfl | rfl | rfl | rfl | rfl | rfl | rfl | rfl | rfl <;> decide
theorem begin_mi {src : ByteArray} {i : Nat} {r : R} (h : MI src i r) (hid : Idle r) : MI src (i + 1) (beginR i (bt src i) (classN (bt src i)) r) := by
  have hval := h.val
  have hlen := h.len
  have hf := h.fine
  obtain ⟨hs, h0⟩ := hid
  rw [if_pos hs] at hf
  have hbl := bt_lt src i
  have hfm := hf.mono (show (i : Int) ≤ ((i + 1 : Nat) : Int) by omega)
  unfold beginR
  split
  · exact ⟨by simp, by simp, hval, by simp; omega, fun _ => ⟨hlen, by simp, rfl⟩, by simpa using hf, fun _ _ => by simp⟩
  · split
    · exact ⟨by simp, by simp, by simp; omega, by simp; omega, fun _ => ⟨hlen, by simp, rfl⟩, by simpa using hf, fun e => by simp at e⟩
    · split
      · exact ⟨by simp, by simp, hval, by simp; omega, fun _ => ⟨hlen, by simp, rfl⟩, by simpa using hf, fun e => by simp at e⟩
      · split
        · exact ⟨by simp, by simp, hval, by simp; omega, fun _ => ⟨hlen, by simp, rfl⟩, by simpa using hf, fun e => by simp at e⟩
        · split
          · rename_i hk
            rcases single_in (bt src i) with e | ⟨e1, e2, e3⟩
            · exact absurd e (sign_ne _ hk)
            refine ⟨by simp [pushR, hs], by simp, hval, by simp [pushR]; omega, fun e => absurd hs e, ?_, fun e => by simp [pushR, hs] at e⟩
            have := hf.snoc (e' := ((i + 1 : Nat) : Int)) (sign_sound (singleN (bt src i)) i (by omega) e2) (show ((singleN _ : Nat) : Int) ≠ 0 by omega) (by simp) (by rw [width_sign _ _ (by omega), e3]; simp)
            simpa [pushR, hs] using this
          · split
            · exact ⟨by simp [hs], by simp, hval, by simp; omega, fun e => absurd hs e, by simpa [hs] using hfm, fun e => by simp [hs] at e⟩
            · exact ⟨by simp [hs], by simp, hval, by simp; omega, fun e => absurd hs e, by simpa [hs] using hfm, fun e => by simp [hs] at e⟩
theorem step_mi {src : ByteArray} {i : Nat} {r : R} (h : MI src i r) (h0 : r.fail = 0) (hi : i ≤ src.size) : MI src (i + 1) (stepR src i r) := by
  obtain ⟨h1, h2⟩ := feed_mi (c := bt src i) (k := classN (bt src i)) h h0 hi
  unfold stepR
  simp only []
  split
  · rename_i hb; exact h1 hb
  · rename_i hb
    obtain ⟨a, b⟩ := h2 (by simpa using hb)
    exact begin_mi a b
theorem class_digit (c : Nat) (e : classN c = 2) : 48 ≤ c ∧ c ≤ 57 := by
  unfold classN at e
  (repeat' split at e) <;> omega
def r0 : R := ⟨[], 0, 0, 0, 0, 0, 0⟩
theorem r0_mi (src : ByteArray) : MI src 0 r0 := ⟨by simp [r0], by simp [r0], by simp [r0], by simp [r0], fun e => absurd rfl e, FineT.nil _, fun e => by simp [r0] at e⟩
theorem fin_step {src : ByteArray} {i : Nat} {r : R} (hi : i < src.size) (h0 : r.fail = 0) : finR src i r = finR src (i + 1) (stepR src i r) := by
  unfold finR
  rw [show src.size - i = (src.size - (i + 1)) + 1 by omega, runR, if_pos h0]
theorem fin_fail {src : ByteArray} {i : Nat} {r : R} (h0 : r.fail ≠ 0) : finR src i r = r := by
  unfold finR
  have : runR src (src.size - i) i r = r := by
    cases src.size - i with
    | zero => rfl
    | succ n => rw [runR, if_neg h0]
  rw [this, endR, if_neg h0]
theorem fin_end {src : ByteArray} {r : R} (h0 : r.fail = 0) : finR src src.size r = (feedR src src.size 0 7 r).1 := by
  unfold finR
  rw [Nat.sub_self, runR, endR, if_pos h0]
theorem end_mi {src : ByteArray} {r : R} (h : MI src src.size r) (h0 : r.fail = 0) : MI src (src.size + 1) (feedR src src.size 0 7 r).1 ∧ ((feedR src src.size 0 7 r).1.fail = 0 → MI src src.size (feedR src src.size 0 7 r).1 ∧ Idle (feedR src src.size 0 7 r).1) := by
  obtain ⟨h1, h2⟩ := feed_mi (c := 0) (k := 7) h h0 (Nat.le_refl _)
  cases hb : (feedR src src.size 0 7 r).2 with
  | true =>
    refine ⟨h1 hb, fun e => ?_⟩
    exfalso
    unfold feedR at hb e
    split at hb
    · simp at hb
    · split at hb
      · simp at hb
      · split at hb
        · simp at hb
        · split at hb
          · have ht : twinN r.first 0 = 0 := by simp [twinN]
            rw [if_neg (by simpa using ht)] at hb
            split at hb
            · rename_i q4 q5
              simp [q4, ht, q5] at e
            · cases hb
          · cases hb
  | false =>
    obtain ⟨a, b⟩ := h2 hb
    refine ⟨⟨a.st5, Nat.le_succ_of_le a.le, a.val, Nat.le_succ_of_le a.len, fun e => absurd b.1 e, ?_, fun e => absurd e (by rw [b.1]; simp)⟩, fun _ => ⟨a, b⟩⟩
    have := a.fine
    rw [if_pos b.1] at this ⊢
    exact this.mono (by omega)
end Go.Proofs.Qxb6500277aGreat
