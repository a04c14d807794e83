import Derived.Test.Qxb6500277aGreatLexP2
namespace Go.Proofs.Qxb6500277aGreat
open Go Go.RowKit

theorem ite_in' {p : Prop} [Decidable p] {P : Nat → Prop} {a b : Nat} (ha : p → P a) (hb : P b) : P (if p then a else b) := by
  split
  · exact ha (by assumption)
  · exact hb
theorem single_bt (c : Nat) : singleN c = 0 ∨ bt (tokText (singleN c)) 0 = c := by
  unfold singleN
  repeat refine ite_in' (P := fun k : Nat => k = 0 ∨ bt (tokText k) 0 = c) (fun e => .inr (by subst e; decide)) ?_
  exact .inl rfl
theorem twin_bt (a b : Nat) : twinN a b = 0 ∨ (bt (tokText (twinN a b)) 0 = a ∧ bt (tokText (twinN a b)) 1 = b) := by
  unfold twinN
  repeat refine ite_in' (P := fun k : Nat => k = 0 ∨ (bt (tokText k) 0 = a ∧ bt (tokText k) 1 = b)) (fun e => .inr (by obtain ⟨rfl, rfl⟩ := e; decide)) ?_
  exact .inl rfl
theorem sign_facts : ∀ m : Fin 23, ((tokText ((m.val + 17 : Nat) : Int)).size = 1 ∧ singleN (bt (tokText ((m.val + 17 : Nat) : Int)) 0) = m.val + 17) ∨
    ((tokText ((m.val + 17 : Nat) : Int)).size = 2 ∧ twinN (bt (tokText ((m.val + 17 : Nat) : Int)) 0) (bt (tokText ((m.val + 17 : Nat) : Int)) 1) = m.val + 17) := by decide
theorem sign_fact (k : Nat) (h1 : 17 ≤ k) (h2 : k ≤ 39) : ((tokText k).size = 1 ∧ singleN (bt (tokText k) 0) = k) ∨ ((tokText k).size = 2 ∧ twinN (bt (tokText k) 0) (bt (tokText k) 1) = k) := by
  have := sign_facts ⟨k - 17, by omega⟩
  simpa only [show k - 17 + 17 = k by omega] using this
theorem twin0 (a : Nat) : twinN a 0 = 0 := by simp [twinN]
theorem twin_lt {s : ByteArray} {i : Nat} {a : Nat} (h : twinN a (bt s (i + 1)) ≠ 0) : i + 2 ≤ s.size := by
  rcases Nat.lt_or_ge (i + 1) s.size with h' | h'
  · omega
  · rw [bt_out s (i + 1) h', twin0] at h; exact absurd rfl h

theorem fix_sign {s : ByteArray} {i kind n : Nat} (hi : i < s.size) (hf : FixR s i 17 40 kind n) :
    (twinN (bt s i) (bt s (i + 1)) ≠ 0 ∧ kind = twinN (bt s i) (bt s (i + 1)) ∧ n = 2 ∧ i + 2 ≤ s.size) ∨
    (twinN (bt s i) (bt s (i + 1)) = 0 ∧ singleN (bt s i) ≠ 0 ∧ kind = singleN (bt s i) ∧ n = 1) ∨
    (twinN (bt s i) (bt s (i + 1)) = 0 ∧ singleN (bt s i) = 0 ∧ kind = 0 ∧ n = 0) := by
  have from_kind : kind ≠ 0 → (n = 1 ∧ singleN (bt s i) = kind) ∨ (n = 2 ∧ twinN (bt s i) (bt s (i + 1)) = kind) := by
    intro hk
    obtain ⟨h1, h2, h3, h4⟩ := hf.yes hk
    obtain ⟨b1, b2⟩ := (mt_bytes s i kind).1 h3
    rcases sign_fact kind h1 (by omega) with ⟨e1, e2⟩ | ⟨e1, e2⟩
    · refine .inl ⟨by omega, ?_⟩
      rw [← b2 0 (by omega)] at e2; exact e2
    · refine .inr ⟨by omega, ?_⟩
      rw [← b2 0 (by omega), ← b2 1 (by omega)] at e2; exact e2
  by_cases ht : twinN (bt s i) (bt s (i + 1)) = 0
  · by_cases hg : singleN (bt s i) = 0
    · refine .inr (.inr ⟨ht, hg, ?_⟩)
      by_cases hk : kind = 0
      · exact ⟨hk, hf.no hk⟩
      · rcases from_kind hk with ⟨_, e⟩ | ⟨_, e⟩ <;> omega
    · refine .inr (.inl ⟨ht, hg, ?_⟩)
      rcases single_in (bt s i) with e | ⟨e1, e2, e3⟩
      · exact absurd e hg
      have hm : Mt s i (singleN (bt s i)) := (mt_bytes _ _ _).2 ⟨by rw [e3]; omega, fun o ho => by
        rw [e3] at ho
        have : o = 0 := by omega
        subst this
        rcases single_bt (bt s i) with q | q
        · exact absurd q hg
        · rw [q]; rfl⟩
      have hmax := hf.max _ e1 (by omega) hm
      rw [e3] at hmax
      have hk : kind ≠ 0 := fun h => by have := hf.no h; omega
      rcases from_kind hk with ⟨q1, q2⟩ | ⟨q1, q2⟩
      · exact ⟨q2.symm, q1⟩
      · omega
  · refine .inl ⟨ht, ?_⟩
    have hlt := twin_lt ht
    rcases twin_in (bt s i) (bt s (i + 1)) with e | ⟨e1, e2, e3⟩
    · exact absurd e ht
    have hm : Mt s i (twinN (bt s i) (bt s (i + 1))) := (mt_bytes _ _ _).2 ⟨by rw [e3]; omega, fun o ho => by
      rw [e3] at ho
      rcases twin_bt (bt s i) (bt s (i + 1)) with q | ⟨q1, q2⟩
      · exact absurd q ht
      · rcases (show o = 0 ∨ o = 1 by omega) with rfl | rfl
        · rw [q1]; rfl
        · rw [q2]⟩
    have hmax := hf.max _ e1 (by omega) hm
    rw [e3] at hmax
    have hk : kind ≠ 0 := fun h => by have := hf.no h; omega
    rcases from_kind hk with ⟨q1, q2⟩ | ⟨q1, q2⟩
    · omega
    · exact ⟨q2.symm, q1, hlt⟩

/-- The byte's sort, where it is no blank, no comment, no letter, no digit. -/
theorem cls_rest (c : Nat) (h1 : classN c ≠ 1) (h2 : classN c ≠ 2) (h3 : classN c ≠ 3) (h4 : c ≠ 35) : (classN c = 5 ∧ (c = 61 ∨ c = 33 ∨ c = 60 ∨ c = 62 ∨ c = 38 ∨ c = 124)) ∨ classN c = 6 ∨ (classN c = 0 ∧ singleN c = 0) := by
  have hs : classN c = 0 → singleN c = 0 := by
    intro h
    rcases single_bt c with e | e
    · exact e
    · rcases single_in c with e' | ⟨e1, e2, _⟩
      · exact e'
      · exfalso
        have key : ∀ m : Fin 23, classN (bt (tokText ((m.val + 17 : Nat) : Int)) 0) ≠ 0 := by decide
        have := key ⟨singleN c - 17, by omega⟩
        simp only [show singleN c - 17 + 17 = singleN c by omega, e] at this
        exact this h
  have n1 : ¬ ((97 ≤ c ∧ c ≤ 122) ∨ (65 ≤ c ∧ c ≤ 90) ∨ c = 95) := fun q => h1 (by unfold classN; rw [if_pos q])
  have n2 : ¬ (48 ≤ c ∧ c ≤ 57) := fun q => h2 (by unfold classN; rw [if_neg n1, if_pos q])
  have n3 : ¬ (c = 32 ∨ c = 9 ∨ c = 10 ∨ c = 13) := fun q => h3 (by unfold classN; rw [if_neg n1, if_neg n2, if_pos q])
  by_cases q5 : c = 61 ∨ c = 33 ∨ c = 60 ∨ c = 62 ∨ c = 38 ∨ c = 124
  · exact .inl ⟨by unfold classN; rw [if_neg n1, if_neg n2, if_neg n3, if_neg h4, if_pos q5], q5⟩
  · by_cases q6 : c = 40 ∨ c = 41 ∨ c = 123 ∨ c = 125 ∨ c = 91 ∨ c = 93 ∨ c = 44 ∨ c = 59 ∨ c = 43 ∨ c = 45 ∨ c = 42 ∨ c = 47 ∨ c = 37
    · exact .inr (.inl (by unfold classN; rw [if_neg n1, if_neg n2, if_neg n3, if_neg h4, if_neg q5, if_pos q6]))
    · have e : classN c = 0 := by unfold classN; rw [if_neg n1, if_neg n2, if_neg n3, if_neg h4, if_neg q5, if_neg q6]
      exact .inr (.inr ⟨e, hs e⟩)
theorem twin_sign (c b : Nat) (h : classN c ≠ 5) : twinN c b = 0 := by
  by_cases hq : c = 61 ∨ c = 33 ∨ c = 60 ∨ c = 62 ∨ c = 38 ∨ c = 124
  · exact absurd (by rcases hq with rfl | rfl | rfl | rfl | rfl | rfl <;> decide) h
  · unfold twinN
    repeat rw [if_neg (by omega)]
theorem at_sign {src : ByteArray} {i kind n : Nat} {ts : List Tok} {G : R} (h : At src i ts G) (hi : i < src.size) (hf : FixR src i 17 40 kind n)
    (h1 : classN (bt src i) ≠ 1) (h2 : classN (bt src i) ≠ 2) (h3 : classN (bt src i) ≠ 3) (h4 : bt src i ≠ 35) :
    (n = 0 ∧ G.fail = 7 ∧ G.start = i) ∨ (n ≠ 0 ∧ i + n ≤ src.size ∧ At src (i + n) (ts ++ [⟨kind, i, 0, ⟨#[]⟩⟩]) G) := by
  obtain ⟨r, hid, ht, hG⟩ := h.ex
  have hfx := fix_sign hi hf
  rw [fin_step hi hid.2, step_idle hid.1] at hG
  rcases cls_rest _ h1 h2 h3 h4 with ⟨hc, _⟩ | hc | ⟨hc, hg⟩
  · rw [hc] at hG
    have hb : beginR i (bt src i) 5 r = { r with start := i, first := bt src i, state := 4, opn := 5 } := by simp [beginR]
    rw [hb] at hG
    rcases hfx with ⟨e1, e2, e3, e4⟩ | ⟨e1, e2, e3, e4⟩ | ⟨e1, e2, e3, e4⟩
    · refine .inr ⟨by omega, by omega, ⟨{ r with toks := r.toks ++ [⟨kind, i, 0, ⟨#[]⟩⟩], start := i, first := bt src i, state := 0, opn := 5 }, ⟨rfl, hid.2⟩, by rw [← ht], ?_⟩⟩
      rw [hG, e3, show i + 2 = i + 1 + 1 by omega]
      refine fin_stay (by omega) hid.2 ?_
      simp [feedR, e1, pushR, e2]
    · refine .inr ⟨by omega, by omega, ⟨{ r with toks := r.toks ++ [⟨kind, i, 0, ⟨#[]⟩⟩], start := i, first := bt src i, state := 0, opn := 5 }, ⟨rfl, hid.2⟩, by rw [← ht], ?_⟩⟩
      rw [hG, e4]
      refine fin_close (by omega) hid.2 ?_ ⟨rfl, hid.2⟩
      simp [feedR, e1, e2, pushR, e3]
    · refine .inl ⟨e4, ?_⟩
      by_cases hlt : i + 1 < src.size
      · have : finR src (i + 1) { r with start := i, first := bt src i, state := 4, opn := 5 } = finR src (i + 1 + 1) { r with start := i, first := bt src i, state := 4, opn := 5, fail := 7 } := by
          refine fin_stay hlt hid.2 ?_
          simp [feedR, e1, e2]
        rw [hG, this, fin_fail (by simp)]
        exact ⟨rfl, rfl⟩
      · have e : i + 1 = src.size := by omega
        rw [hG, e, fin_end (by exact hid.2)]
        simp [feedR, twin0, e2]
  · rw [hc] at hG
    have hb : beginR i (bt src i) 6 r = { r with toks := r.toks ++ [⟨singleN (bt src i), i, 0, ⟨#[]⟩⟩], start := i, first := bt src i, opn := 6 } := by simp [beginR, pushR]
    rw [hb] at hG
    have htw := twin_sign (bt src i) (bt src (i + 1)) (by omega)
    have hsg := sign_ne _ hc
    rcases hfx with ⟨e1, _⟩ | ⟨e1, e2, e3, e4⟩ | ⟨e1, e2, _⟩
    · exact absurd htw e1
    · refine .inr ⟨by omega, by omega, ⟨{ r with toks := r.toks ++ [⟨singleN (bt src i), i, 0, ⟨#[]⟩⟩], start := i, first := bt src i, opn := 6 }, ⟨hid.1, hid.2⟩, ?_, by rw [hG, e4]⟩⟩
      rw [← ht, e3]
    · exact absurd e2 hsg
  · rw [hc] at hG
    have hb : beginR i (bt src i) 0 r = { r with start := i, first := bt src i, fail := 7, opn := 0 } := by simp [beginR]
    rw [hb, fin_fail (by simp)] at hG
    have htw := twin_sign (bt src i) (bt src (i + 1)) (by omega)
    rcases hfx with ⟨e1, _⟩ | ⟨e1, e2, e3, e4⟩ | ⟨e1, e2, e3, e4⟩
    · exact absurd htw e1
    · exact absurd hg e2
    · refine .inl ⟨e4, ?_⟩
      rw [hG]; exact ⟨rfl, rfl⟩
theorem at_end {src : ByteArray} {ts : List Tok} {G : R} (h : At src src.size ts G) : G.fail = 0 ∧ G.toks = ts := by
  obtain ⟨r, hid, ht, hG⟩ := h.ex
  rw [fin_end hid.2] at hG
  have : (feedR src src.size 0 7 r).1 = { r with state := 0 } := by simp [feedR, hid.1]
  rw [hG, this]
  exact ⟨hid.2, ht⟩
theorem at_start (src : ByteArray) : At src 0 [] (finR src 0 r0) := ⟨r0, ⟨rfl, rfl⟩, rfl, rfl⟩
end Go.Proofs.Qxb6500277aGreat
