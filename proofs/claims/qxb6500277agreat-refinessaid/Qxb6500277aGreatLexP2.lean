import Derived.Test.Qxb6500277aGreatLexP
namespace Go.Proofs.Qxb6500277aGreat
open Go Go.RowKit

theorem num_open {src : ByteArray} {i : Nat} {r : R} (hid : Idle r) (hl : digitB (bt src i) = true) : stepR src i r = { r with start := i, first := bt src i, state := 2, val := bt src i - 48, opn := 2 } := by
  rw [step_idle hid.1, (cls_digit _).2 hl]; simp [beginR]
def numR (r : R) (src : ByteArray) (i v : Nat) : R := { r with start := i, first := bt src i, state := 2, val := v, opn := 2 }
theorem num_run {src : ByteArray} {i n : Nat} {r : R} (hid : Idle r) (hr : Run digitB src i n) (d : ByteArray) (hd : ∀ o, o < n → bt d o = bt src (i + o)) (hn : 1 ≤ n) : ∀ m, 1 ≤ m → m ≤ n →
    (decV d m ≤ 9223372036854775807 ∧ finR src i r = finR src (i + m) (numR r src i (decV d m))) ∨ (9223372036854775807 < decV d m ∧ (finR src i r).fail = 8 ∧ (finR src i r).start = i)
  | 0, h, _ => absurd h (by omega)
  | 1, _, _ => by
    have h0 := hr.all i (by omega) (by omega)
    have hb := bt_lt src i
    have e : decV d 1 = bt src i - 48 := by simp [decV, hd 0 (by omega)]
    refine .inl ⟨by omega, ?_⟩
    rw [fin_step (by have := hr.le; omega) hid.2, num_open hid h0, e]
    rfl
  | m + 2, _, h2 => by
    rcases num_run hid hr d hd hn (m + 1) (by omega) (by omega) with ⟨h3, h4⟩ | ⟨h3, h4⟩
    · have h0 := hr.all (i + (m + 1)) (by omega) (by omega)
      have e : decV d (m + 2) = decV d (m + 1) * 10 + (bt src (i + (m + 1)) - 48) := by rw [decV, hd (m + 1) (by omega)]
      have hlt : i + (m + 1) < src.size := by have := hr.le; omega
      by_cases hov : 9223372036854775807 < decV d (m + 2)
      · refine .inr ⟨hov, ?_⟩
        have e3 : finR src (i + (m + 1)) (numR r src i (decV d (m + 1))) = finR src (i + (m + 1) + 1) { numR r src i (decV d (m + 1)) with fail := 8 } := by
          refine fin_stay hlt hid.2 ?_
          simp [feedR, numR, (cls_digit _).2 h0, ← e, hov]
        rw [h4, e3, fin_fail (by simp)]
        exact ⟨rfl, rfl⟩
      · refine .inl ⟨by omega, ?_⟩
        rw [h4, ← Nat.add_assoc i (m + 1) 1]
        refine fin_stay hlt hid.2 ?_
        simp [feedR, numR, (cls_digit _).2 h0, ← e, hov]
    · refine .inr ⟨?_, h4⟩
      exact Nat.lt_of_lt_of_le h3 (decV_mono d (m + 1) 1)
theorem ex_bt (src : ByteArray) (i n : Nat) (hle : i + n ≤ src.size) : ∀ o, o < n → bt (src.extract i (i + n)) o = bt src (i + o) := fun o ho => bt_extract src i (i + n) o (by omega) hle
theorem at_num {src : ByteArray} {i n : Nat} {ts : List Tok} {G : R} (h : At src i ts G) (hr : Run digitB src i n) (hn : 1 ≤ n) (hv : decV (src.extract i (i + n)) n ≤ 9223372036854775807) :
    At src (i + n) (ts ++ [⟨2, i, decV (src.extract i (i + n)) n, ⟨#[]⟩⟩]) G := by
  obtain ⟨r, hid, ht, hG⟩ := h.ex
  rcases num_run hid hr _ (ex_bt src i n hr.le) hn n hn (Nat.le_refl _) with ⟨h3, h4⟩ | ⟨h3, _⟩
  · refine ⟨{ r with toks := r.toks ++ [⟨2, i, decV (src.extract i (i + n)) n, ⟨#[]⟩⟩], start := i, first := bt src i, state := 0, val := decV (src.extract i (i + n)) n, opn := 2 }, ⟨rfl, hid.2⟩, by rw [← ht], ?_⟩
    rw [hG, h4]
    refine fin_close hr.le hid.2 ?_ ⟨rfl, hid.2⟩
    have : ¬ (clsAt src (i + n) = 2) := by
      rcases hr.stop with e | e
      · simp [clsAt, e]
      · by_cases hlt : i + n < src.size
        · rw [clsAt, if_pos hlt, cls_digit, e]; simp
        · rw [clsAt, if_neg hlt]; simp
    simp [feedR, numR, this, pushR]
  · omega
theorem num_big {src : ByteArray} {i n : Nat} {ts : List Tok} {G : R} (h : At src i ts G) (hr : Run digitB src i n) (hn : 1 ≤ n) (hv : 9223372036854775807 < decV (src.extract i (i + n)) n) : G.fail = 8 ∧ G.start = i := by
  obtain ⟨r, hid, ht, hG⟩ := h.ex
  rcases num_run hid hr _ (ex_bt src i n hr.le) hn n hn (Nat.le_refl _) with ⟨h3, h4⟩ | ⟨h3, h4⟩
  · omega
  · rw [hG]; exact h4

theorem mt_bytes (s : ByteArray) (i j : Nat) : Mt s i j ↔ i + (tokText j).size ≤ s.size ∧ ∀ o, o < (tokText j).size → bt s (i + o) = bt (tokText j) o := by
  unfold Mt
  constructor
  · rintro ⟨h1, h2⟩
    refine ⟨h1, fun o ho => ?_⟩
    rw [← bt_extract s i (i + (tokText j).size) o (by omega) h1, h2]
  · rintro ⟨h1, h2⟩
    refine ⟨h1, ByteArray.ext_getElem (by rw [size_ex _ _ _ h1]; omega) fun o h3 h4 => ?_⟩
    have := h2 o h4
    rw [← bt_extract s i (i + (tokText j).size) o (by omega) h1, bt_at _ _ h3, bt_at _ _ h4] at this
    exact UInt8.toNat_inj.1 this

theorem kw_facts : ∀ m : Fin 14, guessN (tokText ((m.val + 3 : Nat) : Int)).size (bt (tokText ((m.val + 3 : Nat) : Int)) 0) = m.val + 3 ∧ ∀ o : Fin 7, o.val < (tokText ((m.val + 3 : Nat) : Int)).size → alnumB (bt (tokText ((m.val + 3 : Nat) : Int)) o.val) = true := by decide
theorem kw_fact (k : Nat) (h1 : 3 ≤ k) (h2 : k ≤ 16) : guessN (tokText k).size (bt (tokText k) 0) = k ∧ ∀ o, o < (tokText k).size → alnumB (bt (tokText k) o) = true := by
  have := kw_facts ⟨k - 3, by omega⟩
  simp only [show k - 3 + 3 = k by omega] at this
  refine ⟨this.1, fun o ho => ?_⟩
  have h6 := tokText_size k
  exact this.2 ⟨o, by omega⟩ ho

theorem fix_word {s : ByteArray} {i n kind kn : Nat} (hf : FixR s i 3 17 kind kn) (hr : Run alnumB s i n) (hn : 1 ≤ n) :
    (kn = n → wordT ⟨[], 0, i, bt s i, 0, 0, 0⟩ (s.extract i (i + n)) = ⟨kind, i, 0, ⟨#[]⟩⟩) ∧ (kn ≠ n → wordT ⟨[], 0, i, bt s i, 0, 0, 0⟩ (s.extract i (i + n)) = ⟨1, i, 0, s.extract i (i + n)⟩) := by
  have hz : (s.extract i (i + n)).size = n := by rw [size_ex _ _ _ hr.le]; omega
  unfold wordT
  simp only [hz]
  constructor
  · intro e
    have hk : kind ≠ 0 := fun h => by have := hf.no h; omega
    obtain ⟨h1, h2, h3, h4⟩ := hf.yes hk
    have hb := ((mt_bytes s i kind).1 h3).2 0 (by omega)
    rw [Nat.add_zero] at hb
    have hg : guessN n (bt s i) = kind := by rw [hb, ← e, h4]; exact (kw_fact kind h1 (by omega)).1
    have hw : s.extract i (i + n) = tokText kind := by rw [← e, h4]; exact h3.2
    rw [hg, if_pos ⟨by omega, hw⟩]
  · intro e
    rw [if_neg]
    rintro ⟨h1, h2⟩
    rcases guess_in n (bt s i) with h3 | ⟨h3, h4⟩
    · exact h1 h3
    have hsz : (tokText (guessN n (bt s i))).size = n := by rw [← h2, hz]
    have hmt : Mt s i (guessN n (bt s i)) := ⟨by rw [hsz]; exact hr.le, by rw [hsz]; exact h2⟩
    have hge := hf.max _ h3 (by omega) hmt
    rw [hsz] at hge
    have hk : kind ≠ 0 := fun h => by have := hf.no h; omega
    obtain ⟨k1, k2, k3, k4⟩ := hf.yes hk
    obtain ⟨b1, b2⟩ := (mt_bytes s i kind).1 k3
    have hlt : n < (tokText kind).size := by omega
    have := b2 n hlt
    have ha := (kw_fact kind k1 (by omega)).2 n hlt
    rw [← this] at ha
    rcases hr.stop with q | q
    · omega
    · rw [q] at ha; cases ha
end Go.Proofs.Qxb6500277aGreat
