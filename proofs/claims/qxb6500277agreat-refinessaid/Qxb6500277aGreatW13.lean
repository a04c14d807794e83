import Derived.Test.Qxb6500277aGreatW12
namespace Go.Proofs.Qxb6500277aGreat
open Go Go.RowKit

def decV (d : ByteArray) : Nat → Nat
  | 0 => 0
  | n + 1 => decV d n * 10 + (bt d n - 48)
theorem decV_mono (d : ByteArray) (n : Nat) : ∀ k, decV d n ≤ decV d (n + k)
  | 0 => Nat.le_refl _
  | k + 1 => by
    have := decV_mono d n k
    rw [← Nat.add_assoc, decV]
    omega
set_option maxRecDepth 100000 in
set_option maxHeartbeats 4000000 in
theorem value_any (d : ByteArray) (hsz : d.size ≤ 4096) (hd : ∀ j, j < d.size → digitB (bt d j) = true) (w : World) :
    Calls Tryz.prog 128 #[.string d] w fun e w' => ((decV d d.size ≤ 9223372036854775807 ∧ e = .returned (.tuple #[.int .i64 (decV d d.size), .bool true])) ∨ (9223372036854775807 < decV d d.size ∧ e = .returned (.tuple #[.int .i64 0, .bool false]))) ∧ w' = w := by
  go_enter Tryz.func128, Tryz.ntmps128
  go_wp2_with fail
  go_loopg [4, 5] d.size (fun g vv iv wr => ∃ i : Nat, iv = .int .i64 i ∧ vv = .int .i64 (decV d i) ∧ i + g = d.size ∧ decV d i ≤ 9223372036854775807 ∧ wr = w)
  case atStart => exact ⟨0, rfl, rfl, by omega, by simp [decV], rfl⟩
  case round =>
    obtain ⟨i, rfl, rfl, hg, hle, rfl⟩ := hrel
    have hg' : i + gk = d.size := hg
    have Hle : Hid _ := hle
    obtain ⟨v, hv⟩ : ∃ v, v = decV d i := ⟨_, rfl⟩
    have Hv : Hid _ := hv
    rw [← hv] at hle ⊢
    clear hg
    by_cases hlt : i < d.size
    · have h1 := hd i hlt
      obtain ⟨k, hk⟩ : ∃ k, k = bt d i - 48 := ⟨_, rfl⟩
      have hk9 : k ≤ 9 ∧ bt d i = k + 48 := by simp [digitB] at h1; omega
      have hs : decV d (i + 1) = v * 10 + k := by rw [decV, ← hv, ← hk]
      have hcc : (d[i].toNat : Int) = k + 48 := by rw [← bt_at d i hlt]; omega
      have hk' : k ≤ 9 := hk9.1
      have Hs : Hid _ := hs
      have Hd : Hid _ := hd
      clear h1 hk9 hk hs hv hd
      by_cases hov : 9223372036854775807 < v * 10 + k
      · have t1 : decide ((9223372036854775807 - (k : Int)) / 10 < (v : Int)) = true := by simp; omega
        have Hov : Hid _ := hov
        clear hov hle
        go_wp2_with fail
        refine bodyPost_ret (v := .tuple #[.int .i64 0, .bool false]) (by simp [results, Tryz.results128, go_sem]) rfl ⟨.inr ⟨?_, rfl⟩, rfl⟩
        have := decV_mono d (i + 1) (d.size - (i + 1))
        rw [show i + 1 + (d.size - (i + 1)) = d.size by omega, Hs.out] at this
        exact Nat.lt_of_lt_of_le Hov.out this
      · have t1 : decide ((9223372036854775807 - (k : Int)) / 10 < (v : Int)) = false := by simp; omega
        have t2 : (v : Int) * 10 + k ≤ 9223372036854775807 := by omega
        have t3 : (v : Int) * 10 ≤ 9223372036854775807 := by omega
        have Hov : Hid _ := hov
        clear hov hle
        go_wp2_with fail
        go_roundg (gk - 1)
        case measure => omega
        case rel => exact ⟨i + 1, by simp, by rw [Hs.out]; simp, by omega, by rw [Hs.out]; have := Hov.out; omega, rfl⟩
    · have hie : i = d.size := by omega
      subst hie
      clear hlt hg' hv hle
      go_wp2_with fail
      refine bodyPost_ret (v := .tuple #[.int .i64 v, .bool true]) (by simp [results, Tryz.results128, go_sem]) rfl ⟨.inl ⟨Hle.out, ?_⟩, rfl⟩
      rw [← Hv.out]

def Mt (s : ByteArray) (i j : Nat) : Prop := i + (tokText j).size ≤ s.size ∧ s.extract i (i + (tokText j).size) = tokText j
theorem ite_inB {p : Prop} [Decidable p] {P : ByteArray → Prop} {a b : ByteArray} (ha : P a) (hb : P b) : P (if p then a else b) := by split <;> assumption
theorem tokText_size (k : Int) : (tokText k).size ≤ 6 := by
  unfold tokText
  repeat refine ite_inB (P := fun s => s.size ≤ 6) (by decide) ?_
  decide
theorem tokText_posF : ∀ m : Fin 37, 1 ≤ (tokText ((m.val + 3 : Nat) : Int)).size := by decide
theorem tokText_pos (k : Nat) (h1 : 3 ≤ k) (h2 : k ≤ 39) : 1 ≤ (tokText k).size := by
  have := tokText_posF ⟨k - 3, by omega⟩
  simpa only [show k - 3 + 3 = k by omega] using this
theorem strEq {a b : ByteArray} (h : a = b) : (a.toList == b.toList) = true := by rw [h]; simp
structure FixR (s : ByteArray) (i lo hi kind n : Nat) : Prop where
  no : kind = 0 → n = 0
  yes : kind ≠ 0 → lo ≤ kind ∧ kind < hi ∧ Mt s i kind ∧ n = (tokText kind).size
  max : ∀ j, lo ≤ j → j < hi → Mt s i j → (tokText j).size ≤ n
set_option maxRecDepth 100000 in
set_option maxHeartbeats 4000000 in
theorem fixed_any (s : ByteArray) (i lo hi : Nat) (hlo : 3 ≤ lo) (hlh : lo ≤ hi) (hhi : hi ≤ 39) (hi' : i < s.size) (hsz : s.size ≤ 4096) (w : World) :
    Calls Tryz.prog 126 #[.string s, .int .i64 i, .int .i64 lo, .int .i64 hi] w fun e w' => (∃ kind n : Nat, e = .returned (.tuple #[.int .i64 kind, .int .i64 n]) ∧ FixR s i lo (hi + 1) kind n) ∧ w' = w := by
  go_enter Tryz.func126, Tryz.ntmps126
  go_wp2_with fail
  go_loopg [10, 11, 12] (hi + 1 - lo) (fun g kindv nv kv wr => ∃ kind n k : Nat, kindv = .int .i64 kind ∧ nv = .int .i64 n ∧ kv = .int .i64 k ∧ k + g = hi + 1 ∧ lo ≤ k ∧ FixR s i lo k kind n ∧ wr = w)
  case atStart => exact ⟨0, 0, lo, rfl, rfl, rfl, by omega, Nat.le_refl _, ⟨fun _ => rfl, fun h => absurd rfl h, fun j h1 h2 => by omega⟩, rfl⟩
  case round =>
    obtain ⟨kind, n, k, rfl, rfl, rfl, hg, hlk, hfx, rfl⟩ := hrel
    have hg' : k + gk = hi + 1 := hg
    clear hg
    by_cases hk : k ≤ hi
    · obtain ⟨T, hT⟩ : ∃ T, T = tokText k := ⟨_, rfl⟩
      have hT6 : T.size ≤ 6 := by rw [hT]; exact tokText_size _
      have hT1 : 1 ≤ T.size := by rw [hT]; exact tokText_pos k (by omega) (by omega)
      have HT : Hid _ := hT
      have Hfx : Hid _ := hfx
      have Hno : Hid (¬ (n < T.size ∧ Mt s i k) → FixR s i lo (k + 1) kind n) := fun hn => ⟨hfx.no, fun e => by have := hfx.yes e; exact ⟨this.1, by omega, this.2.2⟩, fun j h1 h2 hm => by
        rcases Nat.lt_or_ge j k with h | h
        · exact hfx.max j h1 h hm
        · have e : j = k := by omega
          subst e
          rw [← hT]
          exact Nat.le_of_not_lt fun h => hn ⟨h, hm⟩⟩
      have Hyes : Hid (n < T.size ∧ Mt s i k → FixR s i lo (k + 1) k T.size) := fun hn => ⟨fun e => by omega, fun _ => ⟨hlk, by omega, hn.2, by rw [hT]⟩, fun j h1 h2 hm => by
        rcases Nat.lt_or_ge j k with h | h
        · have := hfx.max j h1 h hm; omega
        · have e : j = k := by omega
          subst e
          rw [← hT]; exact Nat.le_refl _⟩
      clear hT hfx
      go_wp2_with fail
      refine (tokText_any _ _).mono ?_
      rintro e w2 ⟨rfl, rfl⟩
      rw [← HT.out]
      by_cases h1 : n < T.size
      · by_cases h2 : i + T.size ≤ s.size
        · have t2 : decide ((T.size : Int) ≤ (s.size : Int) - i) = true := by simp; omega
          have t3 : (0 : Int) ≤ (i : Int) + T.size := by omega
          have t4 : (i : Int) + T.size ≤ s.size := by omega
          by_cases h3 : s.extract i (i + T.size) = T
          · have H3 : Hid _ := h3
            have t5 := strEq h3
            clear h3
            go_wp2_with fail
            go_roundg (gk - 1)
            case measure => omega
            case rel => exact ⟨k, T.size, k + 1, rfl, rfl, by simp, by omega, by omega, Hyes.out ⟨h1, by unfold Mt; rw [← HT.out]; exact ⟨h2, H3.out⟩⟩, rfl⟩
          · have H3 : Hid _ := h3
            have t5 := strNe h3
            clear h3
            go_wp2_with fail
            go_roundg (gk - 1)
            case measure => omega
            case rel => exact ⟨kind, n, k + 1, rfl, rfl, by simp, by omega, by omega, Hno.out (by unfold Mt; rw [← HT.out]; exact fun h => H3.out h.2.2), rfl⟩
        · have t2 : decide ((T.size : Int) ≤ (s.size : Int) - i) = false := by simp; omega
          have H2 : Hid _ := h2
          clear h2
          go_wp2_with fail
          go_roundg (gk - 1)
          case measure => omega
          case rel => exact ⟨kind, n, k + 1, rfl, rfl, by simp, by omega, by omega, Hno.out (by unfold Mt; rw [← HT.out]; exact fun h => H2.out h.2.1), rfl⟩
      · go_wp2_with fail
        go_roundg (gk - 1)
        case measure => omega
        case rel => exact ⟨kind, n, k + 1, rfl, rfl, by simp, by omega, by omega, Hno.out (fun h => h1 h.1), rfl⟩
    · have hke : k = hi + 1 := by omega
      subst hke
      have Hfx : Hid _ := hfx
      clear hk hfx hg'
      go_wp2_with fail
      exact bodyPost_ret (v := .tuple #[.int .i64 kind, .int .i64 n]) (by simp [results, Tryz.results126, go_sem]) rfl ⟨⟨kind, n, rfl, Hfx.out⟩, rfl⟩
end Go.Proofs.Qxb6500277aGreat
