import Derived.Test.Qxb6500277aGreatW11
namespace Go.Proofs.Qxb6500277aGreat
open Go Go.RowKit

def alnumB (c : Nat) : Bool := letterB c || digitB c
set_option maxRecDepth 100000 in
set_option maxHeartbeats 4000000 in
theorem mword_any (s : ByteArray) (i : Nat) (hi : i < s.size) (hsz : s.size ≤ 4096) (w : World) :
    Calls Tryz.prog 125 #[.string s, .int .i64 i] w fun e w' => (∃ n : Nat, e = .returned (.int .i64 n) ∧ ((letterB (bt s i) = false ∧ n = 0) ∨ (letterB (bt s i) = true ∧ Run alnumB s i n))) ∧ w' = w := by
  have Hbi : Hid _ := bt_at s i hi
  go_enter Tryz.func125, Tryz.ntmps125
  go_wp2_with fail
  rw [← Hbi.out]
  refine (letter_any _ _).mono ?_
  rintro e w2 ⟨rfl, rfl⟩
  cases hl : letterB (bt s i) with
  | false =>
    go_wp2_with fail
    go_ret
    exact ⟨⟨0, rfl, .inl ⟨hl, rfl⟩⟩, rfl⟩
  | true =>
    have Hl : Hid _ := hl
    clear hl
    go_wp2_with fail
    go_loopg [5] (s.size + 1 - i) (fun g nv wr => ∃ n : Nat, nv = .int .i64 n ∧ i + n + g = s.size + 1 ∧ i + n ≤ s.size ∧ (∀ j, i ≤ j → j < i + n → alnumB (bt s j) = true) ∧ wr = w2)
    case atStart => exact ⟨0, rfl, by omega, by omega, fun j h1 h2 => by omega, rfl⟩
    case round =>
      obtain ⟨n, rfl, hg, hle, hall, rfl⟩ := hrel
      have Hall : Hid _ := hall
      have Hg : Hid _ := hg
      clear hall hg
      by_cases hlt : i + n < s.size
      · have Hbt : Hid _ := bt_at s (i + n) hlt
        have t1 : 0 ≤ (i : Int) + n := by omega
        have t2 : (i : Int) + n < s.size := by omega
        go_wp2_with fail
        rw [← Hbt.out]
        refine (letter_any _ _).mono ?_
        rintro e w3 ⟨rfl, rfl⟩
        go_wp2_with fail
        rw [← Hbt.out]
        refine (digit_any _ _).mono ?_
        rintro e w4 ⟨rfl, rfl⟩
        cases hd : letterB (bt s (i + n)) with
        | true =>
          go_wp2_with fail
          go_roundg (gk - 1)
          case measure => have := Hg.out; omega
          case rel =>
            refine ⟨n + 1, by simp, by have := Hg.out; omega, by omega, fun j h1 h2 => ?_, rfl⟩
            rcases Nat.lt_or_ge j (i + n) with h | h
            · exact Hall.out j h1 h
            · rw [show j = i + n by omega, alnumB, hd]; rfl
        | false =>
          cases hd2 : digitB (bt s (i + n)) with
          | true =>
            go_wp2_with fail
            go_roundg (gk - 1)
            case measure => have := Hg.out; omega
            case rel =>
              refine ⟨n + 1, by simp, by have := Hg.out; omega, by omega, fun j h1 h2 => ?_, rfl⟩
              rcases Nat.lt_or_ge j (i + n) with h | h
              · exact Hall.out j h1 h
              · rw [show j = i + n by omega, alnumB, hd2, Bool.or_true]
          | false =>
            go_wp2_with fail
            go_ret
            exact ⟨⟨n, rfl, .inr ⟨Hl.out, hle, Hall.out, .inr (by rw [alnumB, hd, hd2]; rfl)⟩⟩, rfl⟩
      · go_wp2_with fail
        go_ret
        exact ⟨⟨n, rfl, .inr ⟨Hl.out, hle, Hall.out, .inl (by omega)⟩⟩, rfl⟩

def noteB (c : Nat) : Bool := decide (c ≠ 10)
def BlankR (s : ByteArray) (i n : Nat) : Prop :=
  (classN (bt s i) = 3 ∧ n = 1) ∨ (bt s i = 35 ∧ Run noteB s i n) ∨ (classN (bt s i) ≠ 3 ∧ bt s i ≠ 35 ∧ n = 0)
theorem class3 (c : Nat) : classN c = 3 ↔ (c = 32 ∨ c = 9 ∨ c = 10 ∨ c = 13) := by
  unfold classN
  constructor
  · intro h
    (repeat' split at h) <;> omega
  · intro h
    rw [if_neg (by omega), if_neg (by omega), if_pos h]
set_option maxRecDepth 100000 in
set_option maxHeartbeats 4000000 in
theorem blank_any (s : ByteArray) (i : Nat) (hi : i < s.size) (hsz : s.size ≤ 4096) (w : World) :
    Calls Tryz.prog 124 #[.string s, .int .i64 i] w fun e w' => (∃ n : Nat, e = .returned (.int .i64 n) ∧ BlankR s i n) ∧ w' = w := by
  obtain ⟨c, hc⟩ : ∃ c : Nat, c = s[i].toNat := ⟨_, rfl⟩
  have hb : bt s i = c := by rw [bt_at s i hi, hc]
  by_cases hbl : c = 32 ∨ c = 9 ∨ c = 10 ∨ c = 13
  · have hres : BlankR s i 1 := .inl ⟨by rw [hb]; exact (class3 c).2 hbl, rfl⟩
    have Hc : Hid _ := hc
    clear hc hb
    rcases hbl with rfl | rfl | rfl | rfl
    · have hcc : (s[i].toNat : Int) = 32 := by have := Hc.out; omega
      go_enter Tryz.func124, Tryz.ntmps124
      go_wp2_with fail
      go_ret
      exact ⟨⟨1, rfl, hres⟩, rfl⟩
    · have hcc : (s[i].toNat : Int) = 9 := by have := Hc.out; omega
      go_enter Tryz.func124, Tryz.ntmps124
      go_wp2_with fail
      go_ret
      exact ⟨⟨1, rfl, hres⟩, rfl⟩
    · have hcc : (s[i].toNat : Int) = 10 := by have := Hc.out; omega
      go_enter Tryz.func124, Tryz.ntmps124
      go_wp2_with fail
      go_ret
      exact ⟨⟨1, rfl, hres⟩, rfl⟩
    · have hcc : (s[i].toNat : Int) = 13 := by have := Hc.out; omega
      go_enter Tryz.func124, Tryz.ntmps124
      go_wp2_with fail
      go_ret
      exact ⟨⟨1, rfl, hres⟩, rfl⟩
  · have t1 : ((s[i].toNat : Int) == 32) = false := by simp; omega
    have t2 : ((s[i].toNat : Int) == 9) = false := by simp; omega
    have t3 : ((s[i].toNat : Int) == 10) = false := by simp; omega
    have t4 : ((s[i].toNat : Int) == 13) = false := by simp; omega
    have hn3 : classN (bt s i) ≠ 3 := fun e => hbl (by rw [hb] at e; exact (class3 c).1 e)
    by_cases h35 : c = 35
    · have Hb : Hid (bt s i = 35) := hb.trans h35
      have hcc : (s[i].toNat : Int) = 35 := by omega
      clear t1 t2 t3 t4 hbl hn3 hb hc h35
      go_enter Tryz.func124, Tryz.ntmps124
      go_wp2_with fail
      go_loopg [5] (s.size + 1 - i) (fun g nv wr => ∃ n : Nat, nv = .int .i64 n ∧ i + n + g = s.size + 1 ∧ i + n ≤ s.size ∧ (∀ j, i ≤ j → j < i + n → noteB (bt s j) = true) ∧ wr = w)
      case atStart => exact ⟨0, rfl, by omega, by omega, fun j h1 h2 => by omega, rfl⟩
      case round =>
        obtain ⟨n, rfl, hg, hle, hall, rfl⟩ := hrel
        have Hall : Hid _ := hall
        have Hg : Hid _ := hg
        clear hall hg
        by_cases hlt : i + n < s.size
        · have Hbt : Hid _ := bt_at s (i + n) hlt
          have t1 : 0 ≤ (i : Int) + n := by omega
          have t2 : (i : Int) + n < s.size := by omega
          by_cases hd : s[i + n].toNat = 10
          · have t3 : (s[i + n].toNat : Int) = 10 := by omega
            have Hd : Hid _ := hd
            clear hd
            go_wp2_with fail
            go_ret
            exact ⟨⟨n, rfl, .inr (.inl ⟨Hb.out, hle, Hall.out, .inr (by rw [Hbt.out, Hd.out]; rfl)⟩)⟩, rfl⟩
          · have t3 : ((s[i + n].toNat : Int) != 10) = true := by simp; omega
            have t4 : (s[i + n].toNat : Int) ≠ 10 := by omega
            have Hd : Hid _ := hd
            clear hd
            go_wp2_with fail
            go_roundg (gk - 1)
            case measure => have := Hg.out; omega
            case rel =>
              refine ⟨n + 1, by simp, by have := Hg.out; omega, by omega, fun j h1 h2 => ?_, rfl⟩
              rcases Nat.lt_or_ge j (i + n) with h | h
              · exact Hall.out j h1 h
              · rw [show j = i + n by omega, Hbt.out, noteB]; exact decide_eq_true Hd.out
        · go_wp2_with fail
          go_ret
          exact ⟨⟨n, rfl, .inr (.inl ⟨Hb.out, hle, Hall.out, .inl (by omega)⟩)⟩, rfl⟩
    · have t5 : ((s[i].toNat : Int) == 35) = false := by simp; omega
      have hres : BlankR s i 0 := .inr (.inr ⟨hn3, by rw [hb]; exact h35, rfl⟩)
      clear hbl hn3 hb hc h35
      go_enter Tryz.func124, Tryz.ntmps124
      go_wp2_with fail
      go_ret
      exact ⟨⟨0, rfl, hres⟩, rfl⟩
end Go.Proofs.Qxb6500277aGreat
