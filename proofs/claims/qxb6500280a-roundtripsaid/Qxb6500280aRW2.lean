/- The round trip's small functions: TypeText, Digits. -/
import Derived.Test.Qxb6500280aRW1
namespace Go.Proofs.Qxb6500280a
open Go Go.RowKit

def repL (l : List UInt8) : Nat → List UInt8
  | 0 => []
  | n + 1 => repL l n ++ l
theorem repL_len (l : List UInt8) : ∀ n, (repL l n).length = l.length * n
  | 0 => by simp [repL]
  | n + 1 => by simp [repL, repL_len l n, Nat.mul_succ]
theorem tyX_rep (d : Nat) (hd : d ≤ 3) : tyX (2 * (d : Int)) = repL [91, 32] d ++ [105, 110, 116] ++ repL [32, 93] d ∧ tyX (2 * (d : Int) + 1) = repL [91, 32] d ++ [98, 111, 111, 108] ++ repL [32, 93] d := by
  obtain rfl | rfl | rfl | rfl : d = 0 ∨ d = 1 ∨ d = 2 ∨ d = 3 := by omega
  all_goals decide
theorem sz_list (s : ByteArray) : s.data.toList.length = s.size := by simp
set_option maxRecDepth 100000 in
set_option maxHeartbeats 4000000 in
theorem typeF {t : Int} (ht : 0 ≤ t ∧ t < 8) (w : World) : Calls Try.prog 28 #[.int .i64 t] w fun e w' => (∃ s : ByteArray, e = .returned (.string s) ∧ s.data.toList = tyX t) ∧ w' = w := by
  go_enter Try.func28, Try.ntmps28
  go_wp2_with fail
  have Ht : Hid _ := ht
  clear ht
  go_loopg [0, 3, 4, 5] 4 (fun g tv ov sv dv wr => ∃ (d : Nat) (x y : ByteArray), dv = .int .i64 d ∧ tv = .int .i64 (t - 2 * (d : Int)) ∧ ov = .string x ∧ sv = .string y ∧ d + g = 4 ∧ d ≤ 3 ∧ 0 ≤ t - 2 * (d : Int) ∧ x.data.toList = repL [91, 32] d ∧ y.data.toList = repL [32, 93] d ∧ wr = w)
  case atStart => exact ⟨0, _, _, rfl, by simp, rfl, rfl, by omega, by omega, by have := Ht.out; omega, rfl, rfl, rfl⟩
  case round =>
    obtain ⟨d, x, y, rfl, rfl, rfl, rfl, hg, hd, h0, hx, hy, rfl⟩ := hrel
    have lx := congrArg List.length hx
    have ly := congrArg List.length hy
    rw [repL_len, sz_list] at lx ly
    simp only [List.length_cons, List.length_nil] at lx ly
    obtain ⟨t1, t2⟩ := Ht.out
    by_cases hc : d < 3 ∧ 2 ≤ t - 2 * (d : Int)
    · have z1 : decide ((d : Int) < 3) = true := decide_eq_true (by omega)
      have z2 : decide ((2 : Int) ≤ t - 2 * (d : Int)) = true := decide_eq_true hc.2
      have Hg : Hid _ := hg
      have Hx : Hid _ := hx
      have Hy : Hid _ := hy
      have bx : x.size ≤ 6 := by omega
      have by' : y.size ≤ 6 := by omega
      clear hx hy hg lx ly
      go_wp2_with fail
      go_roundg (gk - 1)
      case measure => have := Hg.out; omega
      case rel => exact ⟨d + 1, _, _, by simp, by simp; omega, rfl, rfl, by have := Hg.out; omega, by omega, by omega, by simp [repL, Hx.out], by simp [repL, Hy.out], rfl⟩
    · have Hx : Hid _ := hx
      have Hy : Hid _ := hy
      have bx : x.size ≤ 6 := by omega
      have by' : y.size ≤ 6 := by omega
      obtain ⟨u, hu⟩ : ∃ u, u = t - 2 * (d : Int) := ⟨_, rfl⟩
      have Hu : Hid _ := hu
      rw [← hu] at h0 hc ⊢
      have hu2 : u < 2 := by omega
      have z2 : decide ((2 : Int) ≤ u) = false := decide_eq_false (by omega)
      have z1 : (decide ((d : Int) < 3) = true) ∨ (decide ((d : Int) < 3) = false) := by
        by_cases h : (d : Int) < 3
        · exact .inl (decide_eq_true h)
        · exact .inr (decide_eq_false h)
      have key : u = 0 ∨ u = 1 := by omega
      clear hx hy hg lx ly hc hu
      rcases key with rfl | rfl
      · have et : t = 2 * (d : Int) := by have := Hu.out; omega
        have Het : Hid _ := et
        have Hd : Hid _ := hd
        clear et
        rcases z1 with z1 | z1
        all_goals
          go_wp2_with fail
          go_ret
          refine ⟨⟨_, rfl, ?_⟩, rfl⟩
          rw [Het.out, (tyX_rep d Hd.out).1]
          simp [Hx.out, Hy.out]
      · have et : t = 2 * (d : Int) + 1 := by have := Hu.out; omega
        have Het : Hid _ := et
        have Hd : Hid _ := hd
        clear et
        rcases z1 with z1 | z1
        all_goals
          go_wp2_with fail
          go_ret
          refine ⟨⟨_, rfl, ?_⟩, rfl⟩
          rw [Het.out, (tyX_rep d Hd.out).2]
          simp [Hx.out, Hy.out]
theorem dig1 (d : Nat) (hd : d < 10) : (ByteArray.extract ⟨#[48, 49, 50, 51, 52, 53, 54, 55, 56, 57]⟩ d (d + 1)).data.toList = [UInt8.ofNat (48 + d)] := by
  obtain rfl | rfl | rfl | rfl | rfl | rfl | rfl | rfl | rfl | rfl : d = 0 ∨ d = 1 ∨ d = 2 ∨ d = 3 ∨ d = 4 ∨ d = 5 ∨ d = 6 ∨ d = 7 ∨ d = 8 ∨ d = 9 := by omega
  all_goals decide
theorem pow_lt {m f : Nat} (h : m < 10 ^ f) (h0 : m ≠ 0) : ∃ f', f = f' + 1 ∧ m / 10 < 10 ^ f' := by
  cases f with
  | zero => simp at h; exact absurd h h0
  | succ f => exact ⟨f, rfl, by rw [Nat.pow_succ] at h; omega⟩
theorem dgs0 : ∀ f, dgs f 0 = []
  | 0 => rfl
  | _ + 1 => by simp [dgs]
set_option maxRecDepth 100000 in
set_option maxHeartbeats 4000000 in
theorem digitsF {v : Int} (hv : NumOk v) (w : World) : Calls Try.prog 79 #[.int .i64 v] w fun e w' => (∃ s : ByteArray, e = .returned (.string s) ∧ s.data.toList = dgT v) ∧ w' = w := by
  obtain ⟨v0, v1⟩ := hv
  by_cases hz : v = 0
  · subst hz
    go_enter Try.func79, Try.ntmps79
    go_wp2_with fail
    go_ret
    exact ⟨⟨_, rfl, rfl⟩, rfl⟩
  · obtain ⟨n, rfl⟩ : ∃ n : Nat, v = (n : Int) := ⟨v.toNat, by omega⟩
    have hn : n < 10 ^ 20 := by omega
    have hd : dgT (n : Int) = dgs 20 n := by unfold dgT; rw [if_neg (by omega)]; rfl
    have Hn : Hid _ := hn
    have Hd : Hid _ := hd
    have z0 : decide ((n : Int) ≤ 0) = false := decide_eq_false (by omega)
    have z9 : decide (n = 0) = false := decide_eq_false (by omega)
    clear hn hd
    go_enter Try.func79, Try.ntmps79
    go_wp2_with fail
    have Hv : Hid _ := v1
    clear v0 v1 hz z0 z9
    go_loopg [0, 3] 20 (fun g nv sv wr => ∃ (m : Nat) (s : ByteArray), nv = .int .i64 m ∧ sv = .string s ∧ m < 10 ^ g ∧ m ≤ 9223372036854775807 ∧ dgs 20 n = dgs g m ++ s.data.toList ∧ s.size + g ≤ 20 ∧ wr = w)
    case atStart => exact ⟨n, _, rfl, rfl, Hn.out, by have := Hv.out; omega, (List.append_nil _).symm, Nat.le_refl _, rfl⟩
    case round =>
      obtain ⟨m, s, rfl, rfl, hm, hm2, hs, hsz, rfl⟩ := hrel
      have Hm : Hid _ := hm
      have Hs : Hid _ := hs
      have bs : s.size ≤ 20 := by omega
      have Hsz : Hid _ := hsz
      by_cases h0 : m = 0
      · subst h0
        clear hm hs hsz
        go_wp2_with fail
        go_ret
        refine ⟨⟨_, rfl, ?_⟩, rfl⟩
        rw [Hd.out, Hs.out, dgs0]
        rfl
      · have z0 : decide ((0 : Int) < (m : Int)) = true := decide_eq_true (by omega)
        obtain ⟨g', hg, hm3⟩ := pow_lt hm h0
        have Hg : Hid _ := hg
        have Hm3 : Hid _ := hm3
        have H0 : Hid _ := h0
        clear hm hs hsz hg hm3
        go_wp2_with fail
        refine (rem10 m hm2 _).mono ?_
        rintro e w2 ⟨rfl, rfl⟩
        have hd10 : m % 10 < 10 := Nat.mod_lt _ (by omega)
        obtain ⟨c, hc⟩ : ∃ c, c = m % 10 := ⟨_, rfl⟩
        rw [← hc] at hd10 ⊢
        have Hc : Hid _ := hc
        clear hc h0
        go_wp2_with fail
        refine (quo10 m hm2 _).mono ?_
        rintro e w2 ⟨rfl, rfl⟩
        obtain ⟨q, hq⟩ : ∃ q, q = m / 10 := ⟨_, rfl⟩
        rw [← hq]
        have Hq : Hid _ := hq
        clear hq
        go_wp2_with fail
        go_roundg (gk - 1)
        case measure => have := Hg.out; omega
        case rel =>
          have e1 : gk - 1 = g' := by have := Hg.out; omega
          refine ⟨q, _, rfl, rfl, by rw [e1, Hq.out]; exact Hm3.out, by rw [Hq.out]; omega, ?_, ?_, rfl⟩
          · rw [Hs.out, e1, Hg.out, dgs, if_neg H0.out, Hq.out, Hc.out]
            rw [ByteArray.data_append, Array.toList_append, dig1 _ (Nat.mod_lt m (show 0 < 10 by omega)), List.append_assoc]
          · have := Hsz.out
            have := Hg.out
            simp [ByteArray.size_append, ByteArray.size_extract]
            omega
end Go.Proofs.Qxb6500280a
