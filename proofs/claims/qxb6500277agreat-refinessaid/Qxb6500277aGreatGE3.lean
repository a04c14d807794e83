/- The emitters. -/
import Derived.Test.Qxb6500277aGreatGE2
namespace Go.Proofs.Qxb6500277aGreat
open Go Go.RowKit

set_option maxRecDepth 100000 in
set_option maxHeartbeats 1000000 in
theorem apU16 {w : World} {v : Value} {p : List Nat} (h : BAt w v p) (a : Nat) (ha : a < 65536) (hl : p.length ≤ 50000) : Calls Tryz.prog 228 #[v, .int .i64 (a : Nat)] w (ApR w v (p ++ u16b a)) := by
  have e1 : ((a % 256 : Nat) : Int) = (a : Int) % 256 := by omega
  have e2 : ((a / 256 % 256 : Nat) : Int) = (a : Int) / 256 := by omega
  have kA := (Fr.refl (fun _ => False) w).alloc (.cells #[.int .u8 ((a : Int) % 256), .int .u8 ((a : Int) / 256)] 5)
  have hcode := h.frame kA (fun _ _ => id)
  have hm := made_bytes w (u16b a) #[.int .u8 ((a : Int) % 256), .int .u8 ((a : Int) / 256)] (by rw [← e1, ← e2]; rfl)
  have Hh : Hid _ := kA
  clear h kA e1 e2
  go_enter Tryz.func228, Tryz.ntmps228
  go_wp2_with (
    at_builtin
    refine wpList_appB (by rfl) _ _ (by rfl) _ _ (u16b a) _ 2 2 (by rfl) (by rfl) rfl hcode hm (by simp [u16b]) (by simp [u16b]; omega) ?_
    intro v' w8 hc5 hb5 f5
    have Hc5 : Hid _ := And.intro hc5 (And.intro hb5 f5)
    clear hc5 hb5 f5)
  go_ret
  obtain ⟨hc5, hb5, f5⟩ := Hc5.out
  exact ⟨v', rfl, hc5, fun b hb => (hb5 b hb).imp (fun h => Nat.le_trans Hh.out.size h) id, (Hh.out.mono fun _ _ h => h.elim).trans f5 fun _ _ h => h⟩
theorem i64b_take (v : Int) (k : Nat) (hk : k < 8) : (i64b v).take (k + 1) = (i64b v).take k ++ [u64n v / 256 ^ k % 256] := by
  obtain rfl | rfl | rfl | rfl | rfl | rfl | rfl | rfl : k = 0 ∨ k = 1 ∨ k = 2 ∨ k = 3 ∨ k = 4 ∨ k = 5 ∨ k = 6 ∨ k = 7 := by omega
  all_goals simp [i64b]
theorem u64n_wrap (v : Int) : IntKind.u64.wrap v = ((u64n v : Nat) : Int) := by
  unfold u64n
  rw [Int.toNat_of_nonneg (by omega)]
  rfl
set_option maxRecDepth 100000 in
set_option maxHeartbeats 1000000 in
theorem apI64 {w : World} {v : Value} {p : List Nat} (h : BAt w v p) (x : Int) (hl : p.length ≤ 50000) : Calls Tryz.prog 153 #[v, .int .i64 x] w (ApR w v (p ++ i64b x)) := by
  have hw := u64n_wrap x
  go_enter Tryz.func153, Tryz.ntmps153
  go_wp2_with fail
  go_loopg [0, 5, 6] 8 (fun g cv uv jv wr => ∃ k : Nat, k + g = 8 ∧ uv = .int .u64 (u64n x / 256 ^ k : Nat) ∧ jv = .int .i64 (k : Nat) ∧ BAt wr cv (p ++ (i64b x).take k) ∧ (∀ b, isB cv b → w.heap.size ≤ b ∨ isB v b) ∧ Fr (isB v) w wr)
  case atStart => exact ⟨0, rfl, by simp, rfl, by simpa using h, fun b hb => .inr hb, Fr.refl _ _⟩
  case round =>
    obtain ⟨k, hk, rfl, rfl, hK, hbk, hfr⟩ := hrel
    have hk' : k + gk = 8 := hk
    clear hk
    by_cases hlt : k < 8
    · have hI : decide ((k : Int) < 8) = true := decide_eq_true (by omega)
      obtain ⟨u, hu⟩ : ∃ u : Nat, u = u64n x / 256 ^ k := ⟨_, rfl⟩
      have hu64 : u < 18446744073709551616 := by
        rw [hu]
        refine Nat.lt_of_le_of_lt (Nat.div_le_self _ _) ?_
        unfold u64n; omega
      have hu2 : u64n x / 256 ^ (k + 1) = u / 256 := by rw [hu, Nat.pow_succ, Nat.div_div_eq_div_mul]
      have ht := i64b_take x k hlt
      rw [← hu] at ht
      rw [← hu]
      have Hu : Hid _ := And.intro hu2 ht
      have e1 : ((u % 256 : Nat) : Int) = (u : Int) % 256 := by omega
      have kA := (Fr.refl (fun _ => False) wr).alloc (.cells #[.int .u8 ((u : Int) % 256)] 5)
      have hcode := hK.frame kA (fun _ _ => id)
      have hm := made_bytes wr [u % 256] #[.int .u8 ((u : Int) % 256)] (by rw [← e1]; rfl)
      have hlen : (p ++ (i64b x).take k).length ≤ 60000 := by simp; omega
      have Hh : Hid _ := And.intro kA (And.intro hbk hfr)
      clear hu hu2 ht e1 hK kA hbk hfr hw h
      go_wp2_with (
        at_builtin
        refine wpList_appB (by rfl) _ _ (by rfl) _ _ [u % 256] _ 1 1 (by rfl) (by rfl) rfl hcode hm (by simp) (by simp only [List.length_cons, List.length_nil]; omega) ?_
        intro v' w8 hc5 hb5 f5
        have Hc5 : Hid _ := And.intro hc5 (And.intro hb5 f5)
        clear hc5 hb5 f5)
      go_roundg (gk - 1)
      case measure => omega
      case rel =>
        obtain ⟨hc5, hb5, f5⟩ := Hc5.out
        refine ⟨k + 1, by omega, ?_, by simp, ?_, ?_, ?_⟩
        · rw [Hu.out.1]; simp
        · rw [Hu.out.2, ← List.append_assoc]; exact hc5
        · intro b hb
          rcases hb5 b hb with h1 | h1
          · exact .inl (Nat.le_trans Hh.out.2.2.size (Nat.le_trans Hh.out.1.size h1))
          · exact Hh.out.2.1 b h1
        · exact Hh.out.2.2.trans ((Hh.out.1.mono (S' := isB u0) fun _ _ h => h.elim).trans f5 fun _ _ h => h) fun b hb h => by
            rcases Hh.out.2.1 b h with h1 | h1
            · omega
            · exact h1
    · have hI : decide ((k : Int) < 8) = false := decide_eq_false (by omega)
      obtain rfl : k = 8 := by omega
      go_wp2_with fail
      go_ret
      exact ⟨_, rfl, by simpa [i64b] using hK, hbk, hfr⟩
end Go.Proofs.Qxb6500277aGreat
