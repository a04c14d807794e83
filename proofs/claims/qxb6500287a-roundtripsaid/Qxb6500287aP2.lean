/- Has, putByte, wants. -/
import Derived.Test.Qxb6500287aP1
namespace Go.Proofs.Qxb6500287a
open Go Go.RowKit

theorem fresh_bytes (w : World) (t : List Nat) (cs : Array Value) (h : cs = (btRow t).toArray) : ∀ j (h : j < t.length), (w.alloc (.cells cs 5)).cell? ⟨w.heap.size, j, none⟩ = some (.int .u8 (t[j] : Nat)) := by
  intro j hj
  subst h
  have hb := Blk.new w (btRow t).toArray 5 (fun o => (btRow t).toArray.getD o undef) (fun o ho => by
    rw [Array.getElem?_eq_getElem ho, Array.getD_eq_getD_getElem?, Array.getElem?_eq_getElem ho]; rfl)
  rw [hb.cell (by simp [btRow]; exact hj)]
  simp [btRow, hj]
theorem and15b : ∀ m : Fin 256, bits BinOp.and IntKind.u8 (m.val : Int) 15 = ((m.val % 16 : Nat) : Int) := by decide +kernel
theorem and63u : ∀ m : Fin 256, bits BinOp.and IntKind.u8 (m.val : Int) 63 = ((m.val % 64 : Nat) : Int) := by decide +kernel
theorem word4 (P : BSet) (k : Nat) (h : k < 4) : [Value.int .u64 (wd P 0 : Nat), .int .u64 (wd P 1 : Nat), .int .u64 (wd P 2 : Nat), .int .u64 (wd P 3 : Nat)][k]? = some (.int .u64 (wd P k : Nat)) := by
  obtain rfl | rfl | rfl | rfl : k = 0 ∨ k = 1 ∨ k = 2 ∨ k = 3 := by omega
  all_goals rfl
theorem has_bit (P : BSet) (c : Nat) : bits BinOp.and IntKind.u64 ((wd P (c / 64) : Int) / 2 ^ (c % 64)) 1 = if P c then 1 else 0 := by
  have h1 : ((wd P (c / 64) : Int) / 2 ^ (c % 64)) = ((wd P (c / 64) / 2 ^ (c % 64) : Nat) : Int) := by simp
  have hl : wd P (c / 64) / 2 ^ (c % 64) < 18446744073709551616 := Nat.lt_of_le_of_lt (Nat.div_le_self _ _) (wd_lt _ _)
  have h2 := bits_and_u64_nat (wd P (c / 64) / 2 ^ (c % 64)) 1 hl (by omega)
  rw [h1]
  rw [show ((1 : Nat) : Int) = 1 from rfl] at h2
  rw [h2, Nat.and_one_is_mod, wd_has]
  split <;> rfl
set_option maxHeartbeats 1000000 in
theorem has_any (P : BSet) (c : Nat) (hc : c < 256) (w : World) : Calls Try.prog 50 #[setV P, .int .u8 (c : Nat)] w fun e w' => e = .returned (.bool (P c)) ∧ Fr (fun _ => False) w w' := by
  have hg := word4 P (c / 64) (by omega)
  have h63 := and63u ⟨c, hc⟩
  simp only at h63
  have hb0 := has_bit P c
  unfold setV
  cases hp : P c with
  | true =>
    have hb : bits BinOp.and IntKind.u64 ((wd P (c / 64) : Int) / 2 ^ (c % 64)) 1 = 1 := by rw [hb0, hp]; rfl
    clear hb0
    go_enter Try.func50, Try.ntmps50
    go_wp2_with fail
    go_ret
    exact ⟨rfl, (Fr.refl _ _).alloc _⟩
  | false =>
    have hb : bits BinOp.and IntKind.u64 ((wd P (c / 64) : Int) / 2 ^ (c % 64)) 1 = 0 := by rw [hb0, hp]; rfl
    clear hb0
    go_enter Try.func50, Try.ntmps50
    go_wp2_with fail
    go_ret
    exact ⟨rfl, (Fr.refl _ _).alloc _⟩
set_option maxRecDepth 100000 in
set_option maxHeartbeats 4000000 in
theorem putByte_any {w : World} {v : Value} {l : List Nat} (h : BtAt w v l) (hlen : l.length ≤ 1099511627776) (c : Nat) (hc : c < 256) : Calls Try.prog 51 #[v, .int .u8 (c : Nat)] w fun e w' => ∃ v', e = .returned v' ∧ Put w v l (byteT c) v' w' := by
  obtain ⟨a, n, cap, rfl⟩ := h.sl
  have h15 := and15b ⟨c, hc⟩
  simp only at h15
  have e16 : ((c : Int) / 16) = ((c / 16 : Nat) : Int) := by omega
  have F1 := (Fr.refl (fun _ => False) w).alloc (.cells #[.int .u8 92, .int .u8 120, .int .u8 (hexC (c / 16) : Nat), .int .u8 (hexC (c % 16) : Nat)] 5)
  have hv1 := h.frame F1 (fun _ _ h => h)
  have hfb := fresh_bytes w (byteT c) #[.int .u8 92, .int .u8 120, .int .u8 (hexC (c / 16) : Nat), .int .u8 (hexC (c % 16) : Nat)] rfl
  have Hfb : Hid _ := hfb
  have H16 : Hid _ := e16
  clear hfb e16
  go_enter Try.func51, Try.ntmps51
  go_wp2_with fail
  rw [H16.out]
  refine (hexOf_any (c / 16) (by omega) _).mono ?_
  rintro e w1 ⟨rfl, rfl⟩
  go_wp2_with fail
  refine (hexOf_any (c % 16) (by omega) _).mono ?_
  rintro e w2 ⟨rfl, rfl⟩
  go_wp2_with (at_builtin; refine wpList_appendB (by rfl) _ _ (by rfl) (.slice a n cap) l (byteT c) _ (by rfl) (by rfl) hv1 Hfb.out (by simp [byteT]) (by simp [byteT]) hlen ?_; intro v' w8 hP; obtain ⟨a8, n8, cap8, rfl⟩ := hP.bt.sl)
  go_ret
  exact ⟨_, rfl, hP.pre F1⟩
end Go.Proofs.Qxb6500287a
