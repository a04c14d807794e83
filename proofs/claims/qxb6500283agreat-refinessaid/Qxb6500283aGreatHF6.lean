/- The output's bytes; lay of nothing. -/
import Derived.Test.Qxb6500283aGreatHF5
namespace Go.Proofs.Qxb6500283aGreat
open Go Go.RowKit

def bytes (t : ByteArray) (lo n : Nat) : List UInt8 := (List.range n).map fun k => t.data.getD (lo + k) 0
theorem bytes_len (t : ByteArray) (lo n : Nat) : (bytes t lo n).length = n := by simp [bytes]
def HoldsB (f : Nat → Value) (l : List UInt8) : Prop := ∀ o (h : o < l.length), f o = .int .u8 (l[o].toNat : Nat)
theorem HoldsB.lay {f : Nat → Value} {l : List UInt8} (h : HoldsB f l) (t : ByteArray) (lo n : Nat) : HoldsB (layF f l.length t lo n) (l ++ bytes t lo n) := by
  intro o ho
  unfold layF
  by_cases he : o < l.length
  · rw [if_neg (by omega), List.getElem_append_left he]; exact h o he
  · have hb : o < l.length + n := by simpa [bytes_len] using ho
    rw [if_pos (by omega), List.getElem_append_right (by omega)]
    simp [bytes]
def pcB (t s : ByteArray) (c : Nat → Int) (p : Pc) : List UInt8 := if p.g < 0 then bytes t p.lo (p.hi - p.lo) else bytes s (c (2 * p.g.toNat)).toNat (wdP p c)
def outFrom (t s : ByteArray) (ps : List Pc) : List (Nat → Int) → Nat → List UInt8
  | [], last => bytes s last (s.size - last)
  | c :: r, last => bytes s last ((c 0).toNat - last) ++ ps.flatMap (pcB t s c) ++ outFrom t s ps r (c 1).toNat
theorem pcB_len (t s : ByteArray) (c : Nat → Int) (p : Pc) : (pcB t s c p).length = wdP p c := by
  unfold pcB
  split
  · rename_i h; rw [bytes_len]; unfold wdP; rw [if_pos h]
  · rw [bytes_len]
theorem flat_len (t s : ByteArray) (c : Nat → Int) : ∀ ps : List Pc, (ps.flatMap (pcB t s c)).length = pw ps c
  | [] => by simp [pw]
  | p :: r => by
    have := flat_len t s c r
    simp only [pw, List.flatMap_cons, List.length_append, pcB_len, List.map_cons, List.sum_cons] at *
    omega
theorem out_len (t s : ByteArray) (ps : List Pc) : ∀ (cs : List (Nat → Int)) (last : Nat), (outFrom t s ps cs last).length = sizeFrom s.size ps cs last
  | [], last => by simp [outFrom, sizeFrom, bytes_len]
  | c :: r, last => by
    have := out_len t s ps r (c 1).toNat
    simp only [outFrom, sizeFrom, List.length_append, bytes_len, flat_len]
    omega
theorem flat_take (t s : ByteArray) (c : Nat → Int) (ps : List Pc) (k : Nat) (h : k < ps.length) : (ps.take (k + 1)).flatMap (pcB t s c) = (ps.take k).flatMap (pcB t s c) ++ pcB t s c ps[k] := by
  rw [List.take_add_one, List.flatMap_append]
  simp [h]
set_option maxHeartbeats 1000000 in
theorem lay_none {w : World} {bb len cap : Nat} (t : ByteArray) (at_ : Nat) (x : Int) :
    Calls Tryz.prog 77 #[.slice (some ⟨bb, 0, none⟩) len cap, .int .i64 (at_ : Nat), .string t, .int .i64 x, .int .i64 x] w fun v w' => v = .returned (.int .i64 (at_ : Nat)) ∧ w' = w := by
  have hI : decide (x < x) = false := decide_eq_false (by omega)
  go_enter Tryz.func77, Tryz.ntmps77
  go_wp2_with fail
  refine wp_loop_rounds 1 ?_
  rw [rounds_succ]
  go_wp2_with fail
  go_ret
  exact ⟨rfl, rfl⟩
theorem capB (w : World) (c : Nat → Int) : Blk (w.alloc (.cells #[.int .i64 (c 0), .int .i64 (c 1), .int .i64 (c 2), .int .i64 (c 3), .int .i64 (c 4), .int .i64 (c 5), .int .i64 (c 6), .int .i64 (c 7)] 64)) w.heap.size 8 (fun o => .int .i64 (c o)) := Blk.new w _ _ _ fun o ho => by
  have ho : o < 8 := by simpa using ho
  obtain rfl | rfl | rfl | rfl | rfl | rfl | rfl | rfl : o = 0 ∨ o = 1 ∨ o = 2 ∨ o = 3 ∨ o = 4 ∨ o = 5 ∨ o = 6 ∨ o = 7 := by omega
  all_goals rfl
theorem pcBk (w : World) (p : Pc) : Blk (w.alloc (.cells #[.int .i64 (p.lo : Nat), .int .i64 (p.hi : Nat), .int .i64 p.g] 84)) w.heap.size 3 (pcCell p) := Blk.new w _ _ _ fun o ho => by
  have ho : o < 3 := by simpa using ho
  obtain rfl | rfl | rfl : o = 0 ∨ o = 1 ∨ o = 2 := by omega
  all_goals rfl
end Go.Proofs.Qxb6500283aGreat
