/- Sets of places, one bit each. -/
import Derived.Test.Qxb6500283aGreatPkIn
import Derived.Laws.Bits64b
namespace Go.Proofs.Qxb6500283aGreat
open Go Go.RowKit

theorem and63F : ∀ m : Fin 64, bits BinOp.and IntKind.i64 (m.val : Int) 63 = m.val := by decide +kernel
theorem and63 (pc : Nat) (h : pc < 64) : bits BinOp.and IntKind.i64 (pc : Int) 63 = pc := and63F ⟨pc, h⟩
theorem pow_lt64 (pc : Nat) (h : pc < 64) : 2 ^ pc < 18446744073709551616 := by
  have : (2 : Nat) ^ pc < 2 ^ 64 := Nat.pow_lt_pow_right (by omega) h
  simpa using this
/-- The set of the one place q. -/
def bv (q : Nat) : Nat := 2 ^ q
theorem bv_lt (q : Nat) (h : q < 64) : bv q < 18446744073709551616 := pow_lt64 q h
theorem bv_pos (q : Nat) : 0 < bv q := Nat.pow_pos (by omega)
theorem bv_cast (q : Nat) : ((2 : Int) ^ q) = (bv q : Int) := by simp [bv]
set_option maxRecDepth 100000 in
set_option maxHeartbeats 400000 in
theorem bit_any (pc : Nat) (h : pc < 64) (w : World) : Calls Tryz.prog 128 #[.int .i64 pc] w fun e w' => e = .returned (.int .u64 (bv pc)) ∧ w' = w := by
  have h1 := and63 pc h
  have h2 : IntKind.u64.wrap (pc : Int) = pc := IntWalk.u64_in _ ⟨by omega, by omega⟩
  have h3 : IntKind.u64.wrap ((2 : Int) ^ pc) = (bv pc : Int) := by
    have := bv_lt pc h
    rw [bv_cast]
    exact IntWalk.u64_in _ ⟨by omega, by omega⟩
  have h4 : min pc 64 = pc := by omega
  go_enter Tryz.func128, Tryz.ntmps128
  go_wp2
  go_ret
  refine ⟨?_, rfl⟩
  show Ending.returned (.int .u64 ((2 : Int) ^ pc)) = _
  rw [bv_cast]

theorem and_bit (s q : Nat) : s &&& bv q = if s.testBit q then bv q else 0 := by
  unfold bv
  apply Nat.eq_of_testBit_eq
  intro j
  rw [Nat.testBit_and, Nat.testBit_two_pow]
  split
  · rw [Nat.testBit_two_pow]
    by_cases hj : q = j
    · subst hj; simp [*]
    · simp [hj]
  · by_cases hj : q = j
    · subst hj; simp [*]
    · simp [hj]
theorem and_yes {s q : Nat} (hs : s < 18446744073709551616) (hq : q < 64) (h : s.testBit q = true) : bits BinOp.and IntKind.u64 (s : Int) (bv q : Int) = (bv q : Int) := by
  rw [bits_and_u64_nat s (bv q) hs (bv_lt q hq), and_bit, if_pos h]
theorem and_no {s q : Nat} (hs : s < 18446744073709551616) (hq : q < 64) (h : s.testBit q = false) : bits BinOp.and IntKind.u64 (s : Int) (bv q : Int) = 0 := by
  rw [bits_and_u64_nat s (bv q) hs (bv_lt q hq), and_bit, if_neg (by rw [h]; simp)]; rfl
theorem or_bit (s q : Nat) (hs : s < 18446744073709551616) (hq : q < 64) : bits BinOp.or IntKind.u64 (s : Int) (bv q : Int) = ((s ||| bv q : Nat) : Int) := bits_or_u64_nat s (bv q) hs (bv_lt q hq)
theorem or_lt (s t : Nat) (hs : s < 18446744073709551616) (ht : t < 18446744073709551616) : s ||| t < 18446744073709551616 := by
  have := Nat.or_lt_two_pow (n := 64) (x := s) (y := t) (by simpa using hs) (by simpa using ht)
  simpa using this
theorem test_or (s q j : Nat) : (s ||| bv q).testBit j = (s.testBit j || decide (q = j)) := by rw [bv, Nat.testBit_or, Nat.testBit_two_pow]
theorem bv_ne (q : Nat) : ((bv q : Int) != 0) = true := by
  have := bv_pos q
  simp; omega
theorem bv_ne' (q : Nat) : (bv q : Int) ≠ 0 := by
  have := bv_pos q
  omega

/-! ### The machine in memory -/
structure DS where
  kept : List In
  chars : Nat
  ends : Nat
  hits : Nat
  keys : Nat → Nat
  used : Nat
  next : Nat → Int
  stk : Nat → Int
  built : Nat
  flushes : Nat
  worked : Nat
def keptV (k : Option (Nat × Nat)) (n : Nat) : Value := match k with
  | none => .slice none 0 0
  | some (b, c) => .slice (some ⟨b, 0, none⟩) n c
def mcell (x : Nat) (kv : Value) (s : DS) (o : Nat) : Value :=
  match o with
  | 0 => kv
  | 1 => .int .u64 s.chars
  | 2 => .int .u64 s.ends
  | 3 => .int .u64 s.hits
  | 4 => .int .u64 (s.keys 0)
  | 5 => .int .u64 (s.keys 1)
  | 6 => .int .u64 (s.keys 2)
  | 7 => .int .u64 (s.keys 3)
  | 8 => .int .u64 (s.keys 4)
  | 9 => .int .u64 (s.keys 5)
  | 10 => .int .i64 s.used
  | 11 => .slice (some ⟨x + 1, 0, none⟩) 1536 1536
  | 12 => .slice (some ⟨x + 2, 0, none⟩) 64 64
  | 13 => .int .i64 s.built
  | 14 => .int .i64 s.flushes
  | _ => .int .i64 s.worked
theorem lt16 {k : Nat} (h : k < 16) : k = 0 ∨ k = 1 ∨ k = 2 ∨ k = 3 ∨ k = 4 ∨ k = 5 ∨ k = 6 ∨ k = 7 ∨ k = 8 ∨ k = 9 ∨ k = 10 ∨ k = 11 ∨ k = 12 ∨ k = 13 ∨ k = 14 ∨ k = 15 := by omega
theorem mcell_key (x : Nat) (kv : Value) (s : DS) (c : Nat) (h : c < 6) : mcell x kv s (4 + c) = .int .u64 (s.keys c) := by
  rcases (show c = 0 ∨ c = 1 ∨ c = 2 ∨ c = 3 ∨ c = 4 ∨ c = 5 by omega) with rfl | rfl | rfl | rfl | rfl | rfl <;> rfl

/-- The machine: x its cells, x + 1 the successors, x + 2 the work list. -/
structure Mach (w : World) (x : Nat) (kv : Value) (s : DS) : Prop where
  main : Blk w x 16 (mcell x kv s)
  nx : Blk w (x + 1) 1536 (ints s.next)
  st : Blk w (x + 2) 64 (ints s.stk)
def mOwn (x b : Nat) : Prop := x ≤ b ∧ b < x + 3
theorem Mach.frame {S : Nat → Prop} {w w' : World} {x : Nat} {kv : Value} {s : DS} (h : Mach w x kv s) (k : Fr S w w') (hS : ∀ b, mOwn x b → ¬ S b) : Mach w' x kv s :=
  ⟨h.main.frame k (hS _ (by unfold mOwn; omega)), h.nx.frame k (hS _ (by unfold mOwn; omega)), h.st.frame k (hS _ (by unfold mOwn; omega))⟩
theorem Mach.alloc {w : World} {x : Nat} {kv : Value} {s : DS} (h : Mach w x kv s) (o : Obj) : Mach (w.alloc o) x kv s := ⟨h.main.alloc o, h.nx.alloc o, h.st.alloc o⟩
theorem Mach.drew {w : World} {x : Nat} {kv : Value} {s : DS} (h : Mach w x kv s) : Mach w.drew x kv s := ⟨h.main, h.nx, h.st⟩
theorem Mach.setM {w : World} {x : Nat} {kv kv' : Value} {s s' : DS} (h : Mach w x kv s) (o : Nat) (v : Value) (hn : s'.next = s.next) (hs : s'.stk = s.stk) (e : ∀ k, k < 16 → upd (mcell x kv s) o v k = mcell x kv' s' k) :
    Mach (w.setCell ⟨x, o, none⟩ v) x kv' s' :=
  ⟨(h.main.set o v).congr e, by rw [hn]; exact h.nx.setOther _ _ (by simp), by rw [hs]; exact h.st.setOther _ _ (by simp)⟩
theorem Mach.setN {w : World} {x : Nat} {kv : Value} {s : DS} (h : Mach w x kv s) (o : Nat) (v : Int) : Mach (w.setCell ⟨x + 1, o, none⟩ (.int .i64 v)) x kv { s with next := upd s.next o v } :=
  ⟨h.main.setOther _ _ (by simp), by have := h.nx.set o (.int .i64 v); rwa [ints_upd] at this, h.st.setOther _ _ (by simp)⟩
theorem Mach.setS {w : World} {x : Nat} {kv : Value} {s : DS} (h : Mach w x kv s) (o : Nat) (v : Int) : Mach (w.setCell ⟨x + 2, o, none⟩ (.int .i64 v)) x kv { s with stk := upd s.stk o v } :=
  ⟨h.main.setOther _ _ (by simp), h.nx.setOther _ _ (by simp), by have := h.st.set o (.int .i64 v); rwa [ints_upd] at this⟩
theorem Mach.lt {w : World} {x : Nat} {kv : Value} {s : DS} (h : Mach w x kv s) : x + 2 < w.heap.size := h.st.lt
theorem Fr.mset {x : Nat} {a w : World} (h : Fr (mOwn x) a w) (i o : Nat) (u : Value) (hi : i < 3) : Fr (mOwn x) a (w.setCell ⟨x + i, o, none⟩ u) := h.setC _ _ _ fun _ => by unfold mOwn; omega
theorem Fr.mset0 {x : Nat} {a w : World} (h : Fr (mOwn x) a w) (o : Nat) (u : Value) : Fr (mOwn x) a (w.setCell ⟨x, o, none⟩ u) := h.setC _ _ _ fun _ => by unfold mOwn; omega
end Go.Proofs.Qxb6500283aGreat
