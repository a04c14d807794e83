/- The real parser's memory; fail. -/
import Derived.Test.Qxb6500283aGreatA3
namespace Go.Proofs.Qxb6500283aGreat
open Go Go.RowKit

theorem bt_at (s : ByteArray) (i : Nat) (h : i < s.size) : bt s i = s[i].toNat := by simp [bt, h]
/-- What a lexical function leaves behind in block x (n cells; the place in cell 1, the error in cells ie, ip). -/
def LexErr (w w' : World) (x n ie ip : Nat) (f : Nat → Value) (c : Int) (q : Nat) : Prop :=
  (∃ iv : Nat, iv ≤ 200 ∧ Blk w' x n (upd (upd (upd f 1 (.int .i64 (iv : Nat))) ie (.int .i64 c)) ip (.int .i64 (q : Nat)))) ∧ Fr (fun b => b = x) w w'
def LexOk (w w' : World) (x n : Nat) (f : Nat → Value) (j : Nat) : Prop :=
  Blk w' x n (upd f 1 (.int .i64 (j : Nat))) ∧ Fr (fun b => b = x) w w'
def EscPost (w : World) (x n ie ip : Nat) (f : Nat → Value) (o : Option Item) (q : Nat) (e : Ending) (w' : World) : Prop :=
  match o with
  | some (P, sg, b, j) => e = .returned (.tuple #[setV P, .bool sg, .int .u8 (b : Nat)]) ∧ LexOk w w' x n f j
  | none => e = .returned (.tuple #[setV noP, .bool false, .int .u8 0]) ∧ LexErr w w' x n ie ip f 4 q
set_option maxHeartbeats 400000 in
theorem failR_any {w : World} {x : Nat} {f : Nat → Value} (h : Blk w x 325 f) (e q : Int) : Calls Tryz.prog 110 #[.pointer (some ⟨x, 0, none⟩), .int .i64 e, .int .i64 q] w fun r w' => r = .returned (.tuple #[]) ∧ Blk w' x 325 (upd (upd f 323 (.int .i64 e)) 324 (.int .i64 q)) ∧ Fr (fun b => b = x) w w' := by
  have c8 := h.cell (o := 323) (by omega)
  have c9 := h.cell (o := 324) (by omega)
  have z := h.frozen
  go_enter Tryz.func110, Tryz.ntmps110
  go_wp2_with fail
  go_end0
  exact ⟨rfl, (h.set 323 _).set 324 _, ((Fr.refl (fun b => b = x) w).setC x 323 _ (fun _ => rfl)).setC x 324 _ (fun _ => rfl)⟩
theorem z4_all (f : Nat → Value) : ∀ o, o < 4 → upd (upd (upd (upd f 0 (.int .u64 0)) 1 (.int .u64 0)) 2 (.int .u64 0)) 3 (.int .u64 0) o = u64s (wd noP) o := by
  intro o ho
  rcases (show o = 0 ∨ o = 1 ∨ o = 2 ∨ o = 3 by omega) with rfl | rfl | rfl | rfl <;> simp [upd, u64s, wd_zero]
theorem Blk.zset {w : World} {b : Nat} {f : Nat → Value} (h : Blk w b 4 f) : Blk ((((w.setCell ⟨b, 0, none⟩ (.int .u64 0)).setCell ⟨b, 1, none⟩ (.int .u64 0)).setCell ⟨b, 2, none⟩ (.int .u64 0)).setCell ⟨b, 3, none⟩ (.int .u64 0)) b 4 (u64s (wd noP)) :=
  ((((h.set 0 _).set 1 _).set 2 _).set 3 _).congr (z4_all f)
theorem Fr.zset {S : Nat → Prop} {v w : World} (h : Fr S v w) {b : Nat} (hS : b < v.heap.size → S b) : Fr S v ((((w.setCell ⟨b, 0, none⟩ (.int .u64 0)).setCell ⟨b, 1, none⟩ (.int .u64 0)).setCell ⟨b, 2, none⟩ (.int .u64 0)).setCell ⟨b, 3, none⟩ (.int .u64 0)) :=
  (((h.setC b 0 _ hS).setC b 1 _ hS).setC b 2 _ hS).setC b 3 _ hS
def escC (p : ByteArray) (i c : Nat) : Option Item :=
  if c = 110 then one 10 (i + 2) else
  if c = 116 then one 9 (i + 2) else
  if c = 114 then one 13 (i + 2) else
  if c = 100 then some (btw 48 57, false, 0, i + 2) else
  if c = 68 then some (notP (btw 48 57), false, 0, i + 2) else
  if c = 119 then some (wordP, false, 0, i + 2) else
  if c = 87 then some (notP wordP, false, 0, i + 2) else
  if c = 115 then some (blankP, false, 0, i + 2) else
  if c = 83 then some (notP blankP, false, 0, i + 2) else
  if c = 120 then xesc p i else
  if alnum c then none else one c (i + 2)
theorem esc_eq {p : ByteArray} {i : Nat} (h : i + 1 < p.size) : esc p i = escC p i (bt p (i + 1)) := by
  unfold esc escC
  rw [if_neg (by omega)]
theorem esc_no {p : ByteArray} {i : Nat} (h : p.size ≤ i + 1) : esc p i = none := by
  unfold esc
  rw [if_pos h]
end Go.Proofs.Qxb6500283aGreat
