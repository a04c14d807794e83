/- The machine's plain side. -/
import Derived.Test.Qxb6500277aGreatK8
namespace Go.Proofs.Qxb6500277aGreat
open Go Go.RowKit

/-- A frame: where the caller goes on, int locals, int operands (the oldest first), the root slot of ref local 0, ref locals. -/
structure Fm where
  ret : Nat
  loc : List Int
  ops : List Int
  rb : Nat
  lr : Nat
/-- The machine while it runs: frames (the top first). -/
structure Vs where
  fs : List Fm
  pc : Nat
  fuel : Int
  ip : Nat
  out : List Int
  en : Int
  rt : Int
  steps : Int
  most : Nat
abbrev wr64 (x : Int) : Int := wrap64 x
def usedF : List Fm → Nat
  | [] => 0
  | f :: r => 3 + f.loc.length + f.ops.length + usedF r
def Vs.die (V : Vs) (e : Int) : Vs := { V with en := e }
def topO (V : Vs) : List Int := match V.fs with
  | [] => []
  | f :: _ => f.ops
def setO (V : Vs) (o : List Int) : Vs := match V.fs with
  | [] => V
  | f :: r => { V with fs := { f with ops := o } :: r }
/-- Operand k from the top (0: the top). -/
def opn (V : Vs) (k : Nat) : Int := (topO V).getD ((topO V).length - 1 - k) 0
/-- k operands go. -/
def dropO (V : Vs) (k : Nat) : Vs := setO V ((topO V).take ((topO V).length - k))
def pushV (V : Vs) (v : Int) : Vs := if 48 ≤ usedF V.fs then V.die 29 else { setO V (topO V ++ [v]) with most := max V.most (usedF V.fs + 1) }
/-- The operands' last k are replaced by v. -/
def putO (V : Vs) (k : Nat) (v : Int) : Vs := setO V ((topO V).take ((topO V).length - k) ++ [v])
def ropsV (V : Vs) (M : MS) : Int := match V.fs with
  | [] => 0
  | f :: _ => (M.rt.length : Int) - f.rb - f.lr
def byteAt (C : List Nat) (i : Nat) : Nat := C.getD i 0
def opArgs (op : Nat) : Int := if op = 0 then 8 else if op = 2 ∨ op = 3 ∨ op = 4 ∨ op = 5 then 1 else if op = 21 ∨ op = 22 ∨ op = 23 ∨ op = 24 then 2 else if op = 25 then 4 else if op < 37 then 0 else -1
def wantI (op : Nat) : Nat := if op = 1 ∨ op = 3 ∨ op = 13 ∨ op = 14 ∨ op = 22 ∨ op = 23 ∨ op = 26 ∨ op = 35 then 1 else if op = 28 ∨ op = 29 ∨ op = 30 ∨ op = 31 ∨ op = 33 then 1 else if op = 8 ∨ op = 9 ∨ op = 10 ∨ op = 11 ∨ op = 12 then 2 else if op = 15 ∨ op = 16 ∨ op = 17 ∨ op = 18 ∨ op = 19 ∨ op = 20 then 2 else if op = 32 then 2 else 0
def wantR (op : Nat) : Nat := if op = 5 ∨ op = 6 ∨ op = 27 ∨ op = 30 ∨ op = 31 ∨ op = 32 ∨ op = 34 then 1 else if op = 33 then 2 else 0
/-- How a run ends when the heap refuses. -/
def endOf (e : Int) : Int := if e = 4 then 27 else if e = 5 then 26 else if e = 1 then 28 else if e = 3 then 29 else if e = 6 then 23 else 24
def did (V : Vs) (e : Int) : Vs := if e = 0 then V else V.die (endOf e)
/-- The two bytes at i. -/
def u16V (C : List Nat) (i : Nat) : Nat := byteAt C i + 256 * byteAt C (i + 1)
/-- The eight bytes at i, the highest first taken. -/
def u64V (C : List Nat) (i : Nat) : Nat := byteAt C i + 256 * byteAt C (i + 1) + 65536 * byteAt C (i + 2) + 16777216 * byteAt C (i + 3) + 4294967296 * byteAt C (i + 4) + 1099511627776 * byteAt C (i + 5) + 281474976710656 * byteAt C (i + 6) + 72057594037927936 * byteAt C (i + 7)
def i64V (C : List Nat) (i : Nat) : Int := wr64 (u64V C i)
/-- k nils are pushed. -/
def nilsM : Nat → MS → MS
  | 0, M => M
  | k + 1, M => nilsM k (pushM M).2
/-- The call's frame: the last pi operands are its first locals. -/
def newF (V : Vs) (M : MS) (pi pr li lr ret : Nat) : Fm := ⟨ret, (topO V).drop ((topO V).length - pi) ++ List.replicate (li - pi) 0, [], M.rt.length - pr, lr⟩
def enterV (V : Vs) (M : MS) (a pi pr li lr ret : Nat) : Vs × MS :=
  if V.fuel ≤ 0 then (V.die 22, M)
  else if (48 : Int) < (usedF V.fs : Int) - pi + li + 3 ∨ (24 : Int) < (M.rt.length : Int) - pr + lr then ({ V with fuel := V.fuel - 1 }.die 29, M)
  else ({ V with fs := newF V M pi pr li lr ret :: (dropO V pi).fs, fuel := V.fuel - 1, most := max V.most (usedF V.fs - pi + li + 3), pc := a + 5 }, nilsM (lr - pr) M)
def callV (C : List Nat) (V : Vs) (M : MS) (a ret : Nat) : Vs × MS :=
  if C.length < a + 5 ∨ byteAt C a ≠ 25 then (V.die 24, M)
  else if byteAt C (a + 3) < byteAt C (a + 1) ∨ byteAt C (a + 4) < byteAt C (a + 2) then (V.die 24, M)
  else if (V.fs = [] ∧ (byteAt C (a + 1) ≠ 0 ∨ byteAt C (a + 2) ≠ 0)) ∨ (V.fs ≠ [] ∧ ((topO V).length < byteAt C (a + 1) ∨ ropsV V M < byteAt C (a + 2))) then (V.die 24, M)
  else enterV V M a (byteAt C (a + 1)) (byteAt C (a + 2)) (byteAt C (a + 3)) (byteAt C (a + 4)) ret
def jumpV (C : List Nat) (V : Vs) (at' a : Nat) : Vs :=
  if C.length ≤ a then V.die 24 else if a ≤ at' then (if V.fuel ≤ 0 then V.die 22 else { V with fuel := V.fuel - 1, pc := a }) else { V with pc := a }
def quoI (a b : Int) : Int := if b = 0 then 0 else if b = -1 then wr64 (-a) else wr64 (Int.tdiv a b)
def remI (a b : Int) : Int := if b = 0 ∨ b = -1 then 0 else Int.tmod a b
def flagI (b : Bool) : Int := if b then 1 else 0
/-- The outcome of an operator on two numbers. -/
def arithI (op : Nat) (a b : Int) : Int := if op = 8 then wr64 (a + b) else if op = 9 then wr64 (a - b) else if op = 10 then wr64 (a * b) else if op = 11 then quoI a b else remI a b
def compI (op : Nat) (a b : Int) : Int := flagI (if op = 15 then decide (a = b) else if op = 16 then decide (a ≠ b) else if op = 17 then decide (a < b) else if op = 18 then decide (a ≤ b) else if op = 19 then decide (b < a) else decide (b ≤ a))
def leaveV (V : Vs) : Vs := match V.fs with
  | [] => V
  | f :: r => { V with fs := r, pc := f.ret }
def topF (V : Vs) : Fm := V.fs.headD ⟨0, [], [], 0, 0⟩
def setLoc (V : Vs) (s : Nat) (v : Int) : Vs := match V.fs with
  | [] => V
  | f :: r => { V with fs := { f with loc := f.loc.set s v } :: r }
/-- One instruction, its operands being there; at': its place. -/
def execV (C : List Nat) (I : List Int) (op at' : Nat) (V : Vs) (M : MS) : Vs × MS :=
  if op = 0 then (pushV V (i64V C (at' + 1)), M)
  else if op = 1 then (dropO V 1, M)
  else if op = 2 then (if (topF V).loc.length ≤ byteAt C (at' + 1) then V.die 24 else pushV V ((topF V).loc.getD (byteAt C (at' + 1)) 0), M)
  else if op = 3 then (if (topF V).loc.length ≤ byteAt C (at' + 1) then V.die 24 else setLoc (dropO V 1) (byteAt C (at' + 1)) (opn V 0), M)
  else if op = 4 then (if (topF V).lr ≤ byteAt C (at' + 1) then (V.die 24, M) else (did V (dupM M ((topF V).rb + byteAt C (at' + 1) : Nat)).1, (dupM M ((topF V).rb + byteAt C (at' + 1) : Nat)).2))
  else if op = 5 then (if (topF V).lr ≤ byteAt C (at' + 1) then (V.die 24, M) else (V, (setM M ((topF V).rb + byteAt C (at' + 1) : Nat)).2))
  else if op = 6 then (V, (popM M 1).2)
  else if op = 7 then (did V (pushM M).1, (pushM M).2)
  else if op = 8 ∨ op = 9 ∨ op = 10 then (putO V 2 (arithI op (opn V 1) (opn V 0)), M)
  else if op = 11 ∨ op = 12 then (if opn V 0 = 0 then (dropO V 1).die 25 else putO V 2 (arithI op (opn V 1) (opn V 0)), M)
  else if op = 13 then (putO V 1 (wr64 (-(opn V 0))), M)
  else if op = 14 then (putO V 1 (flagI (decide (opn V 0 = 0))), M)
  else if op < 21 then (putO V 2 (compI op (opn V 1) (opn V 0)), M)
  else if op = 21 then (jumpV C V at' (u16V C (at' + 1)), M)
  else if op = 22 then (if opn V 0 = 0 then jumpV C (dropO V 1) at' (u16V C (at' + 1)) else dropO V 1, M)
  else if op = 23 then (if opn V 0 = 0 then dropO V 1 else jumpV C (dropO V 1) at' (u16V C (at' + 1)), M)
  else if op = 24 then callV C V M (u16V C (at' + 1)) (at' + 3)
  else if op = 25 then (V.die 24, M)
  else if op = 26 then (if (leaveV V).fs = [] then { leaveV V with en := 21, rt := opn V 0 } else pushV (leaveV V) (opn V 0), (popM M ((M.rt.length : Int) - (topF V).rb)).2)
  else if op = 27 then (if V.fs.length = 1 then (V.die 24, M) else (leaveV V, (slideM M ((M.rt.length : Int) - (topF V).rb - 1)).2))
  else if op = 28 then (did (dropO V 1) (allocM M 0 (opn V 0)).1, (allocM M 0 (opn V 0)).2)
  else if op = 29 then (did (dropO V 1) (allocM M (opn V 0) 0).1, (allocM M (opn V 0) 0).2)
  else if op = 30 then (if (ldIntM M ((M.rt.length : Int) - 1) (opn V 0)).2 = 0 then (putO V 1 (ldIntM M ((M.rt.length : Int) - 1) (opn V 0)).1, (popM M 1).2) else (V.die (endOf (ldIntM M ((M.rt.length : Int) - 1) (opn V 0)).2), M))
  else if op = 31 then (did (dropO V 1) (ldRefM M ((M.rt.length : Int) - 1) (opn V 0) ((M.rt.length : Int) - 1)).1, (ldRefM M ((M.rt.length : Int) - 1) (opn V 0) ((M.rt.length : Int) - 1)).2)
  else if op = 32 then (if (stIntM M ((M.rt.length : Int) - 1) (opn V 1) (opn V 0)).1 = 0 then (dropO V 2, (popM (stIntM M ((M.rt.length : Int) - 1) (opn V 1) (opn V 0)).2 1).2) else ((dropO V 2).die (endOf (stIntM M ((M.rt.length : Int) - 1) (opn V 1) (opn V 0)).1), (stIntM M ((M.rt.length : Int) - 1) (opn V 1) (opn V 0)).2))
  else if op = 33 then (if (stRefM M ((M.rt.length : Int) - 2) (opn V 0) ((M.rt.length : Int) - 1)).1 = 0 then (dropO V 1, (popM (stRefM M ((M.rt.length : Int) - 2) (opn V 0) ((M.rt.length : Int) - 1)).2 2).2) else ((dropO V 1).die (endOf (stRefM M ((M.rt.length : Int) - 2) (opn V 0) ((M.rt.length : Int) - 1)).1), (stRefM M ((M.rt.length : Int) - 2) (opn V 0) ((M.rt.length : Int) - 1)).2))
  else if op = 34 then (if (lenM M ((M.rt.length : Int) - 1)).2.2 = 0 then (pushV V ((lenM M ((M.rt.length : Int) - 1)).1 + (lenM M ((M.rt.length : Int) - 1)).2.1), (popM M 1).2) else (V.die (endOf (lenM M ((M.rt.length : Int) - 1)).2.2), M))
  else if op = 35 then (if 1024 ≤ V.out.length then (dropO V 1).die 33 else { dropO V 1 with out := V.out ++ [opn V 0] }, M)
  else (if I.length ≤ V.ip then V.die 30 else { pushV V (I.getD V.ip 0) with ip := V.ip + 1 }, M)
/-- One step. -/
def stepV (C : List Nat) (I : List Int) (V : Vs) (M : MS) : Vs × MS :=
  if C.length ≤ V.pc then ({ V with steps := wr64 (V.steps + 1) }.die 24, M)
  else if opArgs (byteAt C V.pc) < 0 ∨ (C.length : Int) < V.pc + 1 + opArgs (byteAt C V.pc) then ({ V with steps := wr64 (V.steps + 1) }.die 24, M)
  else if (topO V).length < wantI (byteAt C V.pc) ∨ ropsV V M < wantR (byteAt C V.pc) then ({ V with steps := wr64 (V.steps + 1) }.die 24, M)
  else execV C I (byteAt C V.pc) V.pc { V with steps := wr64 (V.steps + 1), pc := V.pc + 1 + (opArgs (byteAt C V.pc)).toNat } M
end Go.Proofs.Qxb6500277aGreat
