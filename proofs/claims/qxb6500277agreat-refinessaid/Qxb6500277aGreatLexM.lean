/- The machine's steps. -/
import Derived.Test.Qxb6500277aGreatLexR
namespace Go.Proofs.Qxb6500277aGreat
open Go Go.RowKit

def bt (s : ByteArray) (i : Nat) : Nat := if h : i < s.size then s[i].toNat else 0
theorem bt_lt (s : ByteArray) (i : Nat) : bt s i < 256 := by
  unfold bt
  split
  · exact UInt8.toNat_lt _
  · omega
theorem bt_at (s : ByteArray) (i : Nat) (h : i < s.size) : bt s i = s[i].toNat := by simp [bt, h]

def wordT (r : R) (s : ByteArray) : Tok :=
  if guessN s.size r.first ≠ 1 ∧ s = tokText (guessN s.size r.first) then ⟨guessN s.size r.first, r.start, 0, ⟨#[]⟩⟩ else ⟨1, r.start, 0, s⟩
def feedR (src : ByteArray) (i c k : Nat) (r : R) : R × Bool :=
  if r.state = 1 then
    if k = 1 ∨ k = 2 then (if r.start + 8 ≤ i then { r with fail := 9 } else r, true)
    else ({ pushR r (wordT r (src.extract r.start i)) with state := 0 }, false)
  else if r.state = 2 then
    if k = 2 then
      if 9223372036854775807 < r.val * 10 + (c - 48) then ({ r with fail := 8 }, true) else ({ r with val := r.val * 10 + (c - 48) }, true)
    else ({ pushR r ⟨2, r.start, r.val, ⟨#[]⟩⟩ with state := 0 }, false)
  else if r.state = 3 then
    if k ≠ 7 ∧ c ≠ 10 then (r, true) else ({ r with state := 0 }, false)
  else if r.state = 4 then
    if twinN r.first c ≠ 0 then ({ pushR r ⟨twinN r.first c, r.start, 0, ⟨#[]⟩⟩ with state := 0 }, true)
    else if singleN r.first = 0 then ({ r with fail := 7 }, true)
    else ({ pushR r ⟨singleN r.first, r.start, 0, ⟨#[]⟩⟩ with state := 0 }, false)
  else ({ r with state := 0 }, false)
def beginR (i c k : Nat) (r : R) : R :=
  if k = 1 then { r with start := i, first := c, state := 1, opn := k }
  else if k = 2 then { r with start := i, first := c, state := 2, val := c - 48, opn := k }
  else if k = 4 then { r with start := i, first := c, state := 3, opn := k }
  else if k = 5 then { r with start := i, first := c, state := 4, opn := k }
  else if k = 6 then { pushR r ⟨singleN c, i, 0, ⟨#[]⟩⟩ with start := i, first := c, opn := k }
  else if k = 0 then { r with start := i, first := c, fail := 7, opn := k }
  else { r with start := i, first := c, opn := k }
def stepR (src : ByteArray) (i : Nat) (r : R) : R :=
  let f := feedR src i (bt src i) (classN (bt src i)) r
  if f.2 then f.1 else beginR i (bt src i) (classN (bt src i)) f.1
def runR (src : ByteArray) : Nat → Nat → R → R
  | 0, _, r => r
  | n + 1, i, r => if r.fail = 0 then runR src n (i + 1) (stepR src i r) else r
def endR (src : ByteArray) (r : R) : R := if r.fail = 0 then (feedR src src.size 0 7 r).1 else r
def finR (src : ByteArray) (i : Nat) (r : R) : R := endR src (runR src (src.size - i) i r)
end Go.Proofs.Qxb6500277aGreat
