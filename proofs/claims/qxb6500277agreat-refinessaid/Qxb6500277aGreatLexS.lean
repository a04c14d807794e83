/- The lexer's plain side: bytes, classes, tokens. -/
import Derived.Test.Qxb6500277aGreatProg
import Derived.Test.Qxb6500277aGreatBase
import Derived.Test.Qxb6500277aGreatText
import Derived.Test.Qxb6500277aGreatMake
import Derived.KernelRfl
namespace Go.Proofs.Qxb6500277aGreat
open Go Go.RowKit

structure Tok where
  kind : Int
  pos : Int
  val : Int
  text : ByteArray
def tokV (t : Tok) : Value := .agg #[.int .i64 t.kind, .int .i64 t.pos, .int .i64 t.val, .string t.text]
def letterB (c : Nat) : Bool := (decide (97 ≤ c) && decide (c ≤ 122)) || (decide (65 ≤ c) && decide (c ≤ 90)) || decide (c = 95)
def digitB (c : Nat) : Bool := decide (48 ≤ c) && decide (c ≤ 57)
def classN (c : Nat) : Nat :=
  if (97 ≤ c ∧ c ≤ 122) ∨ (65 ≤ c ∧ c ≤ 90) ∨ c = 95 then 1
  else if 48 ≤ c ∧ c ≤ 57 then 2
  else if c = 32 ∨ c = 9 ∨ c = 10 ∨ c = 13 then 3
  else if c = 35 then 4
  else if c = 61 ∨ c = 33 ∨ c = 60 ∨ c = 62 ∨ c = 38 ∨ c = 124 then 5
  else if c = 40 ∨ c = 41 ∨ c = 123 ∨ c = 125 ∨ c = 91 ∨ c = 93 ∨ c = 44 ∨ c = 59 ∨ c = 43 ∨ c = 45 ∨ c = 42 ∨ c = 47 ∨ c = 37 then 6
  else 0
def guessN (n c : Nat) : Nat :=
  if n = 2 ∧ c = 105 then 5
  else if n = 3 ∧ c = 118 then 4
  else if n = 3 ∧ c = 110 then 12
  else if n = 3 ∧ c = 108 then 13
  else if n = 3 ∧ c = 105 then 15
  else if n = 4 ∧ c = 102 then 3
  else if n = 4 ∧ c = 101 then 6
  else if n = 4 ∧ c = 116 then 10
  else if n = 4 ∧ c = 114 then 14
  else if n = 4 ∧ c = 98 then 16
  else if n = 5 ∧ c = 119 then 7
  else if n = 5 ∧ c = 112 then 9
  else if n = 5 ∧ c = 102 then 11
  else if n = 6 ∧ c = 114 then 8
  else 1
def singleN (c : Nat) : Nat :=
  if c = 40 then 17
  else if c = 41 then 18
  else if c = 123 then 19
  else if c = 125 then 20
  else if c = 91 then 21
  else if c = 93 then 22
  else if c = 44 then 23
  else if c = 59 then 24
  else if c = 61 then 25
  else if c = 60 then 28
  else if c = 62 then 30
  else if c = 43 then 32
  else if c = 45 then 33
  else if c = 42 then 34
  else if c = 47 then 35
  else if c = 37 then 36
  else if c = 33 then 39
  else 0
def twinN (a b : Nat) : Nat :=
  if a = 61 ∧ b = 61 then 26
  else if a = 33 ∧ b = 61 then 27
  else if a = 60 ∧ b = 61 then 29
  else if a = 62 ∧ b = 61 then 31
  else if a = 38 ∧ b = 38 then 37
  else if a = 124 ∧ b = 124 then 38
  else 0
def tokText (k : Int) : ByteArray :=
  if k = 3 then ⟨#[102, 117, 110, 99]⟩
  else if k = 4 then ⟨#[118, 97, 114]⟩
  else if k = 5 then ⟨#[105, 102]⟩
  else if k = 6 then ⟨#[101, 108, 115, 101]⟩
  else if k = 7 then ⟨#[119, 104, 105, 108, 101]⟩
  else if k = 8 then ⟨#[114, 101, 116, 117, 114, 110]⟩
  else if k = 9 then ⟨#[112, 114, 105, 110, 116]⟩
  else if k = 10 then ⟨#[116, 114, 117, 101]⟩
  else if k = 11 then ⟨#[102, 97, 108, 115, 101]⟩
  else if k = 12 then ⟨#[110, 101, 119]⟩
  else if k = 13 then ⟨#[108, 101, 110]⟩
  else if k = 14 then ⟨#[114, 101, 97, 100]⟩
  else if k = 15 then ⟨#[105, 110, 116]⟩
  else if k = 16 then ⟨#[98, 111, 111, 108]⟩
  else if k = 17 then ⟨#[40]⟩
  else if k = 18 then ⟨#[41]⟩
  else if k = 19 then ⟨#[123]⟩
  else if k = 20 then ⟨#[125]⟩
  else if k = 21 then ⟨#[91]⟩
  else if k = 22 then ⟨#[93]⟩
  else if k = 23 then ⟨#[44]⟩
  else if k = 24 then ⟨#[59]⟩
  else if k = 25 then ⟨#[61]⟩
  else if k = 26 then ⟨#[61, 61]⟩
  else if k = 27 then ⟨#[33, 61]⟩
  else if k = 28 then ⟨#[60]⟩
  else if k = 29 then ⟨#[60, 61]⟩
  else if k = 30 then ⟨#[62]⟩
  else if k = 31 then ⟨#[62, 61]⟩
  else if k = 32 then ⟨#[43]⟩
  else if k = 33 then ⟨#[45]⟩
  else if k = 34 then ⟨#[42]⟩
  else if k = 35 then ⟨#[47]⟩
  else if k = 36 then ⟨#[37]⟩
  else if k = 37 then ⟨#[38, 38]⟩
  else if k = 38 then ⟨#[124, 124]⟩
  else if k = 39 then ⟨#[33]⟩
  else ⟨#[]⟩
end Go.Proofs.Qxb6500277aGreat
