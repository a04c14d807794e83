namespace Go.Proofs.Qxb6500283aGreat

/-! The plain side of both parsers: one lexical layer, two parsers. -/
/-- The byte at place k. -/
def bt (s : ByteArray) (k : Nat) : Nat := if h : k < s.size then s[k].toNat else 0
/-- A set of bytes. -/
abbrev BSet := Nat → Bool
def btw (lo hi : Nat) : BSet := fun c => decide (lo ≤ c) && decide (c ≤ hi)
def joinP (a b : BSet) : BSet := fun c => a c || b c
def notP (a : BSet) : BSet := fun c => !a c
def noP : BSet := fun _ => false
structure Nd where
  kind : Int
  a : Int
  b : Int
  mn : Int
  mx : Int
  cap : Int
  lz : Bool
  st : BSet
def leafNd (k : Int) (P : BSet) : Nd := ⟨k, -1, -1, 0, 0, 0, false, P⟩
def catNd (a b : Nat) : Nd := ⟨4, a, b, 0, 0, 0, false, noP⟩
def altNd (a b : Nat) : Nd := ⟨5, a, b, 0, 0, 0, false, noP⟩
def repNd (a : Nat) (lo hi : Int) (lz : Bool) : Nd := ⟨6, a, -1, lo, hi, 0, lz, noP⟩
def grpNd (a : Nat) (c : Nat) : Nd := ⟨7, a, -1, 0, 0, c, false, noP⟩
abbrev Er := Int × Nat

def digB (c : Nat) : Bool := decide (48 ≤ c) && decide (c ≤ 57)
def clip (v : Int) : Int := if v > 3 then 4 else v
def numF (p : ByteArray) : Nat → Nat → Int → Int × Nat
  | 0, i, v => (v, i)
  | f + 1, i, v => if digB (bt p i) then numF p f (i + 1) (clip ((if v < 0 then 0 else v) * 10 + ((bt p i : Int) - 48))) else (v, i)
def num (p : ByteArray) (i : Nat) : Int × Nat := numF p (p.size - i) i (-1)
def isB (p : ByteArray) (i c : Nat) : Bool := decide (i < p.size) && (bt p i == c)
def hiOf (p : ByteArray) (lo : Int) (j : Nat) : Int × Nat := if isB p j 44 then num p (j + 1) else (lo, j)
def braceOk (p : ByteArray) (lo hi : Int) (j : Nat) : Bool := isB p j 125 && !(decide (lo < 0)) && !(decide (lo > 3)) && !(decide (hi > 3)) && !(decide (hi ≥ 0) && decide (lo > hi))
def brace (p : ByteArray) (i : Nat) : Option (Int × Int × Nat) :=
  let l := num p (i + 1)
  let h := hiOf p l.1 l.2
  if braceOk p l.1 h.1 h.2 then some (l.1, h.1, h.2 + 1) else none
def signB (c : Nat) : Bool := c == 42 || c == 43 || c == 63 || c == 123
/-- A repeat's sign at i (signB (bt p i)): the bounds and the place behind it. -/
def count (p : ByteArray) (i : Nat) : Option (Int × Int × Nat) :=
  if bt p i = 42 then some (0, -1, i + 1) else if bt p i = 43 then some (1, -1, i + 1) else if bt p i = 63 then some (0, 1, i + 1) else brace p i
def lazyEnd (p : ByteArray) (j : Nat) : Nat := if isB p j 63 then j + 1 else j

def hexv (c : Nat) : Option Nat :=
  if 48 ≤ c ∧ c ≤ 57 then some (c - 48) else if 97 ≤ c ∧ c ≤ 102 then some (c - 87) else if 65 ≤ c ∧ c ≤ 70 then some (c - 55) else none
def wordP : BSet := joinP (joinP (joinP (btw 48 57) (btw 65 90)) (btw 97 122)) (btw 95 95)
def blankP : BSet := joinP (joinP (btw 9 10) (btw 13 13)) (btw 32 32)
def alnum (c : Nat) : Bool := (decide (48 ≤ c) && decide (c ≤ 57)) || (decide (65 ≤ c) && decide (c ≤ 90)) || (decide (97 ≤ c) && decide (c ≤ 122))
abbrev Item := BSet × Bool × Nat × Nat
def one (c j : Nat) : Option Item := some (btw c c, true, c, j)
def xesc (p : ByteArray) (i : Nat) : Option Item :=
  if i + 3 < p.size then (match hexv (bt p (i + 2)), hexv (bt p (i + 3)) with | some h, some l => one (h * 16 + l) (i + 4) | _, _ => none) else none
def esc (p : ByteArray) (i : Nat) : Option Item :=
  if p.size ≤ i + 1 then none else
  if bt p (i + 1) = 110 then one 10 (i + 2) else
  if bt p (i + 1) = 116 then one 9 (i + 2) else
  if bt p (i + 1) = 114 then one 13 (i + 2) else
  if bt p (i + 1) = 100 then some (btw 48 57, false, 0, i + 2) else
  if bt p (i + 1) = 68 then some (notP (btw 48 57), false, 0, i + 2) else
  if bt p (i + 1) = 119 then some (wordP, false, 0, i + 2) else
  if bt p (i + 1) = 87 then some (notP wordP, false, 0, i + 2) else
  if bt p (i + 1) = 115 then some (blankP, false, 0, i + 2) else
  if bt p (i + 1) = 83 then some (notP blankP, false, 0, i + 2) else
  if bt p (i + 1) = 120 then xesc p i else
  if alnum (bt p (i + 1)) then none else one (bt p (i + 1)) (i + 2)
def item (p : ByteArray) (i : Nat) : Option Item := if bt p i = 92 then esc p i else one (bt p i) (i + 1)
/-- A range behind the item that ended at j? -/
def dashB (p : ByteArray) (j : Nat) : Bool := decide (j + 1 < p.size) && (bt p j == 45) && !(bt p (j + 1) == 93)
/-- One member of a class: its set and the place behind it. -/
def member (p : ByteArray) (i : Nat) : Except Er (BSet × Nat) :=
  match item p i with
  | none => .error (4, i)
  | some (m, single, lo, j) =>
    if dashB p j then
      match item p (j + 1) with
      | none => .error (4, j + 1)
      | some (_, alone, hi, j2) => if !single || !alone || decide (lo > hi) then .error (2, j) else .ok (btw lo hi, j2)
    else .ok (m, j)
/-- The members of a class from i on. -/
inductive ClsR (p : ByteArray) (at_ : Nat) : Nat → BSet → Except Er (BSet × Nat) → Prop
  | open_ {i : Nat} {s : BSet} : p.size ≤ i → ClsR p at_ i s (.error (2, at_))
  | shut {i : Nat} {s : BSet} : i < p.size → bt p i = 93 → ClsR p at_ i s (.ok (s, i + 1))
  | bad {i : Nat} {s : BSet} {e : Er} : i < p.size → bt p i ≠ 93 → member p i = .error e → ClsR p at_ i s (.error e)
  | more {i : Nat} {s m : BSet} {j : Nat} {r : Except Er (BSet × Nat)} : i < p.size → bt p i ≠ 93 → member p i = .ok (m, j) → ClsR p at_ j (joinP s m) r → ClsR p at_ i s r
def clsStart (p : ByteArray) (i : Nat) : Nat := if isB p (i + 1) 94 then i + 2 else i + 1
def negIf (b : Bool) (P : BSet) : BSet := if b then notP P else P
/-- A leaf at i (neither '(' nor ')' nor '|' nor a sign): its kind, its set, the place behind it. -/
inductive LeafR (p : ByteArray) (i : Nat) : Except Er (Int × BSet × Nat) → Prop
  | cls {P : BSet} {j : Nat} : bt p i = 91 → ClsR p i (clsStart p i) noP (.ok (P, j)) → LeafR p i (.ok (1, negIf (isB p (i + 1) 94) P, j))
  | clsE {e : Er} : bt p i = 91 → ClsR p i (clsStart p i) noP (.error e) → LeafR p i (.error e)
  | esc {P : BSet} {s : Bool} {b j : Nat} : bt p i = 92 → esc p i = some (P, s, b, j) → LeafR p i (.ok (1, P, j))
  | escE : bt p i = 92 → esc p i = none → LeafR p i (.error (4, i))
  | dot : bt p i = 46 → LeafR p i (.ok (1, notP (btw 10 10), i + 1))
  | bgn : bt p i = 94 → LeafR p i (.ok (2, noP, i + 1))
  | end_ : bt p i = 36 → LeafR p i (.ok (3, noP, i + 1))
  | lit : bt p i ≠ 91 → bt p i ≠ 92 → bt p i ≠ 46 → bt p i ≠ 94 → bt p i ≠ 36 → LeafR p i (.ok (1, btw (bt p i) (bt p i), i + 1))

/-! Nullable nodes. -/
def nullNd (l : List Bool) (n : Nd) : Bool :=
  if n.kind = 1 then false
  else if n.kind = 4 then l.getD n.a.toNat true && l.getD n.b.toNat true
  else if n.kind = 5 then l.getD n.a.toNat true || l.getD n.b.toNat true
  else if n.kind = 6 then decide (n.mn = 0) || l.getD n.a.toNat true
  else if n.kind = 7 then l.getD n.a.toNat true
  else true
def nulL (ns : List Nd) : List Bool := ns.foldl (fun l n => l ++ [nullNd l n]) []
def nul (ns : List Nd) (k : Nat) : Bool := (nulL ns).getD k true

/-! The model: a descent. -/
structure Sg where
  i : Nat
  ns : List Nd
  g : Nat
abbrev Res := Except Er (Nat × Sg)
def addS (s : Sg) (n : Nd) : Res := if 24 ≤ s.ns.length then .error (8, s.i) else .ok (s.ns.length, ⟨s.i, s.ns ++ [n], s.g⟩)
def stopB (p : ByteArray) (i : Nat) : Bool := !(decide (i < p.size)) || bt p i == 124 || bt p i == 41
def freeB (p : ByteArray) (i : Nat) : Bool := decide (i + 2 < p.size) && (bt p (i + 1) == 63) && (bt p (i + 2) == 58)
/-- Behind '(': the group's number (0: none). -/
def openS (p : ByteArray) (s : Sg) : Option (Nat × Sg) :=
  if freeB p s.i then some (0, ⟨s.i + 3, s.ns, s.g⟩) else if 3 ≤ s.g then none else some (s.g + 1, ⟨s.i + 1, s.ns, s.g + 1⟩)
/-- What stands behind ')'. -/
def shutS (s : Sg) (x c : Nat) : Res := if c = 0 then .ok (x, ⟨s.i + 1, s.ns, s.g⟩) else addS ⟨s.i + 1, s.ns, s.g⟩ (grpNd x c)
inductive GroupR (p : ByteArray) (d : Nat) (A : Sg → Res → Prop) : Sg → Res → Prop
  | deep {s : Sg} : 5 ≤ d → GroupR p d A s (.error (6, s.i))
  | many {s : Sg} : d < 5 → openS p s = none → GroupR p d A s (.error (7, s.i))
  | err {s s1 : Sg} {c : Nat} {e : Er} : d < 5 → openS p s = some (c, s1) → A s1 (.error e) → GroupR p d A s (.error e)
  | open_ {s s1 s2 : Sg} {c x : Nat} : d < 5 → openS p s = some (c, s1) → A s1 (.ok (x, s2)) → isB p s2.i 41 = false → GroupR p d A s (.error (1, s.i))
  | shut {s s1 s2 : Sg} {c x : Nat} : d < 5 → openS p s = some (c, s1) → A s1 (.ok (x, s2)) → isB p s2.i 41 = true → GroupR p d A s (shutS s2 x c)
inductive AtomR (p : ByteArray) (d : Nat) (A : Sg → Res → Prop) : Sg → Res → Prop
  | group {s : Sg} {r : Res} : bt p s.i = 40 → GroupR p d A s r → AtomR p d A s r
  | sign {s : Sg} : signB (bt p s.i) = true → AtomR p d A s (.error (3, s.i))
  | leafE {s : Sg} {e : Er} : bt p s.i ≠ 40 → signB (bt p s.i) = false → LeafR p s.i (.error e) → AtomR p d A s (.error e)
  | leaf {s : Sg} {k : Int} {P : BSet} {j : Nat} : bt p s.i ≠ 40 → signB (bt p s.i) = false → LeafR p s.i (.ok (k, P, j)) → AtomR p d A s (addS ⟨j, s.ns, s.g⟩ (leafNd k P))
/-- The signs behind an atom x. -/
inductive RepL (p : ByteArray) : Nat → Sg → Res → Prop
  | done {x : Nat} {s : Sg} : (s.i < p.size → signB (bt p s.i) = false) → RepL p x s (.ok (x, s))
  | bad {x : Nat} {s : Sg} : s.i < p.size → signB (bt p s.i) = true → count p s.i = none → RepL p x s (.error (3, s.i))
  | loop {x : Nat} {s : Sg} {lo hi : Int} {j : Nat} : s.i < p.size → signB (bt p s.i) = true → count p s.i = some (lo, hi, j) → hi < 0 → nul s.ns x = true → RepL p x s (.error (5, s.i))
  | big {x : Nat} {s : Sg} {lo hi : Int} {j : Nat} {e : Er} : s.i < p.size → signB (bt p s.i) = true → count p s.i = some (lo, hi, j) → ¬ (hi < 0 ∧ nul s.ns x = true) → addS ⟨lazyEnd p j, s.ns, s.g⟩ (repNd x lo hi (isB p j 63)) = .error e → RepL p x s (.error e)
  | more {x y : Nat} {s s1 : Sg} {lo hi : Int} {j : Nat} {r : Res} : s.i < p.size → signB (bt p s.i) = true → count p s.i = some (lo, hi, j) → ¬ (hi < 0 ∧ nul s.ns x = true) → addS ⟨lazyEnd p j, s.ns, s.g⟩ (repNd x lo hi (isB p j 63)) = .ok (y, s1) → RepL p y s1 r → RepL p x s r
inductive RepR (p : ByteArray) (d : Nat) (A : Sg → Res → Prop) : Sg → Res → Prop
  | err {s : Sg} {e : Er} : AtomR p d A s (.error e) → RepR p d A s (.error e)
  | ok {s s1 : Sg} {x : Nat} {r : Res} : AtomR p d A s (.ok (x, s1)) → RepL p x s1 r → RepR p d A s r
def joinN (left : Option Nat) (x : Nat) (s : Sg) : Res := match left with | none => .ok (x, s) | some l => addS s (catNd l x)
inductive CatL (p : ByteArray) (d : Nat) (A : Sg → Res → Prop) : Option Nat → Sg → Res → Prop
  | stop {l : Nat} {s : Sg} : stopB p s.i = true → CatL p d A (some l) s (.ok (l, s))
  | empty {s : Sg} : stopB p s.i = true → CatL p d A none s (addS s (leafNd 0 noP))
  | err {l : Option Nat} {s : Sg} {e : Er} : stopB p s.i = false → RepR p d A s (.error e) → CatL p d A l s (.error e)
  | big {l : Option Nat} {s s1 : Sg} {x : Nat} {e : Er} : stopB p s.i = false → RepR p d A s (.ok (x, s1)) → joinN l x s1 = .error e → CatL p d A l s (.error e)
  | more {l : Option Nat} {s s1 s2 : Sg} {x y : Nat} {r : Res} : stopB p s.i = false → RepR p d A s (.ok (x, s1)) → joinN l x s1 = .ok (y, s2) → CatL p d A (some y) s2 r → CatL p d A l s r
inductive AltL (p : ByteArray) (d : Nat) (A : Sg → Res → Prop) : Nat → Sg → Res → Prop
  | stop {l : Nat} {s : Sg} : isB p s.i 124 = false → AltL p d A l s (.ok (l, s))
  | err {l : Nat} {s : Sg} {e : Er} : isB p s.i 124 = true → CatL p d A none ⟨s.i + 1, s.ns, s.g⟩ (.error e) → AltL p d A l s (.error e)
  | big {l x : Nat} {s s1 : Sg} {e : Er} : isB p s.i 124 = true → CatL p d A none ⟨s.i + 1, s.ns, s.g⟩ (.ok (x, s1)) → addS s1 (altNd l x) = .error e → AltL p d A l s (.error e)
  | more {l x y : Nat} {s s1 s2 : Sg} {r : Res} : isB p s.i 124 = true → CatL p d A none ⟨s.i + 1, s.ns, s.g⟩ (.ok (x, s1)) → addS s1 (altNd l x) = .ok (y, s2) → AltL p d A y s2 r → AltL p d A l s r
inductive AltR (p : ByteArray) (d : Nat) (A : Sg → Res → Prop) : Sg → Res → Prop
  | err {s : Sg} {e : Er} : CatL p d A none s (.error e) → AltR p d A s (.error e)
  | ok {s s1 : Sg} {x : Nat} {r : Res} : CatL p d A none s (.ok (x, s1)) → AltL p d A x s1 r → AltR p d A s r
def AltD (p : ByteArray) : Nat → Sg → Res → Prop
  | 0 => AltR p 5 (fun _ _ => False)
  | k + 1 => AltR p (5 - (k + 1)) (AltD p k)
/-- A parse's answer. -/
abbrev Ans := Except Er (List Nd × Nat × Nat)
inductive ModelR (p : ByteArray) : Ans → Prop
  | err {e : Er} : AltD p 5 ⟨0, [], 0⟩ (.error e) → ModelR p (.error e)
  | paren {x : Nat} {s : Sg} : AltD p 5 ⟨0, [], 0⟩ (.ok (x, s)) → s.i < p.size → ModelR p (.error (1, s.i))
  | ok {x : Nat} {s : Sg} : AltD p 5 ⟨0, [], 0⟩ (.ok (x, s)) → p.size ≤ s.i → ModelR p (.ok (s.ns, x, s.g))

/-! The real one: a loop and a stack. -/
structure Frm where
  alt : Option Nat
  cat : Option Nat
  atom : Option Nat
  num : Nat
  at_ : Nat
/-- The parser's state: the model's, the frame at hand, the frames below. -/
structure Rs where
  s : Sg
  f : Frm
  r : List Frm
def joinR (t : Rs) : Except Er Rs :=
  match t.f.atom with
  | none => .ok t
  | some a => match joinN t.f.cat a t.s with
    | .error e => .error e
    | .ok (y, s') => .ok ⟨s', ⟨t.f.alt, some y, none, t.f.num, t.f.at_⟩, t.r⟩
def emptyN (c : Option Nat) (s : Sg) : Res := match c with | none => addS s (leafNd 0 noP) | some l => .ok (l, s)
def altN (l : Option Nat) (x : Nat) (s : Sg) : Res := match l with | none => .ok (x, s) | some l => addS s (altNd l x)
def foldR (t : Rs) : Except Er Rs :=
  match emptyN t.f.cat t.s with
  | .error e => .error e
  | .ok (c, s1) => match altN t.f.alt c s1 with
    | .error e => .error e
    | .ok (y, s2) => .ok ⟨s2, ⟨some y, none, t.f.atom, t.f.num, t.f.at_⟩, t.r⟩
def openR (p : ByteArray) (t : Rs) : Except Er Rs :=
  if 5 ≤ t.r.length then .error (6, t.s.i) else
  match openS p t.s with
  | none => .error (7, t.s.i)
  | some (c, s1) => .ok ⟨s1, ⟨none, none, none, c, t.s.i⟩, t.f :: t.r⟩
def shutR (t : Rs) : Except Er Rs :=
  match foldR t with
  | .error e => .error e
  | .ok t1 => match t1.r with
    | [] => .error (1, t1.s.i)
    | g :: r => match shutS t1.s (t1.f.alt.getD 0) t1.f.num with
      | .error e => .error e
      | .ok (y, s') => .ok ⟨s', ⟨g.alt, g.cat, some y, g.num, g.at_⟩, r⟩
def setAtom (t : Rs) (r : Res) : Except Er Rs :=
  match r with
  | .error e => .error e
  | .ok (y, s') => .ok ⟨s', ⟨t.f.alt, t.f.cat, some y, t.f.num, t.f.at_⟩, t.r⟩
def signR (p : ByteArray) (t : Rs) : Except Er Rs :=
  match t.f.atom with
  | none => .error (3, t.s.i)
  | some a => match count p t.s.i with
    | none => .error (3, t.s.i)
    | some (lo, hi, j) => if hi < 0 ∧ nul t.s.ns a = true then .error (5, t.s.i) else setAtom t (addS ⟨lazyEnd p j, t.s.ns, t.s.g⟩ (repNd a lo hi (isB p j 63)))
inductive StepR (p : ByteArray) : Rs → Except Er Rs → Prop
  | sign {t : Rs} : signB (bt p t.s.i) = true → StepR p t (signR p t)
  | joinE {t : Rs} {e : Er} : signB (bt p t.s.i) = false → joinR t = .error e → StepR p t (.error e)
  | bar {t t1 : Rs} : bt p t.s.i = 124 → joinR t = .ok t1 → StepR p t (match foldR t1 with | .error e => .error e | .ok t2 => .ok ⟨⟨t2.s.i + 1, t2.s.ns, t2.s.g⟩, t2.f, t2.r⟩)
  | shut {t t1 : Rs} : bt p t.s.i = 41 → joinR t = .ok t1 → StepR p t (shutR t1)
  | open_ {t t1 : Rs} : bt p t.s.i = 40 → joinR t = .ok t1 → StepR p t (openR p t1)
  | leafE {t t1 : Rs} {e : Er} : signB (bt p t.s.i) = false → bt p t.s.i ≠ 124 → bt p t.s.i ≠ 41 → bt p t.s.i ≠ 40 → joinR t = .ok t1 → LeafR p t.s.i (.error e) → StepR p t (.error e)
  | leaf {t t1 : Rs} {k : Int} {P : BSet} {j : Nat} : signB (bt p t.s.i) = false → bt p t.s.i ≠ 124 → bt p t.s.i ≠ 41 → bt p t.s.i ≠ 40 → joinR t = .ok t1 → LeafR p t.s.i (.ok (k, P, j)) → StepR p t (setAtom t1 (addS ⟨j, t1.s.ns, t1.s.g⟩ (leafNd k P)))
def finR (t : Rs) : Ans :=
  match joinR t with
  | .error e => .error e
  | .ok t1 => match foldR t1 with
    | .error e => .error e
    | .ok t2 => if t2.r ≠ [] then .error (1, t2.f.at_) else .ok (t2.s.ns, t2.f.alt.getD 0, t2.s.g)
inductive Ends (p : ByteArray) : Rs → Ans → Prop
  | step {t t' : Rs} {o : Ans} : t.s.i < p.size → StepR p t (.ok t') → Ends p t' o → Ends p t o
  | err {t : Rs} {e : Er} : t.s.i < p.size → StepR p t (.error e) → Ends p t (.error e)
  | fin {t : Rs} : p.size ≤ t.s.i → Ends p t (finR t)
def fr0 : Frm := ⟨none, none, none, 0, 0⟩
def rs0 : Rs := ⟨⟨0, [], 0⟩, fr0, []⟩
end Go.Proofs.Qxb6500283aGreat
