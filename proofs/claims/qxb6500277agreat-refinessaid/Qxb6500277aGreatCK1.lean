/- The checker's plain side. -/
import Derived.Test.Qxb6500277aGreatPT4
import Derived.Test.Qxb6500277aGreatCV
namespace Go.Proofs.Qxb6500277aGreat
open Go Go.RowKit

/-- A function's head. -/
structure Fh where
  node : Int
  ret : Int
  pi : Nat
  pr : Nat
  name : ByteArray
/-- The functions' heads and their parameters' types. -/
structure Cx where
  fs : List Fh
  pt : List (List Int)
/-- The state of a check: the variables in sight (the oldest first), the slots alive, the level, the functions' most slots, the answer's lists. -/
structure Ck where
  vs : List Vr
  ni : Nat
  nr : Nat
  lvl : Nat
  lim : List (Nat × Nat)
  ty : List Int
  rf : List Int
inductive Rc (α : Type)
  | bad (e p : Int)
  | ok (a : α) (s : Ck)
def Rc.bind {α β : Type} (r : Rc α) (k : α → Ck → Rc β) : Rc β := match r with
  | .bad e p => .bad e p
  | .ok a s => k a s
theorem Rc.bind_bad {α β : Type} (e p : Int) (k : α → Ck → Rc β) : (Rc.bad e p : Rc α).bind k = .bad e p := rfl
theorem Rc.bind_ok {α β : Type} (a : α) (s : Ck) (k : α → Ck → Rc β) : (Rc.ok a s).bind k = k a s := rfl
def fAt (fs : List Fh) (i : Nat) : Fh := fs.getD i ⟨0, 0, 0, 0, ⟨#[]⟩⟩
def lAt (l : List (Nat × Nat)) (i : Nat) : Nat × Nat := l.getD i (0, 0)
def pAt (l : List (List Int)) (i : Nat) : List Int := l.getD i []
/-- The function of that name. -/
def fndF (s : ByteArray) (fs : List Fh) : Option Nat := lst (fun i => decide ((fAt fs i).name = s)) fs.length
/-- Expression x is of type t. -/
def note (x : Nat) (t : Int) (s : Ck) : Rc Int := .ok t { s with ty := s.ty.set x t }
def refer (x : Nat) (r : Int) (s : Ck) : Ck := { s with rf := s.rf.set x r }
def isT (t u p : Int) (s : Ck) : Rc Unit := if t = u then .ok () s else .bad 17 p
/-- The first argument whose type is not its parameter's. -/
def oddA : List (Int × Int) → List Int → Option Int
  | (t, p) :: r, u :: us => if t = u then oddA r us else some p
  | _, _ => none
/-- What a call is, when its arguments' types are known. -/
def callT (X : Cx) (f x : Nat) (p : Int) (ts : List (Int × Int)) (s : Ck) : Rc Int :=
  if ts.length ≠ (pAt X.pt f).length then .bad 18 p else match oddA ts (pAt X.pt f) with
    | some q => .bad 17 q
    | none => note x (fAt X.fs f).ret (refer x f s)
/-- The side and the outcome of an operator. -/
def sideT (k : Int) : Int := if k = 38 ∨ k = 37 then 1 else 0
def givesT (k : Int) : Int := if (k = 38 ∨ k = 37) ∨ (k = 28 ∨ k = 29 ∨ k = 30 ∨ k = 31) then 1 else 0
def unT (k : Int) : Int := if k = 39 then 1 else 0
mutual
def ckE (X : Cx) (b : Nat) : Exp → Ck → Rc Int
  | .num _ _, s => note b 0 s
  | .rd _, s => note b 0 s
  | .boo _ _, s => note b 1 s
  | .var nm p, s => match fndV nm s.vs with
    | none => .bad 15 p
    | some i => note b (vAt s.vs i).ty (refer b (vAt s.vs i).slot s)
  | .call nm p gs, s => match fndF nm X.fs with
    | none => .bad 16 p
    | some f => (ckEs X b gs s).bind fun ts s => callT X f (b + szEs gs) p ts s
  | .idx p a c, s => (ckE X b a s).bind fun t s => if t < 2 then .bad 17 p else (ckE X (b + szE a) c s).bind fun u s => (isT u 0 (poE c) s).bind fun _ s => note (b + szE a + szE c) (t - 2) s
  | .new t p e, s => if t < 2 then .bad 17 p else (ckE X b e s).bind fun u s => (isT u 0 (poE e) s).bind fun _ s => note (b + szE e) t s
  | .len _ e, s => (ckE X b e s).bind fun u s => if u < 2 then .bad 17 (poE e) else note (b + szE e) 0 s
  | .un k _ e, s => (ckE X b e s).bind fun u s => (isT u (unT k) (poE e) s).bind fun _ s => note (b + szE e) (unT k) s
  | .bin k _ l r, s =>
    if k = 26 ∨ k = 27 then (ckE X b l s).bind fun t s => if 2 ≤ t then .bad 17 (poE l) else (ckE X (b + szE l) r s).bind fun u s => (isT u t (poE r) s).bind fun _ s => note (b + szE l + szE r) 1 s
    else (ckE X b l s).bind fun t s => (isT t (sideT k) (poE l) s).bind fun _ s => (ckE X (b + szE l) r s).bind fun u s => (isT u (sideT k) (poE r) s).bind fun _ s => note (b + szE l + szE r) (givesT k) s
def ckEs (X : Cx) (b : Nat) : Exps → Ck → Rc (List (Int × Int))
  | .nil, s => .ok [] s
  | .cons e es, s => (ckE X b e s).bind fun t s => (ckEs X (b + szE e) es s).bind fun ts s => .ok ((t, poE e) :: ts) s
end
/-- An expression of a wanted type. -/
def wantE (X : Cx) (b : Nat) (e : Exp) (t : Int) (s : Ck) : Rc Unit := (ckE X b e s).bind fun u s => isT u t (poE e) s
/-- May that name be declared now? -/
def mayD (nm : ByteArray) (t p : Int) (s : Ck) : Rc Unit :=
  if (∃ i, i < s.vs.length ∧ (vAt s.vs i).level = s.lvl ∧ (vAt s.vs i).name = nm) then .bad 14 p else if 2 ≤ t then (if 12 ≤ s.nr then .bad 19 p else .ok () s) else if 12 ≤ s.ni then .bad 19 p else .ok () s
def decl (cur x : Nat) (nm : ByteArray) (t : Int) (s : Ck) : Ck :=
  if 2 ≤ t then { s with vs := s.vs ++ [⟨nm, t, s.nr, s.lvl⟩], nr := s.nr + 1, lim := s.lim.set cur ((lAt s.lim cur).1, max (lAt s.lim cur).2 (s.nr + 1)), rf := s.rf.set x s.nr }
  else { s with vs := s.vs ++ [⟨nm, t, s.ni, s.lvl⟩], ni := s.ni + 1, lim := s.lim.set cur (max (lAt s.lim cur).1 (s.ni + 1), (lAt s.lim cur).2), rf := s.rf.set x s.ni }
/-- A block's end: what it declared goes out of sight. -/
def shut (s0 s : Ck) : Ck := { s with vs := s0.vs, ni := s0.ni, nr := s0.nr, lvl := s0.lvl }
def openB (s : Ck) : Ck := { s with lvl := s.lvl + 1 }
def inB (k : Ck → Rc Unit) (s : Ck) : Rc Unit := (k (openB s)).bind fun _ s' => .ok () (shut s s')
mutual
def ckS (X : Cx) (cur b : Nat) : Stm → Ck → Rc Unit
  | .vd nm p t e, s => (mayD nm t p s).bind fun _ s => (wantE X b e t s).bind fun _ s => .ok () (decl cur (b + szE e) nm t s)
  | .asg _ a c, s => (ckE X b a s).bind fun t s => wantE X (b + szE a) c t s
  | .iff _ e _ ss, s => (wantE X b e 1 s).bind fun _ s => inB (ckSs X cur (b + szE e) ss) s
  | .ife _ e _ ss _ cs, s => (wantE X b e 1 s).bind fun _ s => (inB (ckSs X cur (b + szE e) ss) s).bind fun _ s => inB (ckSs X cur (b + szE e + (szSs ss + 1)) cs) s
  | .whl _ e _ ss, s => (wantE X b e 1 s).bind fun _ s => inB (ckSs X cur (b + szE e) ss) s
  | .ret _ e, s => wantE X b e (fAt X.fs cur).ret s
  | .prt _ e, s => wantE X b e 0 s
  | .exp e, s => (ckE X b e s).bind fun _ s => .ok () s
def ckSs (X : Cx) (cur b : Nat) : Stms → Ck → Rc Unit
  | .nil, s => .ok () s
  | .cons x xs, s => (ckS X cur b x s).bind fun _ s => ckSs X cur (b + szS x) xs s
end
def ckP (cur x : Nat) : List Prm → Ck → Rc Unit
  | [], s => .ok () s
  | q :: r, s => (mayD q.s q.t q.p s).bind fun _ s => ckP cur (x + 1) r (decl cur x q.s q.t s)
def fresh0 (s : Ck) : Ck := { s with vs := [], ni := 0, nr := 0, lvl := 0 }
def ckF (X : Cx) (cur b : Nat) (f : Fnc) (s : Ck) : Rc Unit := (ckP cur b f.ps (fresh0 s)).bind fun _ s => (inB (ckSs X cur (b + f.ps.length) f.ss) s).bind fun _ s => .ok () (fresh0 s)
def ckFs (X : Cx) : Nat → Nat → List Fnc → Ck → Rc Unit
  | _, _, [], s => .ok () s
  | cur, b, f :: r, s => (ckF X cur b f s).bind fun _ s => ckFs X (cur + 1) (b + szF f) r s
inductive Rh
  | bad (e p : Int)
  | ok (X : Cx)
def cI (l : List Int) : Nat := l.countP fun t => decide (t < 2)
def cR (l : List Int) : Nat := l.countP fun t => !decide (t < 2)
def ckH : Nat → List Fnc → Cx → Rh
  | _, [], X => .ok X
  | b, f :: r, X => if 8 ≤ X.fs.length then .bad 19 f.p else if fndF f.s X.fs ≠ none then .bad 13 f.p else match f.ps[4]? with
    | some q => .bad 19 q.p
    | none => ckH (b + szF f) r ⟨X.fs ++ [⟨rtF b f, f.t, cI (f.ps.map (·.t)), cR (f.ps.map (·.t)), f.s⟩], X.pt ++ [f.ps.map (·.t)]⟩
def mainB : ByteArray := ⟨#[109, 97, 105, 110]⟩
inductive Ra
  | bad (e p : Int)
  | ok (X : Cx) (s : Ck) (m : Nat)
/-- The whole check of a program. -/
def ckAll (gs : List Fnc) (len : Int) : Ra := match ckH 0 gs ⟨[], []⟩ with
  | .bad e p => .bad e p
  | .ok X => match ckFs X 0 0 gs ⟨[], 0, 0, 0, List.replicate gs.length (0, 0), List.replicate (szFs gs) (-1), List.replicate (szFs gs) (-1)⟩ with
    | .bad e p => .bad e p
    | .ok _ s => match fndF mainB X.fs with
      | none => .bad 20 len
      | some m => if (fAt X.fs m).pi + (fAt X.fs m).pr ≠ 0 ∨ (fAt X.fs m).ret ≠ 0 then .bad 20 ((gs[m]?.map (·.p)).getD 0) else .ok X s m
end Go.Proofs.Qxb6500277aGreat
