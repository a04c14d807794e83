/- The definitional interpreter vs a machine of requests and answers; the code vs a function of the tree. -/
import Derived.Test.Qxb6500277aGreatVP3
import Derived.Test.Qxb6500277aGreatCK5
namespace Go.Proofs.Qxb6500277aGreat
open Go Go.RowKit

/-- What the interpreter holds while a function runs. -/
structure Ss where
  loc : List Int
  rb : Nat
  us : Int
  M : MS
  fuel : Int
  ip : Nat
  out : List Int
/-- A function of the checked program: its numbers, the base of its statements, its statements. -/
structure Fi where
  pi : Nat
  pr : Nat
  li : Nat
  lr : Nat
  ret : Int
  bb : Nat
  ss : Stms
structure Pg where
  ty : List Int
  rf : List Int
  fns : List Fi
  inp : List Int
def tyA (P : Pg) (x : Nat) : Int := P.ty.getD x (-1)
/-- A node's reference (what is no reference is out of every range). -/
def rfA (P : Pg) (x : Nat) : Nat := if P.rf.getD x (-1) < 0 then 100000 else (P.rf.getD x (-1)).toNat
def fiA (P : Pg) (i : Nat) : Fi := P.fns.getD i ⟨0, 0, 0, 0, 0, 0, .nil⟩
/-- The root's index. -/
def rtN (b : Nat) (e : Exp) : Nat := b + szE e - 1
inductive Ro
  | ok (v : Int) (s : Ss)
  | rt (v : Int) (s : Ss)
  | stop (e : Int) (s : Ss)
inductive Ri
  | ev (b : Nat) (e : Exp)
  | args (f b : Nat) (es : Exps) (vs : List Int)
  | st (b : Nat) (x : Stm)
  | sts (b : Nat) (ss : Stms)
  | loop (b : Nat) (e : Exp) (ss : Stms)
  | inv (f : Nat) (vs : List Int)
  | fn (f : Nat)
inductive Mi
  | ret (r : Ro)
  | call (q : Ri) (s : Ss) (k : Int → Ss → Mi)
  | tri (q : Ri) (s : Ss) (k : Bool → Int → Ss → Mi)
def goOn (v : Int) (s : Ss) : Mi := .ret (.ok v s)
def dieI (e : Int) (s : Ss) : Mi := .ret (.stop e s)
/-- One more pending int. -/
def pushI (s : Ss) (v : Int) : Mi := if 48 ≤ s.us then dieI 29 s else goOn v { s with us := s.us + 1 }
/-- The heap said e. -/
def hpI (e : Int) (s : Ss) (m : Mi) : Mi := if e = 0 then m else dieI (endOf e) s
/-- The instruction of an operator. -/
def opB (k : Int) : Nat := if k = 32 then 8 else if k = 33 then 9 else if k = 34 then 10 else if k = 35 then 11 else if k = 36 then 12 else if k = 26 then 15 else if k = 27 then 16 else if k = 28 then 17 else if k = 29 then 18 else if k = 30 then 19 else 20
def binI (k a c : Int) : Int := if opB k < 13 then arithI (opB k) a c else compI (opB k) a c
def dtop (M : MS) (k : Nat) : Int := (M.rt.length : Int) - k
def storeI (P : Pg) (x : Nat) (t v : Int) (s : Ss) : Mi := if 2 ≤ t then goOn 0 { s with M := (setM s.M (s.rb + rfA P x : Nat)).2 } else goOn 0 { s with us := s.us - 1, loc := s.loc.set (rfA P x) v }
def bodyI (P : Pg) (q : Ri) (s : Ss) : Mi :=
  match q with
  | .ev b e => match e with
    | .num v _ => pushI s v
    | .boo v _ => pushI s v
    | .var _ _ => if 2 ≤ tyA P b then hpI (dupM s.M (s.rb + rfA P b : Nat)).1 s (goOn 0 { s with M := (dupM s.M (s.rb + rfA P b : Nat)).2 }) else pushI s (s.loc.getD (rfA P b) 0)
    | .rd _ => if P.inp.length ≤ s.ip then dieI 30 s else pushI { s with ip := s.ip + 1 } (P.inp.getD s.ip 0)
    | .un k _ e => .call (.ev b e) s fun v s => goOn (if k = 39 then flagI (decide (v = 0)) else wr64 (-v)) s
    | .bin k _ l r => .call (.ev b l) s fun a s =>
      if k = 37 ∨ k = 38 then (if decide (a ≠ 0) = decide (k = 38) then goOn (flagI (decide (k = 38))) s else .call (.ev (b + szE l) r) { s with us := s.us - 1 } goOn)
      else .call (.ev (b + szE l) r) s fun c s => if (k = 35 ∨ k = 36) ∧ c = 0 then dieI 25 s else goOn (binI k a c) { s with us := s.us - 1 }
    | .idx _ a i => .call (.ev b a) s fun _ s => .call (.ev (b + szE a) i) s fun j s =>
      if 2 ≤ tyA P (b + szE a + szE i) then hpI (ldRefM s.M (dtop s.M 1) j (dtop s.M 1)).1 s (goOn 0 { s with us := s.us - 1, M := (ldRefM s.M (dtop s.M 1) j (dtop s.M 1)).2 })
      else hpI (ldIntM s.M (dtop s.M 1) j).2 s (goOn (ldIntM s.M (dtop s.M 1) j).1 { s with M := (popM s.M 1).2 })
    | .new t _ e => .call (.ev b e) s fun k s =>
      if 4 ≤ t then hpI (allocM s.M k 0).1 s (goOn 0 { s with us := s.us - 1, M := (allocM s.M k 0).2 }) else hpI (allocM s.M 0 k).1 s (goOn 0 { s with us := s.us - 1, M := (allocM s.M 0 k).2 })
    | .len _ e => .call (.ev b e) s fun _ s => hpI (lenM s.M (dtop s.M 1)).2.2 s (pushI { s with M := (popM s.M 1).2 } ((lenM s.M (dtop s.M 1)).1 + (lenM s.M (dtop s.M 1)).2.1))
    | .call _ _ gs => .call (.args (rfA P (b + szEs gs)) b gs []) s goOn
  | .args f b es vs => match es with
    | .nil => .call (.inv f vs) s goOn
    | .cons e es => .call (.ev b e) s fun v s => .call (.args f (b + szE e) es (if tyA P (rtN b e) < 2 then vs ++ [v] else vs)) s goOn
  | .inv f vs =>
    if s.fuel ≤ 0 then dieI 22 s
    else if 48 < s.us - (fiA P f).pi + 3 + (fiA P f).li ∨ (24 : Int) < (s.M.rt.length : Int) + (fiA P f).lr - (fiA P f).pr then dieI 29 { s with fuel := s.fuel - 1 }
    else .call (.fn f) { s with loc := vs ++ List.replicate ((fiA P f).li - vs.length) 0, rb := s.M.rt.length - (fiA P f).pr, us := s.us + (3 + (fiA P f).li - (fiA P f).pi), M := nilsM ((fiA P f).lr - (fiA P f).pr) s.M, fuel := s.fuel - 1 } fun v t =>
      if 2 ≤ (fiA P f).ret then goOn 0 { t with loc := s.loc, rb := s.rb, us := t.us - (3 + (fiA P f).li), M := (slideM t.M (dtop t.M 1 - t.rb)).2 }
      else goOn v { t with loc := s.loc, rb := s.rb, us := t.us - (3 + (fiA P f).li), M := (popM t.M (dtop t.M 0 - t.rb)).2 }
  | .fn f => .tri (.sts (fiA P f).bb (fiA P f).ss) s fun rt v s =>
      if rt then goOn v s else if 2 ≤ (fiA P f).ret then hpI (pushM s.M).1 s (goOn 0 { s with M := (pushM s.M).2 }) else pushI s 0
  | .st b x => match x with
    | .vd _ _ t e => .call (.ev b e) s fun v s => storeI P (b + szE e) t v s
    | .asg _ a c => match a with
      | .idx _ a' i' => .call (.ev b a') s fun _ s => .call (.ev (b + szE a') i') s fun i s => .call (.ev (b + (szE a' + szE i' + 1)) c) s fun v s =>
        if 2 ≤ tyA P (rtN (b + (szE a' + szE i' + 1)) c) then hpI (stRefM s.M (dtop s.M 2) i (dtop s.M 1)).1 s (goOn 0 { s with us := s.us - 1, M := (popM (stRefM s.M (dtop s.M 2) i (dtop s.M 1)).2 2).2 })
        else hpI (stIntM s.M (dtop s.M 1) i v).1 s (goOn 0 { s with us := s.us - 2, M := (popM (stIntM s.M (dtop s.M 1) i v).2 1).2 })
      | a => .call (.ev (b + szE a) c) s fun v s => storeI P b (tyA P b) v s
    | .iff _ e _ ss => .call (.ev b e) s fun c s => if c ≠ 0 then .call (.sts (b + szE e) ss) { s with us := s.us - 1 } goOn else goOn 0 { s with us := s.us - 1 }
    | .ife _ e _ ss _ cs => .call (.ev b e) s fun c s => if c ≠ 0 then .call (.sts (b + szE e) ss) { s with us := s.us - 1 } goOn else .call (.sts (b + szE e + (szSs ss + 1)) cs) { s with us := s.us - 1 } goOn
    | .whl _ e _ ss => .call (.loop b e ss) s goOn
    | .ret _ e => .call (.ev b e) s fun v s => .ret (.rt v s)
    | .prt _ e => .call (.ev b e) s fun v s => if 1024 ≤ s.out.length then dieI 33 s else goOn 0 { s with us := s.us - 1, out := s.out ++ [v] }
    | .exp e => .call (.ev b e) s fun _ s => if 2 ≤ tyA P (rtN b e) then goOn 0 { s with M := (popM s.M 1).2 } else goOn 0 { s with us := s.us - 1 }
  | .loop b e ss => .call (.ev b e) s fun c s => if c = 0 then goOn 0 { s with us := s.us - 1 } else .call (.sts (b + szE e) ss) { s with us := s.us - 1 } fun _ s =>
      if s.fuel ≤ 0 then dieI 22 s else .call (.loop b e ss) { s with fuel := s.fuel - 1 } goOn
  | .sts b ss => match ss with
    | .nil => goOn 0 s
    | .cons x xs => .call (.st b x) s fun _ s => .call (.sts (b + szS x) xs) s goOn
def runI (P : Pg) : Nat → Mi → Ro
  | _, .ret r => r
  | 0, .call .. => .stop 0 ⟨[], 0, 0, ⟨[], []⟩, 0, 0, []⟩
  | 0, .tri .. => .stop 0 ⟨[], 0, 0, ⟨[], []⟩, 0, 0, []⟩
  | n + 1, .call q s k => match runI P n (bodyI P q s) with
    | .ok v t => runI P n (k v t)
    | .rt v t => .rt v t
    | .stop e t => .stop e t
  | n + 1, .tri q s k => match runI P n (bodyI P q s) with
    | .ok v t => runI P n (k false v t)
    | .rt v t => runI P n (k true v t)
    | .stop e t => .stop e t
/-- That piece ends with that answer. -/
def EvI (P : Pg) (m : Mi) (r : Ro) : Prop := ∃ N, ∀ n, N ≤ n → runI P n m = r

/-- Two bytes, eight bytes, the low one first. -/
def u16b (a : Nat) : List Nat := [a % 256, a / 256 % 256]
def u64n (v : Int) : Nat := (v % 18446744073709551616).toNat
def i64b (v : Int) : List Nat := [u64n v % 256, u64n v / 256 % 256, u64n v / 65536 % 256, u64n v / 16777216 % 256, u64n v / 4294967296 % 256, u64n v / 1099511627776 % 256, u64n v / 281474976710656 % 256, u64n v / 72057594037927936 % 256]
def clsO (t : Int) (oi or' : Nat) : Nat := if 2 ≤ t then or' else oi
mutual
/-- How long the code is. -/
def nE : Exp → Nat
  | .num .. | .boo .. => 9
  | .var .. => 2
  | .rd .. => 1
  | .un _ _ e | .new _ _ e | .len _ e => nE e + 1
  | .bin k _ l r => if k = 37 ∨ k = 38 then nE l + 3 + nE r + 3 + 9 else nE l + nE r + 1
  | .idx _ a i => nE a + nE i + 1
  | .call _ _ gs => nEs gs + 3
def nEs : Exps → Nat
  | .nil => 0
  | .cons e es => nE e + nEs es
end
mutual
/-- The code of an expression at address a. -/
def cE (P : Pg) (en : Nat → Nat) (a b : Nat) : Exp → List Nat
  | .num v _ => 0 :: i64b v
  | .boo v _ => 0 :: i64b v
  | .var _ _ => [clsO (tyA P b) 2 4, rfA P b]
  | .rd _ => [36]
  | .un k _ e => cE P en a b e ++ [if k = 39 then 14 else 13]
  | .bin k _ l r =>
    if k = 37 ∨ k = 38 then
      cE P en a b l ++ ((if k = 37 then 22 else 23) :: (u16b (a + nE l + 3 + nE r + 3) ++ (cE P en (a + nE l + 3) (b + szE l) r ++ (21 :: (u16b (a + nE l + 3 + nE r + 3 + 9) ++ (0 :: i64b (if k = 37 then 0 else 1)))))))
    else cE P en a b l ++ (cE P en (a + nE l) (b + szE l) r ++ [opB k])
  | .idx _ x i => cE P en a b x ++ (cE P en (a + nE x) (b + szE x) i ++ [clsO (tyA P (b + szE x + szE i)) 30 31])
  | .new t _ e => cE P en a b e ++ [clsO (t - 2) 28 29]
  | .len _ e => cE P en a b e ++ [34]
  | .call _ _ gs => cEs P en a b gs ++ (24 :: u16b (en (rfA P (b + szEs gs))))
def cEs (P : Pg) (en : Nat → Nat) (a b : Nat) : Exps → List Nat
  | .nil => []
  | .cons e es => cE P en a b e ++ cEs P en (a + nE e) (b + szE e) es
end
mutual
theorem cE_len (P : Pg) (en : Nat → Nat) (a b : Nat) : (e : Exp) → (cE P en a b e).length = nE e
  | .num .. | .boo .. => by simp [cE, nE, i64b]
  | .var .. | .rd .. => by simp [cE, nE]
  | .un k _ e => by simp [cE, nE, cE_len P en a b e]
  | .bin k _ l r => by
    simp only [cE, nE]
    split
    · simp [u16b, i64b, cE_len P en a b l, cE_len P en (a + nE l + 3) (b + szE l) r]; omega
    · simp [cE_len P en a b l, cE_len P en (a + nE l) (b + szE l) r]; omega
  | .idx _ x i => by simp [cE, nE, cE_len P en a b x, cE_len P en (a + nE x) (b + szE x) i]; omega
  | .new _ _ e => by simp [cE, nE, cE_len P en a b e]
  | .len _ e => by simp [cE, nE, cE_len P en a b e]
  | .call _ _ gs => by simp [cE, nE, u16b, cEs_len P en a b gs]
theorem cEs_len (P : Pg) (en : Nat → Nat) (a b : Nat) : (es : Exps) → (cEs P en a b es).length = nEs es
  | .nil => by simp [cEs, nEs]
  | .cons e es => by simp [cEs, nEs, cE_len P en a b e, cEs_len P en (a + nE e) (b + szE e) es]
end
mutual
def nS : Stm → Nat
  | .vd _ _ _ e => nE e + 2
  | .asg _ a c => match a with
    | .idx _ a' i' => nE a' + nE i' + nE c + 1
    | _ => nE c + 2
  | .iff _ e _ b => nE e + 3 + nSs b
  | .ife _ e _ b _ c => nE e + 3 + nSs b + 3 + nSs c
  | .whl _ e _ b => nE e + 3 + nSs b + 3
  | .ret _ e | .prt _ e | .exp e => nE e + 1
def nSs : Stms → Nat
  | .nil => 0
  | .cons x xs => nS x + nSs xs
end
mutual
def cS (P : Pg) (en : Nat → Nat) (a b : Nat) : Stm → List Nat
  | .vd _ _ t e => cE P en a b e ++ [clsO t 3 5, rfA P (b + szE e)]
  | .asg _ x c => match x with
    | .idx _ a' i' => cE P en a b a' ++ (cE P en (a + nE a') (b + szE a') i' ++ (cE P en (a + nE a' + nE i') (b + (szE a' + szE i' + 1)) c ++ [clsO (tyA P (rtN (b + (szE a' + szE i' + 1)) c)) 32 33]))
    | x => cE P en a (b + szE x) c ++ [clsO (tyA P b) 3 5, rfA P b]
  | .iff _ e _ ss => cE P en a b e ++ (22 :: (u16b (a + nE e + 3 + nSs ss) ++ cSs P en (a + nE e + 3) (b + szE e) ss))
  | .ife _ e _ ss _ cs => cE P en a b e ++ (22 :: (u16b (a + nE e + 3 + nSs ss + 3) ++ (cSs P en (a + nE e + 3) (b + szE e) ss ++ (21 :: (u16b (a + nE e + 3 + nSs ss + 3 + nSs cs) ++ cSs P en (a + nE e + 3 + nSs ss + 3) (b + szE e + (szSs ss + 1)) cs)))))
  | .whl _ e _ ss => cE P en a b e ++ (22 :: (u16b (a + nE e + 3 + nSs ss + 3) ++ (cSs P en (a + nE e + 3) (b + szE e) ss ++ (21 :: u16b a))))
  | .ret _ e => cE P en a b e ++ [clsO (tyA P (rtN b e)) 26 27]
  | .prt _ e => cE P en a b e ++ [35]
  | .exp e => cE P en a b e ++ [clsO (tyA P (rtN b e)) 1 6]
def cSs (P : Pg) (en : Nat → Nat) (a b : Nat) : Stms → List Nat
  | .nil => []
  | .cons x xs => cS P en a b x ++ cSs P en (a + nS x) (b + szS x) xs
end
mutual
theorem cS_len (P : Pg) (en : Nat → Nat) (a b : Nat) : (x : Stm) → (cS P en a b x).length = nS x
  | .vd .. => by simp [cS, nS, cE_len]
  | .asg _ x c => by
    cases x <;> simp [cS, nS, cE_len] <;> omega
  | .iff _ e _ ss => by simp [cS, nS, cE_len, u16b, cSs_len P en (a + nE e + 3) (b + szE e) ss]; omega
  | .ife _ e _ ss _ cs => by simp [cS, nS, cE_len, u16b, cSs_len P en (a + nE e + 3) (b + szE e) ss, cSs_len P en (a + nE e + 3 + nSs ss + 3) (b + szE e + (szSs ss + 1)) cs]; omega
  | .whl _ e _ ss => by simp [cS, nS, cE_len, u16b, cSs_len P en (a + nE e + 3) (b + szE e) ss]; omega
  | .ret .. | .prt .. | .exp .. => by simp [cS, nS, cE_len]
theorem cSs_len (P : Pg) (en : Nat → Nat) (a b : Nat) : (xs : Stms) → (cSs P en a b xs).length = nSs xs
  | .nil => by simp [cSs, nSs]
  | .cons x xs => by simp [cSs, nSs, cS_len P en a b x, cSs_len P en (a + nS x) (b + szS x) xs]
end
/-- The tail of a function: the zero of its result type, returned. -/
def tailC (t : Int) : List Nat := if 2 ≤ t then [7, 27] else 0 :: (i64b 0 ++ [26])
def cF (P : Pg) (en : Nat → Nat) (a : Nat) (F : Fi) : List Nat := [25, F.pi, F.pr, F.li, F.lr] ++ (cSs P en (a + 5) F.bb F.ss ++ tailC F.ret)
end Go.Proofs.Qxb6500277aGreat
