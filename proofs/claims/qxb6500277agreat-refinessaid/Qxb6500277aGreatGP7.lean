/- What a run of the code is to show: types and slots, claims. -/
import Derived.Test.Qxb6500277aGreatGP6
namespace Go.Proofs.Qxb6500277aGreat
open Go Go.RowKit

def cntI (P : Pg) (b : Nat) : Exps → Nat
  | .nil => 0
  | .cons e es => (if tyA P (rtN b e) < 2 then 1 else 0) + cntI P (b + szE e) es
def cntR (P : Pg) (b : Nat) : Exps → Nat
  | .nil => 0
  | .cons e es => (if tyA P (rtN b e) < 2 then 0 else 1) + cntR P (b + szE e) es
mutual
/-- Types and slots of an expression are as the checker leaves them. -/
def WtE (P : Pg) (li lr b : Nat) : Exp → Prop
  | .num v _ => tyA P b < 2 ∧ 0 ≤ v ∧ v < 9223372036854775808
  | .boo v _ => tyA P b < 2 ∧ 0 ≤ v ∧ v < 9223372036854775808
  | .rd _ => tyA P b < 2
  | .var _ _ => if 2 ≤ tyA P b then rfA P b < lr else rfA P b < li
  | .un _ _ e => WtE P li lr b e ∧ tyA P (rtN b e) < 2 ∧ tyA P (b + szE e) < 2
  | .bin _ _ l r => WtE P li lr b l ∧ WtE P li lr (b + szE l) r ∧ tyA P (rtN b l) < 2 ∧ tyA P (rtN (b + szE l) r) < 2 ∧ tyA P (b + szE l + szE r) < 2
  | .idx _ a i => WtE P li lr b a ∧ WtE P li lr (b + szE a) i ∧ 2 ≤ tyA P (rtN b a) ∧ tyA P (rtN (b + szE a) i) < 2
  | .new _ _ e => WtE P li lr b e ∧ tyA P (rtN b e) < 2 ∧ 2 ≤ tyA P (b + szE e)
  | .len _ e => WtE P li lr b e ∧ 2 ≤ tyA P (rtN b e) ∧ tyA P (b + szE e) < 2
  | .call _ _ gs => WtEs P li lr b gs ∧ rfA P (b + szEs gs) < P.fns.length ∧ cntI P b gs = (fiA P (rfA P (b + szEs gs))).pi ∧ cntR P b gs = (fiA P (rfA P (b + szEs gs))).pr ∧ (2 ≤ tyA P (b + szEs gs) ↔ 2 ≤ (fiA P (rfA P (b + szEs gs))).ret)
def WtEs (P : Pg) (li lr b : Nat) : Exps → Prop
  | .nil => True
  | .cons e es => WtE P li lr b e ∧ WtEs P li lr (b + szE e) es
end
def slotOk (P : Pg) (li lr x : Nat) (t : Int) : Prop := if 2 ≤ t then rfA P x < lr else rfA P x < li
mutual
def WtS (P : Pg) (li lr : Nat) (ret : Int) (b : Nat) : Stm → Prop
  | .vd _ _ t e => WtE P li lr b e ∧ (2 ≤ t ↔ 2 ≤ tyA P (rtN b e)) ∧ slotOk P li lr (b + szE e) t
  | .asg _ a c => match a with
    | .idx _ a' i' => WtE P li lr b a' ∧ WtE P li lr (b + szE a') i' ∧ WtE P li lr (b + (szE a' + szE i' + 1)) c ∧ 2 ≤ tyA P (rtN b a') ∧ tyA P (rtN (b + szE a') i') < 2
    | .var .. => WtE P li lr (b + 1) c ∧ (2 ≤ tyA P b ↔ 2 ≤ tyA P (rtN (b + 1) c)) ∧ slotOk P li lr b (tyA P b)
    | _ => False
  | .iff _ e _ ss => WtE P li lr b e ∧ tyA P (rtN b e) < 2 ∧ WtSs P li lr ret (b + szE e) ss
  | .ife _ e _ ss _ cs => WtE P li lr b e ∧ tyA P (rtN b e) < 2 ∧ WtSs P li lr ret (b + szE e) ss ∧ WtSs P li lr ret (b + szE e + (szSs ss + 1)) cs
  | .whl _ e _ ss => WtE P li lr b e ∧ tyA P (rtN b e) < 2 ∧ WtSs P li lr ret (b + szE e) ss
  | .ret _ e => WtE P li lr b e ∧ (2 ≤ tyA P (rtN b e) ↔ 2 ≤ ret)
  | .prt _ e => WtE P li lr b e ∧ tyA P (rtN b e) < 2
  | .exp e => WtE P li lr b e
def WtSs (P : Pg) (li lr : Nat) (ret : Int) (b : Nat) : Stms → Prop
  | .nil => True
  | .cons x xs => WtS P li lr ret b x ∧ WtSs P li lr ret (b + szS x) xs
end
/-- The machine's top frame is the interpreter's state, with k arrays pending. -/
structure AtS (f : Fm) (rest : List Fm) (s : Ss) (k : Nat) : Prop where
  loc : f.loc = s.loc
  rb : f.rb = s.rb
  us : s.us = usedF (f :: rest)
  rt : s.M.rt.length = f.rb + f.lr + k
  le : s.us ≤ 48
theorem AtS.kR {f : Fm} {rest : List Fm} {s : Ss} {k : Nat} (h : AtS f rest s k) : Go.Proofs.Qxb6500277aGreat.kR f s = k := by unfold Go.Proofs.Qxb6500277aGreat.kR; rw [h.rt]; omega
def pd (t : Int) (o : List Int) (v : Int) : List Int := if 2 ≤ t then o else o ++ [v]
def kp (t : Int) (k : Nat) : Nat := if 2 ≤ t then k + 1 else k
section
variable (C : List Nat) (I : List Int)
def ResE (f : Fm) (rest : List Fm) (pc : Nat) (s : Ss) (ty : Int) (pc' : Nat) (o : List Int) (k : Nat) (r : Ro) : Prop := match r with
  | .ok v t => AtS (fo f (pd ty o v)) rest t (kp ty k) ∧ To C I (f :: rest) pc s (fo f (pd ty o v) :: rest) pc' t
  | .rt _ _ => False
  | .stop e t => e ≠ 0 → En C I (f :: rest) pc s e t
/-- The machine stands at a return. -/
structure AtRet (f f' : Fm) (rest : List Fm) (t : Ss) (ret v : Int) (pc' : Nat) : Prop where
  rt' : f'.ret = f.ret
  rb : f'.rb = f.rb
  lr : f'.lr = f.lr
  ll : f'.loc.length = f.loc.length
  ops : f'.ops = pd ret [] v
  ats : AtS f' rest t (kp ret 0)
  op : byteAt C pc' = clsO ret 26 27 ∧ pc' + 1 ≤ C.length
def ResF (f : Fm) (rest : List Fm) (pc : Nat) (s : Ss) (ret : Int) (r : Ro) : Prop := match r with
  | .ok v t => ∃ f' pc', AtRet C f f' rest t ret v pc' ∧ To C I (f :: rest) pc s (f' :: rest) pc' t
  | .rt _ _ => False
  | .stop e t => e ≠ 0 → En C I (f :: rest) pc s e t
def ResS (f : Fm) (rest : List Fm) (pc : Nat) (s : Ss) (ret : Int) (pc' : Nat) (r : Ro) : Prop := match r with
  | .ok _ t => AtS { f with loc := t.loc } rest t 0 ∧ t.loc.length = f.loc.length ∧ To C I (f :: rest) pc s ({ f with loc := t.loc } :: rest) pc' t
  | .rt v t => ∃ f' pc'', AtRet C f f' rest t ret v pc'' ∧ To C I (f :: rest) pc s (f' :: rest) pc'' t
  | .stop e t => e ≠ 0 → En C I (f :: rest) pc s e t
/-- What a request's answer is to the machine. -/
def SimI (P : Pg) (en : Nat → Nat) (q : Ri) (s : Ss) (r : Ro) : Prop := match q with
  | .ev b e => ∀ f rest pc k, AtS f rest s k → WtE P f.loc.length f.lr b e → CdA C pc (cE P en pc b e) → pc + nE e < C.length → ResE C I f rest pc s (tyA P (rtN b e)) (pc + nE e) f.ops k r
  | .args fn b es vs => ∀ f rest pc k o, AtS f rest s k → f.ops = o ++ vs → WtEs P f.loc.length f.lr b es → fn < P.fns.length → vs.length + cntI P b es = (fiA P fn).pi → (fiA P fn).pr ≤ k + cntR P b es → CdA C pc (cEs P en pc b es ++ (24 :: u16b (en fn))) → pc + nEs es + 3 < C.length →
      ResE C I f rest pc s (fiA P fn).ret (pc + nEs es + 3) o (k + cntR P b es - (fiA P fn).pr) r
  | .inv fn vs => ∀ f rest pc k o, AtS f rest s k → f.ops = o ++ vs → fn < P.fns.length → vs.length = (fiA P fn).pi → (fiA P fn).pr ≤ k → CdA C pc (24 :: u16b (en fn)) → pc + 3 < C.length → ResE C I f rest pc s (fiA P fn).ret (pc + 3) o (k - (fiA P fn).pr) r
  | .fn fn => ∀ f rest, AtS f rest s 0 → f.ops = [] → f.loc.length = (fiA P fn).li → f.lr = (fiA P fn).lr → fn < P.fns.length → ResF C I f rest (en fn + 5) s (fiA P fn).ret r
  | .st b x => ∀ f rest pc ret, AtS f rest s 0 → f.ops = [] → WtS P f.loc.length f.lr ret b x → CdA C pc (cS P en pc b x) → pc + nS x < C.length → ResS C I f rest pc s ret (pc + nS x) r
  | .sts b ss => ∀ f rest pc ret, AtS f rest s 0 → f.ops = [] → WtSs P f.loc.length f.lr ret b ss → CdA C pc (cSs P en pc b ss) → pc + nSs ss < C.length → ResS C I f rest pc s ret (pc + nSs ss) r
  | .loop b e ss => ∀ f rest pc ret, AtS f rest s 0 → f.ops = [] → WtS P f.loc.length f.lr ret b (.whl 0 e 0 ss) → CdA C pc (cS P en pc b (.whl 0 e 0 ss)) → pc + nS (.whl 0 e 0 ss) < C.length → ResS C I f rest pc s ret (pc + nS (.whl 0 e 0 ss)) r
end
/-- The program as a whole. -/
structure PgOk (P : Pg) (C : List Nat) (en : Nat → Nat) : Prop where
  len : C.length < 65536
  fn : ∀ i, i < P.fns.length → (fiA P i).pi ≤ (fiA P i).li ∧ (fiA P i).pr ≤ (fiA P i).lr ∧ CdA C (en i) (cF P en (en i) (fiA P i)) ∧ WtSs P (fiA P i).li (fiA P i).lr (fiA P i).ret (fiA P i).bb (fiA P i).ss
section
variable {P : Pg} {n : Nat} {q : Ri} {s : Ss} {r : Ro}
theorem runI_ret {r' : Ro} (h : runI P n (.ret r') = r) : r = r' := by cases n <;> exact h.symm
theorem runI_call {k : Int → Ss → Mi} (h : runI P n (.call q s k) = r) : (∃ t, r = .stop 0 t) ∨ ∃ m, n = m + 1 ∧ ((∃ v t, runI P m (bodyI P q s) = .ok v t ∧ runI P m (k v t) = r) ∨ (∃ v t, runI P m (bodyI P q s) = .rt v t ∧ r = .rt v t) ∨ ∃ e t, runI P m (bodyI P q s) = .stop e t ∧ r = .stop e t) := by
  cases n with
  | zero => exact .inl ⟨_, h.symm⟩
  | succ m =>
    refine .inr ⟨m, rfl, ?_⟩
    simp only [runI] at h
    cases hr : runI P m (bodyI P q s) with
    | ok v t => rw [hr] at h; exact .inl ⟨v, t, rfl, h⟩
    | rt v t => rw [hr] at h; exact .inr (.inl ⟨v, t, rfl, h.symm⟩)
    | stop e t => rw [hr] at h; exact .inr (.inr ⟨e, t, rfl, h.symm⟩)
theorem runI_tri {k : Bool → Int → Ss → Mi} (h : runI P n (.tri q s k) = r) : (∃ t, r = .stop 0 t) ∨ ∃ m, n = m + 1 ∧ ((∃ v t, runI P m (bodyI P q s) = .ok v t ∧ runI P m (k false v t) = r) ∨ (∃ v t, runI P m (bodyI P q s) = .rt v t ∧ runI P m (k true v t) = r) ∨ ∃ e t, runI P m (bodyI P q s) = .stop e t ∧ r = .stop e t) := by
  cases n with
  | zero => exact .inl ⟨_, h.symm⟩
  | succ m =>
    refine .inr ⟨m, rfl, ?_⟩
    simp only [runI] at h
    cases hr : runI P m (bodyI P q s) with
    | ok v t => rw [hr] at h; exact .inl ⟨v, t, rfl, h⟩
    | rt v t => rw [hr] at h; exact .inr (.inl ⟨v, t, rfl, h⟩)
    | stop e t => rw [hr] at h; exact .inr (.inr ⟨e, t, rfl, h.symm⟩)
theorem endOf_no (e : Int) : endOf e ≠ 0 := (endOf_ne e).1
end
section
variable {C : List Nat} {I : List Int} {fs fs' : List Fm} {pc pc' : Nat} {s s1 s2 : Ss}
theorem To.to (h : To C I fs pc s fs' pc' s1) (h1 : s1.M = s2.M) (h2 : s1.fuel = s2.fuel) (h3 : s1.ip = s2.ip) (h4 : s1.out = s2.out) : To C I fs pc s fs' pc' s2 := fun x => by
  obtain ⟨x', h⟩ := h x
  refine ⟨x', ?_⟩
  unfold vm at h ⊢
  rw [← h1, ← h2, ← h3, ← h4]
  exact h
theorem To.of (h : To C I fs pc s1 fs' pc' s) (h1 : s1.M = s2.M) (h2 : s1.fuel = s2.fuel) (h3 : s1.ip = s2.ip) (h4 : s1.out = s2.out) : To C I fs pc s2 fs' pc' s := fun x => by
  obtain ⟨x', h⟩ := h x
  refine ⟨x', ?_⟩
  unfold vm at h ⊢
  rw [← h1, ← h2, ← h3, ← h4]
  exact h
theorem En.of {e : Int} (h : En C I fs pc s1 e s) (h1 : s1.M = s2.M) (h2 : s1.fuel = s2.fuel) (h3 : s1.ip = s2.ip) (h4 : s1.out = s2.out) : En C I fs pc s2 e s := fun x => by
  obtain ⟨V, M, h, h5⟩ := h x
  refine ⟨V, M, ?_, h5⟩
  unfold vm at h ⊢
  rw [← h1, ← h2, ← h3, ← h4]
  exact h
theorem En.to {e : Int} (h : En C I fs pc s e s1) (h2 : s1.fuel = s2.fuel) (h4 : s1.out = s2.out) : En C I fs pc s e s2 := fun x => by
  obtain ⟨V, M, h, a, b, c, d⟩ := h x
  exact ⟨V, M, h, a, b, by rw [c, h4], by rw [d, h2]⟩
end
end Go.Proofs.Qxb6500277aGreat
