/- The parser's plain side. -/
import Derived.Test.Qxb6500277aGreatLX
namespace Go.Proofs.Qxb6500277aGreat
open Go Go.RowKit

structure Nd where
  kind : Int
  a : Int
  b : Int
  c : Int
  nx : Int
  val : Int
  pos : Int
  name : ByteArray
def noB : ByteArray := ⟨#[]⟩
def nd0 : Nd := ⟨0, 0, 0, 0, 0, 0, 0, ⟨#[]⟩⟩
def fre (k p : Int) : Nd := ⟨k, -1, -1, -1, -1, 0, p, ⟨#[]⟩⟩
section
variable (T : List Tok)
def tk (i : Nat) : Tok := T[i]?.getD zeroTok
def kd (i : Nat) : Int := (tk T i).kind
def ps (i : Nat) : Int := (tk T i).pos
def stp (i : Nat) : Nat := if i + 1 < T.length then i + 1 else i
end
inductive Rs
  | bad (e q : Int)
  | ok (x : Int) (i : Nat) (ns : List Nd)
inductive Rq
  | prim (d : Nat) | post (d : Nat) | postL (d : Nat) (x : Int) | un (d : Nat) | lev (lv d : Nat) | levL (lv d : Nat) (l : Int) | inner (d : Nat)
  | argL (d : Nat) (first last : Int) | block (d : Nat) | blkL (d : Nat) (first last : Int) | stmt (d : Nat) | parL (first last : Int) | fn | prog (first last : Int)
/-- A piece of parsing: an answer, or a call and what follows it. -/
inductive Mo
  | ret (r : Rs)
  | call (q : Rq) (i : Nat) (ns : List Nd) (k : Int → Nat → List Nd → Mo)
def pow (k : Int) : Nat :=
  if k = 38 then 1 else if k = 37 then 2 else if k = 26 ∨ k = 27 ∨ k = 28 ∨ k = 29 ∨ k = 30 ∨ k = 31 then 3 else if k = 32 ∨ k = 33 then 4 else if k = 34 ∨ k = 35 ∨ k = 36 then 5 else 0
theorem pow_le (k : Int) : pow k ≤ 5 := by unfold pow; (repeat' split) <;> omega
def putR (nd : Nd) (i : Nat) (ns : List Nd) : Rs := if 200 ≤ ns.length then .bad 12 nd.pos else .ok ns.length i (ns ++ [nd])
def put (nd : Nd) (i : Nat) (ns : List Nd) (k : Int → Nat → List Nd → Mo) : Mo := if 200 ≤ ns.length then .ret (.bad 12 nd.pos) else k ns.length i (ns ++ [nd])
def fin (x : Int) (i : Nat) (ns : List Nd) : Mo := .ret (.ok x i ns)
def setNx (ns : List Nd) (k : Nat) (x : Int) : List Nd := ns.set k { ns[k]?.getD nd0 with nx := x }
def lnk (ns : List Nd) (first last x : Int) (k : Int → List Nd → Mo) : Mo := if first < 0 then k x ns else k first (setNx ns last.toNat x)
section
variable (T : List Tok)
def wnt (k : Int) (i : Nat) (f : Nat → Mo) : Mo := if kd T i = k then f (stp T i) else .ret (.bad 10 (ps T i))
def ent (d i : Nat) (m : Mo) : Mo := if 8 ≤ d then .ret (.bad 11 (ps T i)) else m
/-- The '[' of a type: l may still come. -/
def tyO : Nat → Nat → (Nat → Nat → Mo) → Mo
  | 0, i, f => if kd T i = 21 then .ret (.bad 11 (ps T i)) else f 0 i
  | l + 1, i, f => if kd T i = 21 then tyO l (stp T i) f else f (l + 1) i
def tyC : Nat → Nat → (Nat → Mo) → Mo
  | 0, i, f => f i
  | n + 1, i, f => wnt T 22 i fun j => tyC n j f
def typ (i : Nat) (f : Int → Nat → Mo) : Mo :=
  tyO T 3 i fun l j => if kd T j = 16 then tyC T (3 - l) (stp T j) (f (1 + 2 * ((3 - l : Nat) : Int))) else if kd T j = 15 then tyC T (3 - l) (stp T j) (f (2 * ((3 - l : Nat) : Int))) else .ret (.bad 10 (ps T j))
def com (first : Int) (i : Nat) (f : Nat → Mo) : Mo := if 0 ≤ first then wnt T 23 i f else f i
def body (q : Rq) (i : Nat) (ns : List Nd) : Mo :=
  match q with
  | .lev lv d => if 5 < lv then .call (.un d) i ns fin else .call (.lev (lv + 1) d) i ns fun x j ms => .call (.levL lv d x) j ms fin
  | .levL lv d l => if pow (kd T i) = lv then .call (.lev (lv + 1) d) (stp T i) ns fun y j ms => put ⟨18, l, y, -1, -1, kd T i, ps T i, ⟨#[]⟩⟩ j ms fun x j ms => .call (.levL lv d x) j ms fin else fin l i ns
  | .un d => if kd T i = 33 ∨ kd T i = 39 then ent T d i (.call (.un (d + 1)) (stp T i) ns fun x j ms => put ⟨19, x, -1, -1, -1, kd T i, ps T i, ⟨#[]⟩⟩ j ms fin) else .call (.post d) i ns fin
  | .post d => .call (.prim d) i ns fun x j ms => .call (.postL d x) j ms fin
  | .postL d x => if kd T i = 21 then ent T d i (.call (.lev 1 (d + 1)) (stp T i) ns fun y j ms => wnt T 22 j fun j => put ⟨14, x, y, -1, -1, 0, ps T i, ⟨#[]⟩⟩ j ms fun x j ms => .call (.postL d x) j ms fin) else fin x i ns
  | .inner d => if kd T i = 17 then ent T d i (.call (.lev 1 (d + 1)) (stp T i) ns fun x j ms => wnt T 18 j fun j => fin x j ms) else .ret (.bad 10 (ps T i))
  | .prim d =>
    if kd T i = 2 then put { fre 10 (ps T i) with val := (tk T i).val } (stp T i) ns fin
    else if kd T i = 10 then put { fre 11 (ps T i) with val := 1 } (stp T i) ns fin
    else if kd T i = 11 then put (fre 11 (ps T i)) (stp T i) ns fin
    else if kd T i = 17 then .call (.inner d) i ns fin
    else if kd T i = 12 then typ T (stp T i) fun t j => .call (.inner d) j ns fun x j ms => put { fre 15 (ps T i) with val := t, a := x } j ms fin
    else if kd T i = 13 then .call (.inner d) (stp T i) ns fun x j ms => put { fre 16 (ps T i) with a := x } j ms fin
    else if kd T i = 14 then wnt T 17 (stp T i) fun j => wnt T 18 j fun j => put (fre 17 (ps T i)) j ns fin
    else if kd T i = 1 then
      if kd T (stp T i) = 17 then ent T d (stp T i) (.call (.argL d (-1) (-1)) (stp T (stp T i)) ns fun x j ms => put { fre 13 (ps T i) with a := x, name := (tk T i).text } j ms fin)
      else put { fre 12 (ps T i) with name := (tk T i).text } (stp T i) ns fin
    else .ret (.bad 10 (ps T i))
  | .argL d first last => if kd T i = 18 then fin first (stp T i) ns else com T first i fun j => .call (.lev 1 (d + 1)) j ns fun x j ms => lnk ms first last x fun f ms => .call (.argL d f x) j ms fin
  | .block d => if kd T i = 19 then ent T d i (.call (.blkL d (-1) (-1)) (stp T i) ns fun x j ms => put { fre 2 (ps T i) with a := x } j ms fin) else .ret (.bad 10 (ps T i))
  | .blkL d first last => if kd T i = 20 then fin first (stp T i) ns else .call (.stmt (d + 1)) i ns fun x j ms => lnk ms first last x fun f ms => .call (.blkL d f x) j ms fin
  | .stmt d =>
    if kd T i = 4 then wnt T 1 (stp T i) fun j => typ T j fun t j => wnt T 25 j fun j => .call (.lev 1 d) j ns fun x j ms => wnt T 24 j fun j => put ⟨3, x, -1, -1, -1, t, ps T (stp T i), (tk T (stp T i)).text⟩ j ms fin
    else if kd T i = 5 then .call (.lev 1 d) (stp T i) ns fun x j ms => .call (.block d) j ms fun y j ms => if kd T j = 6 then .call (.block d) (stp T j) ms fun z j ms => put ⟨5, x, y, z, -1, 0, ps T i, ⟨#[]⟩⟩ j ms fin else put ⟨5, x, y, -1, -1, 0, ps T i, ⟨#[]⟩⟩ j ms fin
    else if kd T i = 7 then .call (.lev 1 d) (stp T i) ns fun x j ms => .call (.block d) j ms fun y j ms => put ⟨6, x, y, -1, -1, 0, ps T i, ⟨#[]⟩⟩ j ms fin
    else if kd T i = 8 then .call (.lev 1 d) (stp T i) ns fun x j ms => wnt T 24 j fun j => put { fre 7 (ps T i) with a := x } j ms fin
    else if kd T i = 9 then .call (.lev 1 d) (stp T i) ns fun x j ms => wnt T 24 j fun j => put { fre 8 (ps T i) with a := x } j ms fin
    else .call (.lev 1 d) i ns fun x j ms =>
      if kd T j = 25 ∧ ((ms[x.toNat]?.getD nd0).kind = 12 ∨ (ms[x.toNat]?.getD nd0).kind = 14) then .call (.lev 1 d) (stp T j) ms fun y j2 ms => wnt T 24 j2 fun j3 => put ⟨4, x, y, -1, -1, 0, ps T j, ⟨#[]⟩⟩ j3 ms fin
      else wnt T 24 j fun j3 => put ⟨9, x, -1, -1, -1, 0, (ms[x.toNat]?.getD nd0).pos, ⟨#[]⟩⟩ j3 ms fin
  | .parL first last => if kd T i = 18 then fin first i ns else com T first i fun j => wnt T 1 j fun j2 => typ T j2 fun t j3 => put ⟨1, -1, -1, -1, -1, t, ps T j, (tk T j).text⟩ j3 ns fun x j4 ms => lnk ms first last x fun f ms => .call (.parL f x) j4 ms fin
  | .fn => wnt T 3 i fun j => wnt T 1 j fun j2 => wnt T 17 j2 fun j3 => .call (.parL (-1) (-1)) j3 ns fun a j4 ms => wnt T 18 j4 fun j5 => typ T j5 fun t j6 => .call (.block 0) j6 ms fun b j7 ms => put ⟨0, a, b, -1, -1, t, ps T j, (tk T j).text⟩ j7 ms fin
  | .prog first last => if kd T i = 0 then fin first i ns else .call .fn i ns fun x j ms => lnk ms first last x fun f ms => .call (.prog f x) j ms fin
def run : Nat → Mo → Rs
  | _, .ret r => r
  | 0, .call .. => .bad 0 0
  | n + 1, .call q i ns k => match run n (body T q i ns) with
    | .bad e p => .bad e p
    | .ok x j ms => run n (k x j ms)
/-- That piece ends with that answer. -/
def EvM (m : Mo) (r : Rs) : Prop := ∃ N, ∀ n, N ≤ n → run T n m = r
end
section
variable {T : List Tok}
theorem EvM.ret (r : Rs) : EvM T (.ret r) r := ⟨0, fun n _ => by cases n <;> rfl⟩
theorem EvM.bad {q : Rq} {i : Nat} {ns : List Nd} {k : Int → Nat → List Nd → Mo} {e p : Int} (h : EvM T (body T q i ns) (.bad e p)) : EvM T (.call q i ns k) (.bad e p) := by
  obtain ⟨N, h⟩ := h
  refine ⟨N + 1, fun n hn => ?_⟩
  obtain ⟨m, rfl⟩ : ∃ m, n = m + 1 := ⟨n - 1, by omega⟩
  simp only [run]
  rw [h m (by omega)]
theorem EvM.ok {q : Rq} {i j : Nat} {ns ms : List Nd} {k : Int → Nat → List Nd → Mo} {x : Int} {r : Rs} (h : EvM T (body T q i ns) (.ok x j ms)) (h2 : EvM T (k x j ms) r) : EvM T (.call q i ns k) r := by
  obtain ⟨N, h⟩ := h
  obtain ⟨N2, h2⟩ := h2
  refine ⟨N + N2 + 1, fun n hn => ?_⟩
  obtain ⟨m, rfl⟩ : ∃ m, n = m + 1 := ⟨n - 1, by omega⟩
  simp only [run]
  rw [h m (by omega)]
  exact h2 m (by omega)
theorem EvM.det {m : Mo} {r r' : Rs} (h : EvM T m r) (h' : EvM T m r') : r = r' := by
  obtain ⟨N, h⟩ := h
  obtain ⟨N', h'⟩ := h'
  rw [← h (N + N') (by omega), ← h' (N + N') (by omega)]
theorem EvM.fin (x : Int) (i : Nat) (ns : List Nd) : EvM T (fin x i ns) (.ok x i ns) := .ret _
theorem put_bad {nd : Nd} {i : Nat} {ns : List Nd} {k : Int → Nat → List Nd → Mo} (h : 200 ≤ ns.length) : put nd i ns k = .ret (.bad 12 nd.pos) := by unfold put; rw [if_pos h]
theorem put_ok {nd : Nd} {i : Nat} {ns : List Nd} {k : Int → Nat → List Nd → Mo} (h : ¬ 200 ≤ ns.length) : put nd i ns k = k ns.length i (ns ++ [nd]) := by unfold put; rw [if_neg h]
theorem wnt_bad {k : Int} {i : Nat} {f : Nat → Mo} (h : kd T i ≠ k) : wnt T k i f = .ret (.bad 10 (ps T i)) := by unfold wnt; rw [if_neg h]
theorem wnt_ok {k : Int} {i : Nat} {f : Nat → Mo} (h : kd T i = k) : wnt T k i f = f (stp T i) := by unfold wnt; rw [if_pos h]
theorem ent_bad {d i : Nat} {m : Mo} (h : 8 ≤ d) : ent T d i m = .ret (.bad 11 (ps T i)) := by unfold ent; rw [if_pos h]
theorem ent_ok {d i : Nat} {m : Mo} (h : ¬ 8 ≤ d) : ent T d i m = m := by unfold ent; rw [if_neg h]
/-- The run of operators of one power and more: what the climbing loop does. -/
inductive LB (T : List Tok) (d p : Nat) : Int → Nat → List Nd → Rs → Prop
  | stop {x i ns} : pow (kd T i) < p → LB T d p x i ns (.ok x i ns)
  | bad {x i ns e q} : p ≤ pow (kd T i) → EvM T (body T (.lev (pow (kd T i) + 1) d) (stp T i) ns) (.bad e q) → LB T d p x i ns (.bad e q)
  | full {x i ns y j ms} : p ≤ pow (kd T i) → EvM T (body T (.lev (pow (kd T i) + 1) d) (stp T i) ns) (.ok y j ms) → 200 ≤ ms.length → LB T d p x i ns (.bad 12 (ps T i))
  | step {x i ns y j ms r} : p ≤ pow (kd T i) → EvM T (body T (.lev (pow (kd T i) + 1) d) (stp T i) ns) (.ok y j ms) → pow (kd T j) < pow (kd T i) + 1 → ¬ 200 ≤ ms.length →
      LB T d p ms.length j (ms ++ [⟨18, x, y, -1, -1, kd T i, ps T i, ⟨#[]⟩⟩]) r → LB T d p x i ns r
theorem LB.split {d p : Nat} {x : Int} {i : Nat} {ns : List Nd} {r : Rs} (h : LB T d p x i ns r) :
    ∃ r1, LB T d (p + 1) x i ns r1 ∧ (∀ e q, r1 = .bad e q → r = .bad e q) ∧ (∀ y j ms, r1 = .ok y j ms → EvM T (body T (.levL p d y) j ms) r) := by
  induction h with
  | @stop x i ns h =>
    refine ⟨_, .stop (by omega), fun e q h => (by cases h), fun y j ms e => ?_⟩
    cases e
    simp only [body]
    rw [if_neg (by omega)]
    exact .fin _ _ _
  | @bad x i ns e q h h1 =>
    by_cases hw : pow (kd T i) = p
    · refine ⟨_, .stop (by omega), fun e q h => (by cases h), fun y j ms e => ?_⟩
      cases e
      simp only [body]
      rw [if_pos hw]
      rw [hw] at h1
      exact h1.bad
    · exact ⟨_, .bad (by omega) h1, fun e q h => h, fun y j ms e => by cases e⟩
  | @full x i ns y j ms h h1 h2 =>
    by_cases hw : pow (kd T i) = p
    · refine ⟨_, .stop (by omega), fun e q h => (by cases h), fun y' j' ms' e => ?_⟩
      cases e
      simp only [body]
      rw [if_pos hw]
      rw [hw] at h1
      refine h1.ok ?_
      rw [put_bad h2]
      exact .ret _
    · exact ⟨_, .full (by omega) h1 h2, fun e q h => h, fun y j ms e => by cases e⟩
  | @step x i ns y j ms r h h1 he h2 _ ih =>
    obtain ⟨r1, i1, i2, i3⟩ := ih
    by_cases hw : pow (kd T i) = p
    · refine ⟨_, .stop (by omega), fun e q h => (by cases h), fun y' j' ms' e => ?_⟩
      cases e
      simp only [body]
      rw [if_pos hw]
      rw [hw] at h1 he
      refine h1.ok ?_
      rw [put_ok h2]
      have e1 : r1 = .ok ms.length j (ms ++ [⟨18, x, y, -1, -1, kd T i, ps T i, ⟨#[]⟩⟩]) := by
        cases i1 with
        | stop => rfl
        | bad h => omega
        | full h => omega
        | step h => omega
      have := i3 _ _ _ e1
      cases hr : r with
      | bad e q => rw [hr] at this; exact this.bad
      | ok x j ms => rw [hr] at this; exact this.ok (.fin _ _ _)
    · exact ⟨r1, .step (by omega) h1 he h2 i1, i2, i3⟩
/-- Climbing reads what the levels read. -/
theorem climb {d : Nat} {i j : Nat} {ns ms : List Nd} {x : Int} (hu : EvM T (body T (.un d) i ns) (.ok x j ms)) : ∀ (k p : Nat) (r : Rs), p + k = 6 → 1 ≤ p → LB T d p x j ms r → EvM T (body T (.lev p d) i ns) r
  | 0, p, r, hk, hp, h => by
    obtain rfl : p = 6 := by omega
    have := pow_le (kd T j)
    have e1 : r = .ok x j ms := by
      cases h with
      | stop => rfl
      | bad h => omega
      | full h => omega
      | step h => omega
    subst e1
    simp only [body]
    rw [if_pos (by omega)]
    exact hu.ok (.fin _ _ _)
  | k + 1, p, r, hk, hp, h => by
    obtain ⟨r1, h1, h2, h3⟩ := h.split
    have h4 := climb hu k (p + 1) r1 (by omega) (by omega) h1
    simp only [body]
    rw [if_neg (by omega)]
    cases hr : r1 with
    | bad e q =>
      rw [hr] at h4
      rw [h2 e q hr]
      exact h4.bad
    | ok y j' ms' =>
      rw [hr] at h4
      have h5 := h3 _ _ _ hr
      refine h4.ok ?_
      cases hr2 : r with
      | bad e q => rw [hr2] at h5; exact h5.bad
      | ok x j ms => rw [hr2] at h5; exact h5.ok (.fin _ _ _)
theorem climb_bad {d : Nat} {i : Nat} {ns : List Nd} {e q : Int} (hu : EvM T (body T (.un d) i ns) (.bad e q)) : ∀ (k p : Nat), p + k = 6 → EvM T (body T (.lev p d) i ns) (.bad e q)
  | 0, p, hk => by
    obtain rfl : p = 6 := by omega
    simp only [body]
    rw [if_pos (by omega)]
    exact hu.bad
  | k + 1, p, hk => by
    have h4 := climb_bad hu k (p + 1) (by omega)
    simp only [body]
    rw [if_neg (by omega)]
    exact h4.bad
/-- A run of unary operators that ends in an error. -/
theorem un_bad {d i : Nat} {ns : List Nd} {e q : Int} : ∀ c, (∀ o, o < c → (kd T (i + o) = 33 ∨ kd T (i + o) = 39) ∧ i + o + 1 < T.length) → d + c ≤ 8 → EvM T (body T (.un (d + c)) (i + c) ns) (.bad e q) → EvM T (body T (.un d) i ns) (.bad e q)
  | 0, _, _, h => h
  | c + 1, ho, hd, h => by
    refine un_bad c (fun o h => ho o (by omega)) (by omega) ?_
    obtain ⟨h1, h2⟩ := ho c (by omega)
    simp only [body]
    rw [if_pos h1, ent_ok (by omega), show stp T (i + c) = i + (c + 1) by unfold stp; rw [if_pos h2]; omega]
    exact h.bad
end
/-- The nodes are sound. -/
structure NOk (n : Nat) (i : Nat) (x : Nd) : Prop where
  k : 0 ≤ x.kind ∧ x.kind < 20
  p : 0 ≤ x.pos
  a : -1 ≤ x.a ∧ x.a < i
  b : -1 ≤ x.b ∧ x.b < i
  c : -1 ≤ x.c ∧ x.c < i
  n : x.nx = -1 ∨ ((i : Int) < x.nx ∧ x.nx < n)
def NsOk (ns : List Nd) : Prop := ∀ i (h : i < ns.length), NOk ns.length i ns[i]
theorem NsOk.nil : NsOk [] := fun i h => by cases h
theorem NsOk.add {ns : List Nd} {x : Nd} (h : NsOk ns) (hx : NOk ns.length ns.length x) : NsOk (ns ++ [x]) := fun i hi => by
  simp only [List.length_append, List.length_singleton] at hi ⊢
  by_cases hl : i < ns.length
  · rw [List.getElem_append_left hl]
    have := h i hl
    exact ⟨this.k, this.p, this.a, this.b, this.c, this.n.imp id (fun h => by omega)⟩
  · obtain rfl : i = ns.length := by omega
    simp
    exact ⟨hx.k, hx.p, hx.a, hx.b, hx.c, hx.n.imp id (fun h => by omega)⟩
theorem NsOk.link {ns : List Nd} {k : Nat} {x : Int} (h : NsOk ns) (hk : k < ns.length) (h1 : (k : Int) < x) (h2 : x < ns.length) : NsOk (setNx ns k x) := fun i hi => by
  unfold setNx at hi ⊢
  simp only [List.length_set] at hi ⊢
  by_cases e : k = i
  · subst e
    rw [List.getElem_set_self]
    have := h k hk
    simp only [List.getElem?_eq_getElem hk, Option.getD_some]
    exact ⟨this.k, this.p, this.a, this.b, this.c, .inr ⟨h1, h2⟩⟩
  · rw [List.getElem_set_ne e]
    exact h i hi
theorem setNx_len (ns : List Nd) (k : Nat) (x : Int) : (setNx ns k x).length = ns.length := by simp [setNx]
end Go.Proofs.Qxb6500277aGreat
