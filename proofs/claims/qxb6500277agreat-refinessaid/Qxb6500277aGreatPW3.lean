/- The real parser: nodes in boxes, contracts with what follows. -/
import Derived.Test.Qxb6500277aGreatPW2
namespace Go.Proofs.Qxb6500277aGreat
open Go Go.RowKit

section
variable {w w' : World} {A : Pa} {T : List Tok} {i j : Nat} {ns ms : List Nd} {fl : Bool} {er q : Int} {S : Nat → Prop}
theorem PM.r15 (P : PM w A T i ns fl er q) : w.cell? ⟨A.p, 1, none⟩ = some (.slice (some ⟨A.tb, 0, none⟩) T.length T.length) ∧ w.cell? ⟨A.p, 2, none⟩ = some (.int .i64 i) ∧ w.cell? ⟨A.p, 3, none⟩ = some (.slice (some ⟨A.ab, 0, none⟩) 200 200) ∧ w.cell? ⟨A.p, 4, none⟩ = some (.int .i64 ns.length) ∧ w.cell? ⟨A.p, 5, none⟩ = some (.bool fl) := by
  obtain ⟨_, r1, r2, r3, r4, r5, _⟩ := P.regs
  exact ⟨r1, r2, r3, r4, r5⟩
structure BM (w : World) (A : Pa) (T : List Tok) (i : Nat) (ns : List Nd) (fl : Bool) (er q : Int) (b : Nat) (nd : Nd) : Prop where
  P : PM w A T i ns fl er q
  X : Blk w b 8 (ndCell nd)
  ne : b ≠ A.p ∧ b ≠ A.tb ∧ b ≠ A.ab
theorem BM.fx {b : Nat} {nd : Nd} (h : BM w A T i ns fl er q b nd) : w.cell? ⟨b, 0, none⟩ = some (.int .i64 nd.kind) ∧ w.cell? ⟨b, 1, none⟩ = some (.int .i64 nd.a) ∧ w.cell? ⟨b, 2, none⟩ = some (.int .i64 nd.b) ∧ w.cell? ⟨b, 3, none⟩ = some (.int .i64 nd.c) ∧ w.cell? ⟨b, 4, none⟩ = some (.int .i64 nd.nx) ∧ w.cell? ⟨b, 5, none⟩ = some (.int .i64 nd.val) ∧ w.cell? ⟨b, 6, none⟩ = some (.int .i64 nd.pos) ∧ w.cell? ⟨b, 7, none⟩ = some (.string nd.name) ∧ (∀ o, w.frozen? ⟨b, o, none⟩ = false) ∧ b < w.heap.size ∧ b ≠ A.p ∧ b ≠ A.tb ∧ b ≠ A.ab :=
  ⟨h.X.cell (by omega), h.X.cell (by omega), h.X.cell (by omega), h.X.cell (by omega), h.X.cell (by omega), h.X.cell (by omega), h.X.cell (by omega), h.X.cell (by omega), h.X.frozen, h.X.lt, h.ne⟩
theorem BM.new (P : PM w A T i ns fl er q) (nd : Nd) : BM (w.alloc (boxN nd)) A T i ns fl er q w.heap.size nd := by
  obtain ⟨h1, h2, h3⟩ := P.blt
  exact ⟨P.same ((Fr.refl _ _).alloc _), boxN_blk w nd, by omega, by omega, by omega⟩
theorem BM.go {b : Nat} {nd : Nd} {i' : Nat} {ns' : List Nd} {fl' : Bool} {er' q' : Int} (h : BM w A T i ns fl er q b nd) (f : Fr (PS A) w w') (P' : PM w' A T i' ns' fl' er' q') : BM w' A T i' ns' fl' er' q' b nd :=
  ⟨P', h.X.frame f (by unfold PS; have := h.ne; omega), h.ne⟩
theorem BM.same {b : Nat} {nd : Nd} (h : BM w A T i ns fl er q b nd) (f : Fr (fun _ => False) w w') : BM w' A T i ns fl er q b nd := ⟨h.P.same f, h.X.frame f (fun h => h), h.ne⟩
theorem BM.set {b : Nat} {nd : Nd} (h : BM w A T i ns fl er q b nd) {o : Nat} {v : Value} {nd' : Nd} (e : ∀ c, c < 8 → upd (ndCell nd) o v c = ndCell nd' c) : BM (w.setCell ⟨b, o, none⟩ v) A T i ns fl er q b nd' := by
  have k := (Fr.refl (fun c => c = b) w).setC b o v (fun _ => rfl)
  exact ⟨h.P.frame k (Ne.symm h.ne.1) (Ne.symm h.ne.2.1) (Ne.symm h.ne.2.2), (h.X.set o v).congr e, h.ne⟩
theorem BM.setK {b : Nat} {k a c2 c3 n v p : Int} {s : ByteArray} (h : BM w A T i ns fl er q b ⟨k, a, c2, c3, n, v, p, s⟩) (x : Int) : BM (w.setCell ⟨b, 0, none⟩ (.int .i64 x)) A T i ns fl er q b ⟨x, a, c2, c3, n, v, p, s⟩ := h.set fun c hc => by
  rcases lt8c hc with rfl | rfl | rfl | rfl | rfl | rfl | rfl | rfl <;> rfl
theorem BM.setA {b : Nat} {k a c2 c3 n v p : Int} {s : ByteArray} (h : BM w A T i ns fl er q b ⟨k, a, c2, c3, n, v, p, s⟩) (x : Int) : BM (w.setCell ⟨b, 1, none⟩ (.int .i64 x)) A T i ns fl er q b ⟨k, x, c2, c3, n, v, p, s⟩ := h.set fun c hc => by
  rcases lt8c hc with rfl | rfl | rfl | rfl | rfl | rfl | rfl | rfl <;> rfl
theorem BM.setB {b : Nat} {k a c2 c3 n v p : Int} {s : ByteArray} (h : BM w A T i ns fl er q b ⟨k, a, c2, c3, n, v, p, s⟩) (x : Int) : BM (w.setCell ⟨b, 2, none⟩ (.int .i64 x)) A T i ns fl er q b ⟨k, a, x, c3, n, v, p, s⟩ := h.set fun c hc => by
  rcases lt8c hc with rfl | rfl | rfl | rfl | rfl | rfl | rfl | rfl <;> rfl
theorem BM.setC {b : Nat} {k a c2 c3 n v p : Int} {s : ByteArray} (h : BM w A T i ns fl er q b ⟨k, a, c2, c3, n, v, p, s⟩) (x : Int) : BM (w.setCell ⟨b, 3, none⟩ (.int .i64 x)) A T i ns fl er q b ⟨k, a, c2, x, n, v, p, s⟩ := h.set fun c hc => by
  rcases lt8c hc with rfl | rfl | rfl | rfl | rfl | rfl | rfl | rfl <;> rfl
theorem BM.setN {b : Nat} {k a c2 c3 n v p : Int} {s : ByteArray} (h : BM w A T i ns fl er q b ⟨k, a, c2, c3, n, v, p, s⟩) (x : Int) : BM (w.setCell ⟨b, 4, none⟩ (.int .i64 x)) A T i ns fl er q b ⟨k, a, c2, c3, x, v, p, s⟩ := h.set fun c hc => by
  rcases lt8c hc with rfl | rfl | rfl | rfl | rfl | rfl | rfl | rfl <;> rfl
theorem BM.setV {b : Nat} {k a c2 c3 n v p : Int} {s : ByteArray} (h : BM w A T i ns fl er q b ⟨k, a, c2, c3, n, v, p, s⟩) (x : Int) : BM (w.setCell ⟨b, 5, none⟩ (.int .i64 x)) A T i ns fl er q b ⟨k, a, c2, c3, n, x, p, s⟩ := h.set fun c hc => by
  rcases lt8c hc with rfl | rfl | rfl | rfl | rfl | rfl | rfl | rfl <;> rfl
theorem BM.setP {b : Nat} {k a c2 c3 n v p : Int} {s : ByteArray} (h : BM w A T i ns fl er q b ⟨k, a, c2, c3, n, v, p, s⟩) (x : Int) : BM (w.setCell ⟨b, 6, none⟩ (.int .i64 x)) A T i ns fl er q b ⟨k, a, c2, c3, n, v, x, s⟩ := h.set fun c hc => by
  rcases lt8c hc with rfl | rfl | rfl | rfl | rfl | rfl | rfl | rfl <;> rfl
theorem BM.setS {b : Nat} {k a c2 c3 n v p : Int} {s : ByteArray} (h : BM w A T i ns fl er q b ⟨k, a, c2, c3, n, v, p, s⟩) (x : ByteArray) : BM (w.setCell ⟨b, 7, none⟩ (.string x)) A T i ns fl er q b ⟨k, a, c2, c3, n, v, p, x⟩ := h.set fun c hc => by
  rcases lt8c hc with rfl | rfl | rfl | rfl | rfl | rfl | rfl | rfl <;> rfl
/-- What m ends with, M ends with. -/
def Im (T : List Tok) (m M : Mo) : Prop := ∀ r, EvM T m r → EvM T M r
theorem Im.refl (m : Mo) : Im T m m := fun _ h => h
theorem Im.call_ok {q : Rq} {k : Int → Nat → List Nd → Mo} {M : Mo} {x : Int} (h : Im T (.call q i ns k) M) (h1 : EvM T (body T q i ns) (.ok x j ms)) : Im T (k x j ms) M := fun _ h2 => h _ (h1.ok h2)
theorem Im.call_bad {qq : Rq} {k : Int → Nat → List Nd → Mo} {M : Mo} (h : Im T (.call qq i ns k) M) (h1 : EvM T (body T qq i ns) (.bad er q)) : EvM T M (.bad er q) := h _ h1.bad
theorem Im.jump {qq : Rq} {M : Mo} (h : Im T (.call qq i ns fin) M) : Im T (body T qq i ns) M := fun r hr => h _ (by
  cases r with
  | bad e q => exact hr.bad
  | ok x j ms => exact hr.ok (.fin _ _ _))
/-- The parser has failed, and so does M. -/
def Dd (w : World) (A : Pa) (T : List Tok) (M : Mo) : Prop := ∃ er q j ms, er ≠ 0 ∧ PM w A T j ms true er q ∧ EvM T M (.bad er q)
/-- The answer of a parse function in memory. -/
def RP (w' : World) (A : Pa) (T : List Tok) (i : Nat) (ns : List Nd) (e : Ending) : Rs → Prop
  | .bad er q => e = .returned (.int .i64 (-1)) ∧ er ≠ 0 ∧ ∃ j ms, PM w' A T j ms true er q
  | .ok x j ms => e = .returned (.int .i64 x) ∧ PM w' A T j ms false 0 0 ∧ i < j ∧ x + 1 = ms.length ∧ (ns.length : Int) ≤ x
def PPost (w : World) (A : Pa) (T : List Tok) (i : Nat) (ns : List Nd) (q : Rq) (e : Ending) (w' : World) : Prop := ∃ r, EvM T (body T q i ns) r ∧ Fr (PS A) w w' ∧ RP w' A T i ns e r
theorem PPost.dead {qq : Rq} (f : Fr (PS A) w w') (D : Dd w' A T (body T qq i ns)) : PPost w A T i ns qq (.returned (.int .i64 (-1))) w' := by
  obtain ⟨er, q, j, ms, h0, P, hE⟩ := D
  exact ⟨_, hE, f, rfl, h0, j, ms, P⟩
theorem PPost.done {qq : Rq} {x : Int} (f : Fr (PS A) w w') (P : PM w' A T j ms false 0 0) (C : Im T (fin x j ms) (body T qq i ns)) (h1 : i < j) (h2 : x + 1 = ms.length) (h3 : (ns.length : Int) ≤ x) : PPost w A T i ns qq (.returned (.int .i64 x)) w' :=
  ⟨_, C _ (.fin _ _ _), f, rfl, P, h1, h2, h3⟩
theorem PPost.use {qq : Rq} {k : Int → Nat → List Nd → Mo} {M : Mo} {e : Ending} (h : PPost w A T i ns qq e w') (C : Im T (.call qq i ns k) M) : Fr (PS A) w w' ∧
    ((∃ (x : Int) (j : Nat) (ms : List Nd), e = .returned (.int .i64 x) ∧ PM w' A T j ms false 0 0 ∧ i < j ∧ x + 1 = ms.length ∧ (ns.length : Int) ≤ x ∧ Im T (k x j ms) M) ∨ (e = .returned (.int .i64 (-1)) ∧ Dd w' A T M)) := by
  obtain ⟨r, hr, f, h⟩ := h
  refine ⟨f, ?_⟩
  cases r with
  | bad e q =>
    obtain ⟨h1, h2, j, ms, P⟩ := h
    exact .inr ⟨h1, _, _, _, _, h2, P, C.call_bad hr⟩
  | ok x j ms =>
    obtain ⟨h1, h2, h3, h4, h5⟩ := h
    exact .inl ⟨x, j, ms, h1, h2, h3, h4, h5, C.call_ok hr⟩
/-- The answer of a function that reads a list. -/
def RL (w' : World) (A : Pa) (T : List Tok) (i : Nat) (ns : List Nd) (e : Ending) : Rs → Prop
  | .bad er q => e = .returned (.int .i64 (-1)) ∧ er ≠ 0 ∧ ∃ j ms, PM w' A T j ms true er q
  | .ok x j ms => e = .returned (.int .i64 x) ∧ PM w' A T j ms false 0 0 ∧ i ≤ j ∧ x < ms.length ∧ -1 ≤ x ∧ ns.length ≤ ms.length
def LPost (w : World) (A : Pa) (T : List Tok) (i : Nat) (ns : List Nd) (q : Rq) (e : Ending) (w' : World) : Prop := ∃ r, EvM T (body T q i ns) r ∧ Fr (PS A) w w' ∧ RL w' A T i ns e r
theorem LPost.dead {qq : Rq} (f : Fr (PS A) w w') (D : Dd w' A T (body T qq i ns)) : LPost w A T i ns qq (.returned (.int .i64 (-1))) w' := by
  obtain ⟨er, q, j, ms, h0, P, hE⟩ := D
  exact ⟨_, hE, f, rfl, h0, j, ms, P⟩
theorem LPost.done {qq : Rq} {x : Int} (f : Fr (PS A) w w') (P : PM w' A T j ms false 0 0) (C : Im T (fin x j ms) (body T qq i ns)) (h1 : i ≤ j) (h2 : x < ms.length) (h3 : -1 ≤ x) (h4 : ns.length ≤ ms.length) : LPost w A T i ns qq (.returned (.int .i64 x)) w' :=
  ⟨_, C _ (.fin _ _ _), f, rfl, P, h1, h2, h3, h4⟩
theorem LPost.use {qq : Rq} {k : Int → Nat → List Nd → Mo} {M : Mo} {e : Ending} (h : LPost w A T i ns qq e w') (C : Im T (.call qq i ns k) M) : Fr (PS A) w w' ∧
    ((∃ (x : Int) (j : Nat) (ms : List Nd), e = .returned (.int .i64 x) ∧ PM w' A T j ms false 0 0 ∧ i ≤ j ∧ x < ms.length ∧ -1 ≤ x ∧ ns.length ≤ ms.length ∧ Im T (k x j ms) M) ∨ (e = .returned (.int .i64 (-1)) ∧ Dd w' A T M)) := by
  obtain ⟨r, hr, f, h⟩ := h
  refine ⟨f, ?_⟩
  cases r with
  | bad e q =>
    obtain ⟨h1, h2, j, ms, P⟩ := h
    exact .inr ⟨h1, _, _, _, _, h2, P, C.call_bad hr⟩
  | ok x j ms =>
    obtain ⟨h1, h2, h3, h4, h5, h6⟩ := h
    exact .inl ⟨x, j, ms, h1, h2, h3, h4, h5, h6, C.call_ok hr⟩
/-- binary, from the places that leave at most n tokens. -/
def LvP (w : World) (A : Pa) (T : List Tok) (i : Nat) (ns : List Nd) (p d : Nat) (e : Ending) (w' : World) : Prop := ∃ r, EvM T (body T (.lev p d) i ns) r ∧ Fr (PS A) w w' ∧ RP w' A T i ns e r ∧ ∀ x j ms, r = .ok x j ms → pow (kd T j) < p
theorem LvP.post {p d : Nat} {e : Ending} (h : LvP w A T i ns p d e w') : PPost w A T i ns (.lev p d) e w' := by
  obtain ⟨r, a, b, c, _⟩ := h
  exact ⟨r, a, b, c⟩
def LvC (T : List Tok) (n : Nat) : Prop := ∀ (w : World) (A : Pa) (i : Nat) (ns : List Nd) (p d : Nat) (pv l : Int), T.length ≤ i + n → PM w A T i ns false 0 0 → 1 ≤ p → p ≤ 6 → d ≤ 8 → pv = (p : Nat) → l = 8 - (d : Int) →
  Calls Tryz.prog 233 #[.pointer (some ⟨A.p, 0, none⟩), .int .i64 pv, .int .i64 l] w (LvP w A T i ns p d)
theorem LvC.use {n : Nat} (H : LvC T n) {M : Mo} {k : Int → Nat → List Nd → Mo} (hi : T.length ≤ i + n) (P : PM w A T i ns false 0 0) {d : Nat} {l : Int} (hd : d ≤ 8) (hl : l = 8 - (d : Int)) (C : Im T (.call (.lev 1 d) i ns k) M) :
    Calls Tryz.prog 233 #[.pointer (some ⟨A.p, 0, none⟩), .int .i64 1, .int .i64 l] w fun e w' => Fr (PS A) w w' ∧
    ((∃ (x : Int) (j : Nat) (ms : List Nd), e = .returned (.int .i64 x) ∧ PM w' A T j ms false 0 0 ∧ i < j ∧ x + 1 = ms.length ∧ (ns.length : Int) ≤ x ∧ Im T (k x j ms) M) ∨ (e = .returned (.int .i64 (-1)) ∧ Dd w' A T M)) :=
  (H w A i ns 1 d 1 l hi P (by omega) (by omega) hd rfl hl).mono fun _ _ h => h.post.use C
theorem openC (P : PM w A T i ns false er q) (d : Nat) (hd : d ≤ 8) {l : Int} (hl : l = 8 - (d : Int)) {m M : Mo} (C : Im T (ent T d i m) M) : Calls Tryz.prog 220 #[.pointer (some ⟨A.p, 0, none⟩), .int .i64 l] w fun v w' => Fr (PS A) w w' ∧ ((¬ 8 ≤ d ∧ v = .returned (.bool true) ∧ w' = w ∧ Im T m M) ∨ (v = .returned (.bool false) ∧ Dd w' A T M)) := by
  subst hl
  refine (openF P d hd).mono ?_
  rintro v w1 ⟨f, ⟨h, h1, h2⟩ | ⟨h, h1, h2⟩⟩
  · rw [ent_ok h] at C
    exact ⟨f, .inl ⟨h, h1, h2, C⟩⟩
  · rw [ent_bad h] at C
    exact ⟨f, .inr ⟨h1, _, _, _, _, by decide, h2, C _ (.ret _)⟩⟩
theorem PM.nxt (P : PM w A T i ns fl er q) (h : kd T i ≠ 0) : stp T i = i + 1 ∧ i + 1 < T.length := by
  have h1 : i + 1 < T.length := by
    have h2 := P.tok.eof i P.lt
    have e : T[i]'P.lt = tk T i := P.tkE
    rw [e] at h2
    have h3 : ¬ (i + 1 = T.length) := fun e => h (h2.2 e)
    have := P.lt
    omega
  exact ⟨by unfold stp; rw [if_pos h1], h1⟩
theorem takeC (P : PM w A T i ns false er q) (k : Int) (h0 : k ≠ 0) {f : Nat → Mo} {M : Mo} (C : Im T (wnt T k i f) M) : Calls Tryz.prog 183 #[.pointer (some ⟨A.p, 0, none⟩), .int .i64 k] w fun v w' => Fr (PS A) w w' ∧
    ((kd T i = k ∧ v = .returned (.bool true) ∧ PM w' A T (stp T i) ns false er q ∧ i < stp T i ∧ Im T (f (stp T i)) M) ∨ (v = .returned (.bool false) ∧ Dd w' A T M)) := by
  refine (takeF P k).mono ?_
  rintro v w1 ⟨f1, ⟨h, h1, h2⟩ | ⟨h, h1, h2⟩⟩
  · rw [wnt_ok h] at C
    exact ⟨f1, .inl ⟨h, h1, h2, by have := P.nxt (by omega); omega, C⟩⟩
  · rw [wnt_bad h] at C
    exact ⟨f1, .inr ⟨h1, _, _, _, _, by decide, h2, C _ (.ret _)⟩⟩
theorem addC (P : PM w A T i ns false 0 0) (nd : Nd) (hx : NOk ns.length ns.length nd) {k : Int → Nat → List Nd → Mo} {M : Mo} (C : Im T (put nd i ns k) M) : Calls Tryz.prog 189 #[.pointer (some ⟨A.p, 0, none⟩), ndV nd] w fun v w' => Fr (PS A) w w' ∧
    ((∃ n : Nat, n = ns.length ∧ v = .returned (.int .i64 n) ∧ PM w' A T i (ns ++ [nd]) false 0 0 ∧ n < 200 ∧ Im T (k n i (ns ++ [nd])) M) ∨ (v = .returned (.int .i64 (-1)) ∧ Dd w' A T M)) := by
  by_cases h : 200 ≤ ns.length
  · rw [put_bad h] at C
    refine (add_full P nd h).mono ?_
    rintro v w1 ⟨h1, h2, h3⟩
    exact ⟨h2, .inr ⟨h1, _, _, _, _, by decide, h3, C _ (.ret _)⟩⟩
  · rw [put_ok h] at C
    refine (add_ok P nd h hx).mono ?_
    rintro v w1 ⟨h1, h2, h3⟩
    exact ⟨h2, .inl ⟨_, rfl, h1, h3, by omega, C⟩⟩
theorem Dd.go {M : Mo} (D : Dd w A T M) (f : Fr (fun _ => False) w w') : Dd w' A T M := by
  obtain ⟨er, q, j, ms, h0, P, hE⟩ := D
  exact ⟨er, q, j, ms, h0, P.same f, hE⟩
/-- A failed parser beside a node's box. -/
structure BD (w : World) (A : Pa) (T : List Tok) (M : Mo) (b : Nat) (nd : Nd) : Prop where
  D : Dd w A T M
  X : Blk w b 8 (ndCell nd)
  ne : b ≠ A.p ∧ b ≠ A.tb ∧ b ≠ A.ab
theorem PM.psn (P : PM w A T i ns fl er q) : 0 ≤ ps T i := by
  have := P.tok.ps i P.lt
  rw [P.tkE] at this
  exact this
theorem stp_le (T : List Tok) (j : Nat) : j ≤ stp T j := by unfold stp; split <;> omega
end
end Go.Proofs.Qxb6500277aGreat
