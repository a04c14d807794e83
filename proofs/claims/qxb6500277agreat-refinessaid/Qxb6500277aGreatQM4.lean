/- The model parser: boxes, contracts. -/
import Derived.Test.Qxb6500277aGreatQM3
namespace Go.Proofs.Qxb6500277aGreat
open Go Go.RowKit

section
variable {w w' w1 w2 : World} {s tb : Nat} {T : List Tok} {i : Nat} {ns : List Nd} {er q : Int} {nv nv' nv1 nv2 : Value} {S : Nat → Prop} {M : Mo} {K K' : Nat → List Nd → Prop} {g g' : Nat → List Nd → Mo}
def KK (a n : Nat) (j : Nat) (ms : List Nd) : Prop := a ≤ j ∧ n ≤ ms.length
structure MB (w : World) (s tb : Nat) (T : List Tok) (nv : Value) (M : Mo) (K : Nat → List Nd → Prop) (g : Nat → List Nd → Mo) (b : Nat) (nd : Nd) : Prop where
  S : St w s tb T nv M K g
  X : Blk w b 8 (ndCell nd)
  ne : b ≠ s ∧ b ≠ tb ∧ ¬ isBlk nv b
theorem MB.fx {b : Nat} {nd : Nd} (h : MB w s tb T nv M K g b nd) : w.cell? ⟨b, 0, none⟩ = some (.int .i64 nd.kind) ∧ w.cell? ⟨b, 1, none⟩ = some (.int .i64 nd.a) ∧ w.cell? ⟨b, 2, none⟩ = some (.int .i64 nd.b) ∧ w.cell? ⟨b, 3, none⟩ = some (.int .i64 nd.c) ∧ w.cell? ⟨b, 4, none⟩ = some (.int .i64 nd.nx) ∧ w.cell? ⟨b, 5, none⟩ = some (.int .i64 nd.val) ∧ w.cell? ⟨b, 6, none⟩ = some (.int .i64 nd.pos) ∧ w.cell? ⟨b, 7, none⟩ = some (.string nd.name) ∧ (∀ o, w.frozen? ⟨b, o, none⟩ = false) ∧ b < w.heap.size ∧ b ≠ s ∧ s < w.heap.size := by
  obtain ⟨_, _, _, _, P⟩ := h.S.any
  exact ⟨h.X.cell (by omega), h.X.cell (by omega), h.X.cell (by omega), h.X.cell (by omega), h.X.cell (by omega), h.X.cell (by omega), h.X.cell (by omega), h.X.cell (by omega), h.X.frozen, h.X.lt, h.ne.1, P.blt.1⟩
theorem MB.new (h : St w s tb T nv M K g) (nd : Nd) : MB (w.alloc (boxN nd)) s tb T nv M K g w.heap.size nd := by
  obtain ⟨_, _, _, _, P⟩ := h.any
  have := P.blt
  exact ⟨h.same ((Fr.refl _ _).alloc _), boxN_blk w nd, by omega, by omega, fun h => by have := P.arr.lt h; omega⟩
theorem MB.go {b : Nat} {nd : Nd} (h : MB w s tb T nv M K g b nd) (G : Gm s w nv w' nv') (S' : St w' s tb T nv' M K' g') : MB w' s tb T nv' M K' g' b nd :=
  ⟨S', h.X.frame G.fr (fun e => e.elim h.ne.1 h.ne.2.2), h.ne.1, h.ne.2.1, fun e => (G.up b e).elim h.ne.2.2 (fun e => by have := h.X.lt; omega)⟩
theorem MB.same {b : Nat} {nd : Nd} (h : MB w s tb T nv M K g b nd) (f : Fr (fun _ => False) w w') : MB w' s tb T nv M K g b nd := ⟨h.S.same f, h.X.frame f (fun h => h), h.ne⟩
theorem MB.conv {b : Nat} {nd : Nd} (h : MB w s tb T nv M K g b nd) (S' : St w s tb T nv M K' g') : MB w s tb T nv M K' g' b nd := ⟨S', h.X, h.ne⟩
theorem MB.set {b : Nat} {nd : Nd} (h : MB w s tb T nv M K g b nd) {o : Nat} {v : Value} {nd' : Nd} (e : ∀ c, c < 8 → upd (ndCell nd) o v c = ndCell nd' c) : MB (w.setCell ⟨b, o, none⟩ v) s tb T nv M K g b nd' := by
  have k := (Fr.refl (fun c => c = b) w).setC b o v (fun _ => rfl)
  exact ⟨h.S.frame k (Ne.symm h.ne.1) (Ne.symm h.ne.2.1) (fun c hc e => h.ne.2.2 (e ▸ hc)), (h.X.set o v).congr e, h.ne⟩
theorem Gm.set {b o : Nat} {v : Value} (G : Gm s w nv w' nv') (hb : w.heap.size ≤ b) : Gm s w nv (w'.setCell ⟨b, o, none⟩ v) nv' := ⟨G.fr.setNew hb, G.up⟩
theorem Gm.alloc (G : Gm s w nv w' nv') (o : Obj) : Gm s w nv (w'.alloc o) nv' := ⟨G.fr.alloc o, G.up⟩
theorem MB.setK {b : Nat} {k a c2 c3 n v p : Int} {t : ByteArray} (h : MB w s tb T nv M K g b ⟨k, a, c2, c3, n, v, p, t⟩) (x : Int) : MB (w.setCell ⟨b, 0, none⟩ (.int .i64 x)) s tb T nv M K g b ⟨x, a, c2, c3, n, v, p, t⟩ := h.set fun c hc => by
  rcases lt8c hc with rfl | rfl | rfl | rfl | rfl | rfl | rfl | rfl <;> rfl
theorem MB.setA {b : Nat} {k a c2 c3 n v p : Int} {t : ByteArray} (h : MB w s tb T nv M K g b ⟨k, a, c2, c3, n, v, p, t⟩) (x : Int) : MB (w.setCell ⟨b, 1, none⟩ (.int .i64 x)) s tb T nv M K g b ⟨k, x, c2, c3, n, v, p, t⟩ := h.set fun c hc => by
  rcases lt8c hc with rfl | rfl | rfl | rfl | rfl | rfl | rfl | rfl <;> rfl
theorem MB.setB {b : Nat} {k a c2 c3 n v p : Int} {t : ByteArray} (h : MB w s tb T nv M K g b ⟨k, a, c2, c3, n, v, p, t⟩) (x : Int) : MB (w.setCell ⟨b, 2, none⟩ (.int .i64 x)) s tb T nv M K g b ⟨k, a, x, c3, n, v, p, t⟩ := h.set fun c hc => by
  rcases lt8c hc with rfl | rfl | rfl | rfl | rfl | rfl | rfl | rfl <;> rfl
theorem MB.setC {b : Nat} {k a c2 c3 n v p : Int} {t : ByteArray} (h : MB w s tb T nv M K g b ⟨k, a, c2, c3, n, v, p, t⟩) (x : Int) : MB (w.setCell ⟨b, 3, none⟩ (.int .i64 x)) s tb T nv M K g b ⟨k, a, c2, x, n, v, p, t⟩ := h.set fun c hc => by
  rcases lt8c hc with rfl | rfl | rfl | rfl | rfl | rfl | rfl | rfl <;> rfl
theorem MB.setN {b : Nat} {k a c2 c3 n v p : Int} {t : ByteArray} (h : MB w s tb T nv M K g b ⟨k, a, c2, c3, n, v, p, t⟩) (x : Int) : MB (w.setCell ⟨b, 4, none⟩ (.int .i64 x)) s tb T nv M K g b ⟨k, a, c2, c3, x, v, p, t⟩ := h.set fun c hc => by
  rcases lt8c hc with rfl | rfl | rfl | rfl | rfl | rfl | rfl | rfl <;> rfl
theorem MB.setV {b : Nat} {k a c2 c3 n v p : Int} {t : ByteArray} (h : MB w s tb T nv M K g b ⟨k, a, c2, c3, n, v, p, t⟩) (x : Int) : MB (w.setCell ⟨b, 5, none⟩ (.int .i64 x)) s tb T nv M K g b ⟨k, a, c2, c3, n, x, p, t⟩ := h.set fun c hc => by
  rcases lt8c hc with rfl | rfl | rfl | rfl | rfl | rfl | rfl | rfl <;> rfl
theorem MB.setP {b : Nat} {k a c2 c3 n v p : Int} {t : ByteArray} (h : MB w s tb T nv M K g b ⟨k, a, c2, c3, n, v, p, t⟩) (x : Int) : MB (w.setCell ⟨b, 6, none⟩ (.int .i64 x)) s tb T nv M K g b ⟨k, a, c2, c3, n, v, x, t⟩ := h.set fun c hc => by
  rcases lt8c hc with rfl | rfl | rfl | rfl | rfl | rfl | rfl | rfl <;> rfl
theorem MB.setS {b : Nat} {k a c2 c3 n v p : Int} {t : ByteArray} (h : MB w s tb T nv M K g b ⟨k, a, c2, c3, n, v, p, t⟩) (x : ByteArray) : MB (w.setCell ⟨b, 7, none⟩ (.string x)) s tb T nv M K g b ⟨k, a, c2, c3, n, v, p, x⟩ := h.set fun c hc => by
  rcases lt8c hc with rfl | rfl | rfl | rfl | rfl | rfl | rfl | rfl <;> rfl
theorem enterL {m : Mo} {d : Nat} (P : SM w s tb T i ns 0 0 nv) (C : Im T (ent T d i m) M) (hd : d ≤ 9) {dv : Int} (hdv : dv = d) :
    Calls Tryz.prog 213 #[.pointer (some ⟨s, 0, none⟩), .int .i64 dv] w fun e w' => (¬ 8 ≤ d ∧ e = .returned (.bool true) ∧ w' = w ∧ Im T m M) ∨ (e = .returned (.bool false) ∧ DdM w' s tb T nv M ∧ Gm s w nv w' nv) := by
  subst hdv
  refine (enterM P d hd).mono ?_
  rintro e w1 (⟨h, h1, h2⟩ | ⟨h, h1, h2, h3⟩)
  · rw [ent_ok h] at C
    exact .inl ⟨h, h1, h2, C⟩
  · rw [ent_bad h] at C
    exact .inr ⟨h1, ⟨_, _, _, _, by decide, h2, C _ (.ret _)⟩, h3⟩
/-- want, its answer not used. -/
theorem want0 {k : Int} (h : St w s tb T nv M K (fun j ms => wnt T k j fun j' => g j' ms)) (hk : k ≠ 0) (hK : ∀ j ms, K j ms → K' (j + 1) ms) :
    Calls Tryz.prog 170 #[.pointer (some ⟨s, 0, none⟩), .int .i64 k] w fun e w' => ∃ p, e = .returned (.int .i64 p) ∧ St w' s tb T nv M K' g ∧ Gm s w nv w' nv := wantCq (g := fun _ => g) h hk hK
def MPM (w : World) (s tb : Nat) (T : List Tok) (nv : Value) (i : Nat) (ns : List Nd) (q : Rq) (e : Ending) (w' : World) : Prop := ∃ x nv', e = .returned (.int .i64 x) ∧ St w' s tb T nv' (body T q i ns) (fun j ms => i < j ∧ ns.length ≤ ms.length ∧ 0 ≤ x ∧ x < ms.length) (fin x) ∧ Gm s w nv w' nv'
theorem MPM.done {qq : Rq} {x : Int} (S : St w' s tb T nv' (body T qq i ns) K (fin x)) (hK : ∀ j ms, K j ms → i < j ∧ ns.length ≤ ms.length ∧ 0 ≤ x ∧ x < ms.length) (G : Gm s w nv w' nv') : MPM w s tb T nv i ns qq (.returned (.int .i64 x)) w' := ⟨x, nv', rfl, S.mono hK, G⟩
theorem MPM.dead {qq : Rq} {x : Int} (D : DdM w' s tb T nv' (body T qq i ns)) (G : Gm s w nv w' nv') : MPM w s tb T nv i ns qq (.returned (.int .i64 x)) w' := ⟨x, nv', rfl, .inr D, G⟩
theorem St.call {F : Nat} {args : Array Value} {qq : Rq} {g : Int → Nat → List Nd → Mo} {K' : Int → Nat → List Nd → Prop} (h : St w s tb T nv M K (fun j ms => .call qq j ms g)) (hl : ∀ j ms, SM w s tb T j ms 0 0 nv → K j ms → Calls Tryz.prog F args w (MPM w s tb T nv j ms qq))
    (hd : ∀ er q j ms, er ≠ 0 → SM w s tb T j ms er q nv → Calls Tryz.prog F args w fun e w' => (∃ x, e = .returned (.int .i64 x)) ∧ w' = w) (hK : ∀ j ms x j' ms', K j ms → j < j' → ms.length ≤ ms'.length → 0 ≤ x → x < ms'.length → K' x j' ms') :
    Calls Tryz.prog F args w fun e w' => ∃ x nv', e = .returned (.int .i64 x) ∧ St w' s tb T nv' M (K' x) (g x) ∧ Gm s w nv w' nv' := by
  rcases h with ⟨j, ms, P, hKK, C⟩ | ⟨er, q, j, ms, h0, P, hE⟩
  · refine (hl j ms P hKK).mono ?_
    rintro e w1 ⟨x, nv', rfl, S1, G1⟩
    refine ⟨x, nv', rfl, ?_, G1⟩
    rcases S1 with ⟨j', ms', P1, hK1, C1⟩ | ⟨er, q, j', ms', h0, P1, hE⟩
    · exact .inl ⟨j', ms', P1, hK _ _ _ _ _ hKK hK1.1 hK1.2.1 hK1.2.2.1 hK1.2.2.2, C.call_ok (C1 _ (.fin _ _ _))⟩
    · exact .inr ⟨er, q, j', ms', h0, P1, C.call_bad hE⟩
  · refine (hd er q j ms h0 P).mono ?_
    rintro e w1 ⟨⟨x, rfl⟩, e1⟩
    subst w1
    exact ⟨x, nv, rfl, .inr ⟨er, q, j, ms, h0, P, hE⟩, .refl⟩
set_option maxRecDepth 100000 in
set_option maxHeartbeats 2000000 in
theorem unary_dead (P : SM w s tb T i ns er q nv) (h0 : er ≠ 0) (d : Int) : Calls Tryz.prog 241 #[.pointer (some ⟨s, 0, none⟩), .int .i64 d] w fun e w' => e = .returned (.int .i64 (-1)) ∧ w' = w := by
  obtain ⟨r0, r1, r2, r3, r4⟩ := P.regs
  obtain ⟨b1, b2⟩ := P.blt
  have hb : (er != 0) = true := by simpa using h0
  go_enter Tryz.func241, Tryz.ntmps241
  go_wp2_with fail
  go_ret
  exact ⟨rfl, rfl⟩
set_option maxRecDepth 100000 in
set_option maxHeartbeats 2000000 in
theorem level_dead (P : SM w s tb T i ns er q nv) (h0 : er ≠ 0) (d : Int) : ∀ (k : Nat) (lv : Int), lv + k = 6 → 1 ≤ lv → Calls Tryz.prog 238 #[.pointer (some ⟨s, 0, none⟩), .int .i64 lv, .int .i64 d] w fun e w' => e = .returned (.int .i64 (-1)) ∧ w' = w
  | 0, lv, hk, h1 => by
    obtain rfl : lv = 6 := by omega
    go_enter Tryz.func238, Tryz.ntmps238
    go_wp2_with fail
    refine (unary_dead P h0 d).mono ?_
    rintro e w1 ⟨rfl, e1⟩
    subst w1
    go_wp2_with fail
    go_ret
    exact ⟨rfl, rfl⟩
  | k + 1, lv, hk, h1 => by
    have IH := level_dead P h0 d k (lv + 1) (by omega) (by omega)
    obtain ⟨r0, r1, r2, r3, r4⟩ := P.regs
    obtain ⟨b1, b2⟩ := P.blt
    have hb : (er == 0) = false := by simpa using h0
    have hl : decide (lv > 5) = false := decide_eq_false (by omega)
    have hl2 : decide (5 < lv) = false := decide_eq_false (by omega)
    have hl6 : lv < 6 := by omega
    clear hk
    go_enter Tryz.func238, Tryz.ntmps238
    go_wp2_with fail
    refine IH.mono ?_
    rintro e w1 ⟨rfl, e1⟩
    subst w1
    go_wp2_with fail
    refine wp_loop_rounds 1 ?_
    rw [rounds_succ]
    go_wp2_with fail
    go_ret
    exact ⟨rfl, rfl⟩
set_option maxRecDepth 100000 in
set_option maxHeartbeats 2000000 in
theorem block_dead (P : SM w s tb T i ns er q nv) (h0 : er ≠ 0) (d : Int) : Calls Tryz.prog 175 #[.pointer (some ⟨s, 0, none⟩), .int .i64 d] w fun e w' => e = .returned (.int .i64 (-1)) ∧ w' = w := by
  obtain ⟨r0, r1, r2, r3, r4⟩ := P.regs
  obtain ⟨b1, b2⟩ := P.blt
  have hb : (er == 0) = false := by simpa using h0
  go_enter Tryz.func175, Tryz.ntmps175
  go_wp2_with fail
  refine (enterM_dead P h0 d).mono ?_
  rintro e w1 ⟨rfl, e1⟩
  subst w1
  go_wp2_with fail
  go_ret
  exact ⟨rfl, rfl⟩
set_option maxRecDepth 100000 in
set_option maxHeartbeats 2000000 in
theorem inner_dead (P : SM w s tb T i ns er q nv) (h0 : er ≠ 0) (d : Int) : Calls Tryz.prog 249 #[.pointer (some ⟨s, 0, none⟩), .int .i64 d] w fun e w' => e = .returned (.int .i64 (-1)) ∧ w' = w := by
  obtain ⟨r0, r1, r2, r3, r4⟩ := P.regs
  obtain ⟨b1, b2⟩ := P.blt
  have hb : (er == 0) = false := by simpa using h0
  go_enter Tryz.func249, Tryz.ntmps249
  go_wp2_with fail
  refine (enterM_dead P h0 d).mono ?_
  rintro e w1 ⟨rfl, e1⟩
  subst w1
  go_wp2_with fail
  go_ret
  exact ⟨rfl, rfl⟩
set_option maxRecDepth 100000 in
set_option maxHeartbeats 2000000 in
theorem expr_of {R : Int → World → Prop} {d : Int} (h : Calls Tryz.prog 238 #[.pointer (some ⟨s, 0, none⟩), .int .i64 1, .int .i64 d] w fun e w' => ∃ x, e = .returned (.int .i64 x) ∧ R x w') : Calls Tryz.prog 231 #[.pointer (some ⟨s, 0, none⟩), .int .i64 d] w fun e w' => ∃ x, e = .returned (.int .i64 x) ∧ R x w' := by
  go_enter Tryz.func231, Tryz.ntmps231
  go_wp2_with fail
  refine h.mono ?_
  rintro e w1 ⟨x, rfl, hR⟩
  go_wp2_with fail
  go_ret
  exact ⟨x, rfl, hR⟩
/-- level, from the places that leave at most n tokens. -/
def LxC (T : List Tok) (n : Nat) : Prop := ∀ (w : World) (s tb : Nat) (nv : Value) (i : Nat) (ns : List Nd) (lv d : Nat) (lvv dv : Int), T.length ≤ i + n → SM w s tb T i ns 0 0 nv → 1 ≤ lv → lv ≤ 6 → d ≤ 8 → lvv = lv → dv = d →
  Calls Tryz.prog 238 #[.pointer (some ⟨s, 0, none⟩), .int .i64 lvv, .int .i64 dv] w (MPM w s tb T nv i ns (.lev lv d))
def UxC (T : List Tok) (n : Nat) : Prop := ∀ (w : World) (s tb : Nat) (nv : Value) (i : Nat) (ns : List Nd) (d : Nat) (dv : Int), T.length ≤ i + n → SM w s tb T i ns 0 0 nv → d ≤ 8 → dv = d →
  Calls Tryz.prog 241 #[.pointer (some ⟨s, 0, none⟩), .int .i64 dv] w (MPM w s tb T nv i ns (.un d))
/-- An expression. -/
theorem LxC.use {n : Nat} (H : LxC T n) {g : Int → Nat → List Nd → Mo} {d : Nat} {dv : Int} (K' : Int → Nat → List Nd → Prop) (h : St w s tb T nv M K (fun j ms => .call (.lev 1 d) j ms g)) (hi : ∀ j ms, K j ms → T.length ≤ j + n) (hd : d ≤ 8) (hdv : dv = d) (hK : ∀ j ms x j' ms', K j ms → j < j' → ms.length ≤ ms'.length → 0 ≤ x → x < ms'.length → K' x j' ms') :
    Calls Tryz.prog 231 #[.pointer (some ⟨s, 0, none⟩), .int .i64 dv] w fun e w' => ∃ x, e = .returned (.int .i64 x) ∧ ∃ nv', St w' s tb T nv' M (K' x) (g x) ∧ Gm s w nv w' nv' := by
  refine expr_of ((St.call (K' := K') h (fun j ms P hk => H w s tb nv j ms 1 d 1 dv (hi _ _ hk) P (by omega) (by omega) hd rfl hdv) (fun er q j ms h0 P => (level_dead P h0 dv 5 1 (by omega) (by omega)).mono fun e w1 h => ⟨⟨_, h.1⟩, h.2⟩) hK).mono ?_)
  rintro e w1 ⟨x, nv', h1, h2, h3⟩
  exact ⟨x, h1, nv', h2, h3⟩
end
end Go.Proofs.Qxb6500277aGreat
