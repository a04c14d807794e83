/- The definitional interpreter: eval begins. -/
import Derived.Test.Qxb6500277aGreatGM3
import Derived.Test.Qxb6500277aGreatGE21
namespace Go.Proofs.Qxb6500277aGreat
open Go Go.RowKit

/-- The run is over. -/
def Dth (G : Gmx) (w : World) (Q : Nat → Prop) (w' : World) (m : Mi) : Prop := ∃ en t s', EvI G.P0 m (.stop en t) ∧ en ≠ 0 ∧ Mm G w Q w' s' en ∧ s'.fuel = t.fuel ∧ s'.out = t.out ∧ s'.M.rt.length ≤ 24 ∧ s'.out.length ≤ 1024
/-- The run goes on. -/
def Liv (G : Gmx) (w : World) (Q : Nat → Prop) (w' : World) (s : Ss) (du dr : Nat) (m : Mi) (v : Int) : Prop := ∃ t, EvI G.P0 m (.ok v t) ∧ Mm G w Q w' t 0 ∧ SB G t ∧ Rl du dr s t ∧ t.loc = s.loc
def Fat (G : Gmx) (w : World) (Q : Nat → Prop) (w' : World) (s : Ss) (du dr : Nat) (m : Mi) (v : Int) : Prop := Liv G w Q w' s du dr m v ∨ Dth G w Q w' m
def EvR (G : Gmx) (w : World) (Q : Nat → Prop) (s : Ss) (ty : Int) (m : Mi) (e : Ending) (w' : World) : Prop := ∃ v, e = .returned (.int .i64 v) ∧ Fat G w Q w' s (duT ty) (drT ty) m v
/-- What stands when an expression's evaluation begins. -/
structure Ev0 (G : Gmx) (w : World) (Q : Nat → Prop) (s : Ss) (lv : Value) (li lr : Nat) : Prop where
  H : RM w G s 0 Q
  sb : SB G s
  loc : KiAt w lv s.loc
  lq : ∀ b, isB lv b → ¬ Q b
  ll : s.loc.length = li
  rb : s.rb + lr ≤ s.M.rt.length
  l12 : li ≤ 12
  ls : ∀ b, isB lv b → ¬ stB G b
/-- eval over all expressions of at most n nodes, with fuel at most fm. -/
def EvC (G : Gmx) (fm : Int) (n : Nat) : Prop := ∀ (e : Exp), szE e ≤ n → ∀ (w : World) (Q : Nat → Prop) (s : Ss) (b : Nat) (nx x : Int) (li lr : Nat) (lv : Value), Ev0 G w Q s lv li lr → s.fuel ≤ fm → Lie G.ns b (flE b nx e) → x = rtE b e → WtE G.P0 li lr b e →
  Calls Tryz.prog 79 #[.pointer (some ⟨G.r, 0, none⟩), .int .i64 x, lv, .int .i64 (s.rb : Nat)] w (EvR G w Q s (tyA G.P0 (rtN b e)) (bodyI G.P0 (.ev b e) s))
section
variable {w w' w0 w1 w2 w3 : World} {G : Gmx} {s s' t : Ss} {en en' v : Int} {Q : Nat → Prop} {ov lv : Value} {du dr li lr : Nat} {m m' : Mi} {q : Ri}
theorem Mm.cat (h : Mm G w0 Q w s en) (k : Mm G w (Gw Q w0 w) w' s' en') : Mm G w0 Q w' s' en' := h.up k.1 k.2.1
theorem Mm.pre (k : Fr (fun _ => False) w w2) (hQ : ∀ b, Q b → b < w.heap.size) (hs : ∀ b, stB G b → b < w.heap.size) (h : Mm G w2 Q w' s en) : Mm G w Q w' s en := by
  refine ⟨h.1.up (fun b hb => hb.elim (fun h => .inl h) fun h => .inr ⟨Nat.le_trans k.size h.1, h.2⟩) (fun b hb => hb.elim (fun x => Nat.lt_of_lt_of_le (hQ b x) (Nat.le_trans k.size h.2.1.size)) fun x => x.2) (fun b hb hq => ?_), (k.mono (S' := Q) fun _ _ h => h.elim).trans h.2.1 (fun _ _ h => h), hQ⟩
  rcases hq with hq | hq
  · exact (h.1.sb b hb).1 (.inl hq)
  · have := hs b hb
    have := hq.1
    omega
theorem Mm.blk {b n : Nat} {f : Nat → Value} (h : Mm G w0 Q w s en) (k : Blk w0 b n f) (hb : ¬ Q b) : Blk w b n f := k.frame h.2.1 hb
theorem Mm.ki {l : List Int} (h : Mm G w0 Q w s en) (k : KiAt w0 lv l) (hb : ∀ b, isB lv b → ¬ Q b) : KiAt w lv l := k.frame h.2.1 hb
theorem Mm.nq {b : Nat} (_h : Mm G w0 Q w s en) (hb : ¬ Q b) (hl : b < w0.heap.size) : ¬ Gw Q w0 w b := fun h => h.elim hb fun h => by have := h.1; omega
theorem Dth.up (k : Mm G w0 Q w s en) (h : Dth G w (Gw Q w0 w) w' m) : Dth G w0 Q w' m := by
  obtain ⟨en, t, s', h1, h2, h3, h4⟩ := h
  exact ⟨en, t, s', h1, h2, k.cat h3, h4⟩
theorem Dth.pre (k : Fr (fun _ => False) w w2) (hQ : ∀ b, Q b → b < w.heap.size) (hs : ∀ b, stB G b → b < w.heap.size) (h : Dth G w2 Q w' m) : Dth G w Q w' m := by
  obtain ⟨en, t, s', h1, h2, h3, h4⟩ := h
  exact ⟨en, t, s', h1, h2, h3.pre k hQ hs, h4⟩
theorem Dth.call {k : Int → Ss → Mi} (h : Dth G w Q w' (bodyI G.P0 q s)) : Dth G w Q w' (.call q s k) := by
  obtain ⟨en, t, s', h1, h2⟩ := h
  exact ⟨en, t, s', h1.stop, h2⟩
theorem Dth.ok {k : Int → Ss → Mi} (h1 : EvI G.P0 (bodyI G.P0 q s) (.ok v t)) (h : Dth G w Q w' (k v t)) : Dth G w Q w' (.call q s k) := by
  obtain ⟨en, t', s', h2, h3⟩ := h
  exact ⟨en, t', s', h1.ok h2, h3⟩
theorem Dth.die {e : Int} (he : e ≠ 0) (h : Mm G w Q w' s' e) (h1 : s'.fuel = s.fuel) (h2 : s'.out = s.out) (h3 : s'.M.rt.length ≤ 24) (h4 : s.out.length ≤ 1024) : Dth G w Q w' (dieI e s) := ⟨e, s, s', EvI.ret _, he, h, h1, h2, h3, by rw [h2]; exact h4⟩
/-- The dead one's end. -/
theorem Dth.c17 (h : Dth G w Q w' m) : ∃ en, en ≠ 0 ∧ w'.cell? ⟨G.r, 17, none⟩ = some (.int .i64 en) ∧ G.r < w'.heap.size := by
  obtain ⟨en, _, s', _, h2, h3, _⟩ := h
  obtain ⟨ov, O, H⟩ := h3.1
  exact ⟨en, h2, H.c17, H.rlt⟩
theorem Dth.same (h : Dth G w Q w' m) (k : Fr (fun _ => False) w' w1) : Dth G w Q w1 m := by
  obtain ⟨en, t, s', h1, h2, h3, h4⟩ := h
  exact ⟨en, t, s', h1, h2, h3.same k, h4⟩
theorem Dth.fr (h : Dth G w Q w' m) : Fr Q w w' := by
  obtain ⟨_, _, _, _, _, h, _⟩ := h
  exact h.2.1
theorem Fat.call {k : Int → Ss → Mi} {u : Int} {t' : Ss} (h1 : EvI G.P0 (bodyI G.P0 q t) (.ok u t')) (h : Fat G w Q w' s du dr (k u t') v) : Fat G w Q w' s du dr (.call q t k) v := by
  rcases h with ⟨x, a, b⟩ | h
  · exact .inl ⟨x, h1.ok a, b⟩
  · exact .inr (Dth.ok h1 h)
theorem Fat.dead {k : Int → Ss → Mi} (h : Dth G w Q w' (bodyI G.P0 q t)) : Fat G w Q w' s du dr (.call q t k) v := .inr h.call
theorem Fat.go (h : Mm G w Q w' t 0) (sb : SB G t) (r : Rl du dr s t) (l : t.loc = s.loc) : Fat G w Q w' s du dr (goOn v t) v := .inl ⟨t, EvI.ret _, h, sb, r, l⟩
theorem Fat.val {u : Int} (e : u = v) (h : Fat G w Q w' s du dr m v) : Fat G w Q w' s du dr m u := e ▸ h
theorem Fat.die {e : Int} (he : e ≠ 0) (h : Mm G w Q w' s' e) (h1 : s'.fuel = t.fuel) (h2 : s'.out = t.out) (h3 : s'.M.rt.length ≤ 24) (h4 : t.out.length ≤ 1024) : Fat G w Q w' s du dr (dieI e t) v := .inr (Dth.die he h h1 h2 h3 h4)
theorem Fat.push {du' : Nat} (h : (48 ≤ t.us ∧ Mm G w Q w' t 29) ∨ (t.us < 48 ∧ Mm G w Q w' { t with us := t.us + 1 } 0)) (sb : SB G t) (r : Rl du' dr s t) (l : t.loc = s.loc) (e : du = du' + 1) : Fat G w Q w' s du dr (pushI t v) v := by
  unfold pushI
  rcases h with ⟨h, m⟩ | ⟨h, m⟩
  · rw [if_pos h]
    exact Fat.die (by decide) m rfl rfl sb.r24 sb.ou
  · rw [if_neg (by omega)]
    refine Fat.go m ⟨?_, ?_, sb.r24, sb.mi, sb.ou, sb.f1, sb.f0, sb.ip, sb.il⟩ ⟨r.rb, r.ll, ?_, r.rt, r.fu⟩ l
    · show 0 ≤ t.us + 1
      have := sb.u0
      omega
    · show t.us + 1 ≤ 48
      omega
    · show t.us + 1 = s.us + du
      rw [r.us, e]
      omega
theorem Mm.nsb (h : Mm G w0 Q w s en) : ∀ b, stB G b → ¬ Gw Q w0 w b := fun b hb hq => (h.1.sb b hb).1 hq
theorem Mm.setI (h : Mm G w0 Q w s en) (u : Nat) : Mm G w0 Q (w.setCell ⟨G.r, 12, none⟩ (.int .i64 (u : Nat))) { s with ip := u } en := by
  obtain ⟨ov, O, H⟩ := h.1
  exact h.put (H.setI u).x (H.fr1 _ _)
theorem Mm.setU (h : Mm G w0 Q w s en) (u : Int) : Mm G w0 Q (w.setCell ⟨G.r, 15, none⟩ (.int .i64 u)) { s with us := u } en := by
  obtain ⟨ov, O, H⟩ := h.1
  exact h.put (H.setU u).x (H.fr1 _ _)
theorem Mm.setE (h : Mm G w0 Q w s en) (u : Int) : Mm G w0 Q (w.setCell ⟨G.r, 17, none⟩ (.int .i64 u)) s u := by
  obtain ⟨ov, O, H⟩ := h.1
  exact h.put (H.setE u).x (H.fr1 _ _)
/-- The heap said e, and heapEnd has been called. -/
theorem Fat.hp {e : Int} {M : MS} {du' : Nat} (h : Mm G w Q w1 { t with M := M } 0) (k : (e = 0 ∧ w' = w1) ∨ (e ≠ 0 ∧ Mm G w Q w' { t with M := M } (endOf e))) (hr : (e = 0 ∧ M.rt.length = t.M.rt.length + 1 ∧ t.M.rt.length < 24) ∨ (e ≠ 0 ∧ M = t.M)) (sb : SB G t) (mi : MInv M) (r : Rl du dr s t) (l : t.loc = s.loc) (ed : du' = dr + 1) : Fat G w Q w' s du du' (hpI e t (goOn v { t with M := M })) v := by
  unfold hpI
  rcases k with ⟨he, rfl⟩ | ⟨he, k⟩
  · rw [if_pos he]
    rcases hr with ⟨_, a, b⟩ | ⟨a, _⟩
    · refine Fat.go h ⟨sb.u0, sb.u48, ?_, mi, sb.ou, sb.f1, sb.f0, sb.ip, sb.il⟩ ⟨r.rb, r.ll, r.us, ?_, r.fu⟩ l
      · show M.rt.length ≤ 24
        omega
      · show M.rt.length = s.M.rt.length + du'
        rw [a, r.rt, ed]
        omega
    · exact absurd he a
  · rw [if_neg he]
    rcases hr with ⟨a, _⟩ | ⟨_, a⟩
    · exact absurd a he
    · exact Fat.die (endOf_no e) k rfl rfl (by show M.rt.length ≤ 24; rw [a]; exact sb.r24) sb.ou
/-- The same where the roots stay as many. -/
theorem Fat.hp0 {e u : Int} {M : MS} {du' : Nat} (h : Mm G w Q w1 { t with us := u, M := M } 0) (k : (e = 0 ∧ w' = w1) ∨ (e ≠ 0 ∧ Mm G w Q w' { t with us := u, M := M } (endOf e))) (hr : M.rt.length = t.M.rt.length) (sb : SB G t) (mi : MInv M) (r : Rl du' dr s t) (l : t.loc = s.loc) (eu : u = t.us - 1) (ed : du' = du + 1) (s0 : 0 ≤ s.us) : Fat G w Q w' s du dr (hpI e t (goOn v { t with us := t.us - 1, M := M })) v := by
  subst eu
  unfold hpI
  rcases k with ⟨he, rfl⟩ | ⟨he, k⟩
  · rw [if_pos he]
    have hu := r.us
    refine Fat.go h ⟨?_, ?_, by show M.rt.length ≤ 24; rw [hr]; exact sb.r24, mi, sb.ou, sb.f1, sb.f0, sb.ip, sb.il⟩ ⟨r.rb, r.ll, ?_, ?_, r.fu⟩ l
    · show 0 ≤ t.us - 1
      omega
    · show t.us - 1 ≤ 48
      have := sb.u48
      omega
    · show t.us - 1 = s.us + du
      omega
    · show M.rt.length = s.M.rt.length + dr
      rw [hr, r.rt]
  · rw [if_neg he]
    exact Fat.die (endOf_no e) k rfl rfl (by show M.rt.length ≤ 24; rw [hr]; exact sb.r24) sb.ou
/-- The same, said plainly of what comes behind. -/
theorem Fat.heap {e u : Int} {M : MS} (h : Mm G w Q w1 { t with us := u, M := M } 0) (k : (e = 0 ∧ w' = w1) ∨ (e ≠ 0 ∧ Mm G w Q w' { t with us := u, M := M } (endOf e))) (h24 : M.rt.length ≤ 24) (ou : t.out.length ≤ 1024) (ok : e = 0 → SB G { t with us := u, M := M } ∧ Rl du dr s { t with us := u, M := M } ∧ t.loc = s.loc) : Fat G w Q w' s du dr (hpI e t (goOn v { t with us := u, M := M })) v := by
  unfold hpI
  rcases k with ⟨he, rfl⟩ | ⟨he, k⟩
  · rw [if_pos he]
    obtain ⟨a, b, c⟩ := ok he
    exact Fat.go h a b c
  · rw [if_neg he]
    exact Fat.die (endOf_no e) k rfl rfl h24 ou
theorem len_le {M : MS} (mi : MInv M) (i : Int) : 0 ≤ (lenM M i).1 ∧ (lenM M i).1 ≤ 48 ∧ 0 ≤ (lenM M i).2.1 ∧ (lenM M i).2.1 ≤ 48 := by
  unfold lenM
  split
  · simp
  · rename_i h0
    rcases atM_obj mi i with ⟨h, _⟩ | ⟨x, e, hx⟩
    · exact absurd h h0
    · rw [e]
      simp only []
      rw [(rfM_mem hx).1, (rfM_mem hx).2]
      have := mi.sz _ (List.getElem_mem hx)
      omega
theorem Fat.fr (h : Fat G w Q w' s du dr m v) : Fr Q w w' := by
  rcases h with ⟨_, _, h, _⟩ | h
  · exact h.2.1
  · exact h.fr
theorem Rl.trans {a b c d : Nat} {s t u : Ss} (h : Rl a b s t) (k : Rl c d t u) : Rl (a + c) (b + d) s u := ⟨k.rb.trans h.rb, k.ll.trans h.ll, by rw [k.us, h.us]; omega, by rw [k.rt, h.rt]; omega, Int.le_trans k.fu h.fu⟩
theorem Rl.refl (s : Ss) : Rl 0 0 s s := ⟨rfl, rfl, by omega, by omega, Int.le_refl _⟩
theorem duT_i {t : Int} (h : t < 2) : duT t = 1 ∧ drT t = 0 := by unfold duT drT; rw [if_neg (by omega), if_neg (by omega)]; exact ⟨rfl, rfl⟩
theorem duT_r {t : Int} (h : 2 ≤ t) : duT t = 0 ∧ drT t = 1 := by unfold duT drT; rw [if_pos h, if_pos h]; exact ⟨rfl, rfl⟩
/-- A state behind another one, with new facts. -/
theorem Ev0.next (E : Ev0 G w Q s lv li lr) (k : Mm G w Q w' t 0) (sb : SB G t) (hr : Rl du dr s t) (hl : t.loc = s.loc) : Ev0 G w' (Gw Q w w') t lv li lr :=
  ⟨k.1, sb, by rw [hl]; exact k.ki E.loc E.lq, fun b hb => k.nq (E.lq b hb) (E.loc.bk hb), by rw [hl]; exact E.ll, by rw [hr.rb, hr.rt]; have := E.rb; omega, E.l12, E.ls⟩
theorem Ev0.same (E : Ev0 G w Q s lv li lr) (k : Fr (fun _ => False) w w') : Ev0 G w' Q s lv li lr := ⟨E.H.same k, E.sb, E.loc.frame k fun _ _ h => h, E.lq, E.ll, E.rb, E.l12, E.ls⟩
theorem Ev0.lt (E : Ev0 G w Q s lv li lr) : (∀ b, Q b → b < w.heap.size) ∧ ∀ b, stB G b → b < w.heap.size := ⟨E.H.lt, fun b hb => (E.H.sb b hb).2⟩
/-- A sub-expression is evaluated behind other things. -/
theorem EvC.use {fm : Int} {n : Nat} (I : EvC G fm n) {e : Exp} (he : szE e ≤ n) {b : Nat} {nx x : Int} (E : Ev0 G w Q s lv li lr) (k : Mm G w Q w' t 0) (sb : SB G t) (hr : Rl du dr s t) (hl : t.loc = s.loc) (hf : s.fuel ≤ fm) (L : Lie G.ns b (flE b nx e)) (hx : x = rtE b e) (W : WtE G.P0 li lr b e) :
    Calls Tryz.prog 79 #[.pointer (some ⟨G.r, 0, none⟩), .int .i64 x, lv, .int .i64 (s.rb : Nat)] w' fun z w1 => ∃ v, z = .returned (.int .i64 v) ∧ Fat G w Q w1 t (duT (tyA G.P0 (rtN b e))) (drT (tyA G.P0 (rtN b e))) (bodyI G.P0 (.ev b e) t) v := by
  have q := I e he w' (Gw Q w w') t b nx x li lr lv (E.next k sb hr hl) (Int.le_trans hr.fu hf) L hx W
  rw [hr.rb] at q
  refine q.mono ?_
  rintro z w1 ⟨v, rfl, ⟨u, h1, h2, h3⟩ | h⟩
  · exact ⟨v, rfl, .inl ⟨u, h1, k.cat h2, h3⟩⟩
  · exact ⟨v, rfl, .inr (Dth.up k h)⟩
end
theorem two_mm {w w' : World} {G : Gmx} {t : Ss} {Q : Nat → Prop} (h : (48 ≤ t.us ∧ Mm G w Q w' t 29) ∨ (t.us < 48 ∧ Mm G w Q w' { t with us := t.us + 1 } 0)) : ∃ s' e', Mm G w Q w' s' e' ∧ s'.ip = t.ip := by
  rcases h with ⟨_, h⟩ | ⟨_, h⟩
  · exact ⟨_, _, h, rfl⟩
  · exact ⟨_, _, h, rfl⟩
/-- The program's lists fit. -/
structure Gmx.Ok (G : Gmx) : Prop where
  tl : G.P0.ty.length = G.ns.length
  rl : G.P0.rf.length = G.ns.length
  cm : ∃ hd g m, Cmp ⟨G.P0, hd, G.ns, G.rs, g, 0, 0⟩ m
  ok : ∃ C en m, ProgOk G.P0 C en m
set_option maxRecDepth 100000 in
theorem eval_dead {w : World} {G : Gmx} {en : Int} {x lv rb : Value} (he : en ≠ 0) (c17 : w.cell? ⟨G.r, 17, none⟩ = some (.int .i64 en)) : Calls Tryz.prog 79 #[.pointer (some ⟨G.r, 0, none⟩), x, lv, rb] w fun e w' => e = .returned (.int .i64 0) ∧ w' = w := by
  have y1 : (en != 0) = true := by simpa using he
  clear he
  go_enter Tryz.func79, Tryz.ntmps79
  go_wp2_with fail
  go_ret
  exact ⟨rfl, rfl⟩
/-- The node has been read into a box of its own. -/
structure Nb (G : Gmx) (w w2 : World) (Q : Nat → Prop) (s : Ss) (lv : Value) (li lr nb : Nat) (nd : Nd) : Prop where
  e0 : Ev0 G w Q s lv li lr
  e2 : Ev0 G w2 Q s lv li lr
  bk : Blk w2 nb 8 (ndCell nd)
  np : ¬ Q nb
  fr : Fr (fun _ => False) w w2
theorem Nb.mk' {G : Gmx} {w : World} {Q : Nat → Prop} {s : Ss} {lv : Value} {li lr : Nat} (E : Ev0 G w Q s lv li lr) (nd : Nd) : Nb G w (w.alloc (.cells #[.int .i64 nd.kind, .int .i64 nd.a, .int .i64 nd.b, .int .i64 nd.c, .int .i64 nd.nx, .int .i64 nd.val, .int .i64 nd.pos, .string nd.name] 145)) Q s lv li lr w.heap.size nd :=
  have k : Fr (fun _ => False) w _ := (Fr.refl (fun _ => False) w).alloc _
  ⟨E, E.same k, ndC_blk w nd, fun h => by have := E.H.lt _ h; omega, k⟩
section
variable {w w' w2 w3 : World} {G : Gmx} {s t : Ss} {v : Int} {Q : Nat → Prop} {lv : Value} {li lr nb du dr : Nat} {nd : Nd} {m : Mi}
theorem Nb.mm (N : Nb G w w2 Q s lv li lr nb nd) : Mm G w2 Q w2 s 0 := Mm.nil N.e2.H
theorem Nb.dth (N : Nb G w w2 Q s lv li lr nb nd) (h : Dth G w2 Q w' m) : Dth G w Q w' m := h.pre N.fr N.e0.lt.1 N.e0.lt.2
theorem Nb.liv (N : Nb G w w2 Q s lv li lr nb nd) (h : Liv G w2 Q w' s du dr m v) : Liv G w Q w' s du dr m v := by
  obtain ⟨t, h1, h2, h3⟩ := h
  exact ⟨t, h1, h2.pre N.fr N.e0.lt.1 N.e0.lt.2, h3⟩
theorem Nb.rQ (N : Nb G w w2 Q s lv li lr nb nd) : Q G.r := by
  obtain ⟨ov, O, H⟩ := N.e2.H
  exact H.qr
theorem Nb.fat (N : Nb G w w2 Q s lv li lr nb nd) (h : Fat G w2 Q w' s du dr m v) : Fat G w Q w' s du dr m v := h.elim (fun h => .inl (N.liv h)) fun h => .inr (N.dth h)
theorem Nb.b (N : Nb G w w2 Q s lv li lr nb nd) (k : Fr Q w2 w3) : Blk w3 nb 8 (ndCell nd) := N.bk.frame k N.np
end
set_option maxRecDepth 100000 in
set_option maxHeartbeats 2000000 in
theorem ev_num {G : Gmx} (v p : Int) {w : World} {Q : Nat → Prop} {s : Ss} {b : Nat} {nx x : Int} {li lr : Nat} {lv : Value} (E : Ev0 G w Q s lv li lr) (L : Lie G.ns b (flE b nx (.num v p))) (hx : x = rtE b (.num v p)) (W : WtE G.P0 li lr b (.num v p)) : Calls Tryz.prog 79 #[.pointer (some ⟨G.r, 0, none⟩), .int .i64 x, lv, .int .i64 (s.rb : Nat)] w (EvR G w Q s (tyA G.P0 (rtN b (.num v p))) (bodyI G.P0 (.ev b (.num v p)) s)) := by
  rw [rtE_nat] at hx
  subst hx
  have hN := L.one
  clear L
  have ek : b + szE (.num v p) - 1 = b := by simp only [szE]; omega
  have hty : tyA G.P0 (rtN b (.num v p)) = tyA G.P0 (b) := by unfold rtN; rw [ek]
  rw [hty, ek]
  obtain ⟨k, hk⟩ : ∃ k, k = b := ⟨_, rfl⟩
  obtain ⟨nd, hnd⟩ : ∃ nd : Nd, nd = ⟨10, -1, -1, -1, nx, v, p, ⟨#[]⟩⟩ := ⟨_, rfl⟩
  rw [← hk, ← hnd] at hN
  rw [← hk]
  simp only [WtE] at W
  rw [← hk] at W
  obtain ⟨y1, y2⟩ := duT_i W.1
  obtain ⟨ov, O, Hv⟩ := E.H
  have c10 := Hv.c10
  have c17 := Hv.c17
  have rlt := Hv.rlt
  have hnl := Hv.an.nl
  obtain ⟨vb, evb, vlt, hkl, n0, n1, n2, n3, n4, n5, n6, n7⟩ := Hv.an.hv.at hN
  rw [evb] at c10
  have N0 := Nb.mk' E nd
  have HK : Hid (True ∧ _) := ⟨trivial, And.intro hk (And.intro hnd (And.intro hN N0))⟩
  clear hk hnd evb hN N0 Hv E ek hty
  go_enter Tryz.func79, Tryz.ntmps79
  go_upto_region 4 with fail
  obtain ⟨_, hk, hnd, hN, N⟩ := HK.out
  obtain ⟨w2, hw2⟩ : ∃ w2, w2 = w.alloc (.cells #[.int .i64 nd.kind, .int .i64 nd.a, .int .i64 nd.b, .int .i64 nd.c, .int .i64 nd.nx, .int .i64 nd.val, .int .i64 nd.pos, .string nd.name] 145) := ⟨_, rfl⟩
  obtain ⟨nb, hnb⟩ : ∃ nb, nb = w.heap.size := ⟨_, rfl⟩
  rw [← hw2, ← hnb] at N
  rw [← hw2, ← hnb]
  clear hw2 hnb c10 c17 rlt n0 n1 n2 n3 n4 n5 n6 n7 HK ov O vlt
  have d0 : nd.kind = 10 := by rw [hnd]
  have Bn := N.bk
  have m0 : w2.cell? ⟨nb, 0, none⟩ = some (.int .i64 nd.kind) := Bn.cell (o := 0) (by omega)
  have m1 : w2.cell? ⟨nb, 1, none⟩ = some (.int .i64 nd.a) := Bn.cell (o := 1) (by omega)
  have m2 : w2.cell? ⟨nb, 2, none⟩ = some (.int .i64 nd.b) := Bn.cell (o := 2) (by omega)
  have m3 : w2.cell? ⟨nb, 3, none⟩ = some (.int .i64 nd.c) := Bn.cell (o := 3) (by omega)
  have m4 : w2.cell? ⟨nb, 4, none⟩ = some (.int .i64 nd.nx) := Bn.cell (o := 4) (by omega)
  have m5 : w2.cell? ⟨nb, 5, none⟩ = some (.int .i64 nd.val) := Bn.cell (o := 5) (by omega)
  have m6 : w2.cell? ⟨nb, 6, none⟩ = some (.int .i64 nd.pos) := Bn.cell (o := 6) (by omega)
  rw [d0] at m0
  have nbl := Bn.lt
  clear d0 Bn
  have q := N.mm.push N.e2.sb.u0 N.e2.sb.u48
  have HF : Hid (True ∧ _) := ⟨trivial, And.intro N (And.intro hnd (And.intro y1 y2))⟩
  clear N hnd y1 y2 W hN hk
  go_wp2_with fail
  refine q.mono ?_
  rintro z w3 ⟨rfl, h⟩
  obtain ⟨_, N, hnd, y1, y2⟩ := HF.out
  have f3 : Fr Q w2 w3 := by rcases h with ⟨_, h⟩ | ⟨_, h⟩ <;> exact h.2.1
  have Bn := N.b f3
  have m5 : w3.cell? ⟨nb, 5, none⟩ = some (.int .i64 nd.val) := Bn.cell (o := 5) (by omega)
  have nbl := Bn.lt
  have HG : Hid (True ∧ _) := ⟨trivial, h⟩
  clear Bn N hnd y1 y2 h q f3 m0 m1 m2 m3 m4 m6
  go_wp2_with fail
  go_ret
  obtain ⟨_, N, hnd, y1, y2⟩ := HF.out
  refine ⟨nd.val, rfl, N.fat ?_⟩
  rw [y1, y2]
  have e5 : nd.val = v := by rw [hnd]
  rw [e5]
  simp only [bodyI]
  exact Fat.push HG.out.2 N.e2.sb (Rl.refl s) rfl rfl
set_option maxRecDepth 100000 in
set_option maxHeartbeats 2000000 in
theorem ev_boo {G : Gmx} (v p : Int) {w : World} {Q : Nat → Prop} {s : Ss} {b : Nat} {nx x : Int} {li lr : Nat} {lv : Value} (E : Ev0 G w Q s lv li lr) (L : Lie G.ns b (flE b nx (.boo v p))) (hx : x = rtE b (.boo v p)) (W : WtE G.P0 li lr b (.boo v p)) : Calls Tryz.prog 79 #[.pointer (some ⟨G.r, 0, none⟩), .int .i64 x, lv, .int .i64 (s.rb : Nat)] w (EvR G w Q s (tyA G.P0 (rtN b (.boo v p))) (bodyI G.P0 (.ev b (.boo v p)) s)) := by
  rw [rtE_nat] at hx
  subst hx
  have hN := L.one
  clear L
  have ek : b + szE (.boo v p) - 1 = b := by simp only [szE]; omega
  have hty : tyA G.P0 (rtN b (.boo v p)) = tyA G.P0 (b) := by unfold rtN; rw [ek]
  rw [hty, ek]
  obtain ⟨k, hk⟩ : ∃ k, k = b := ⟨_, rfl⟩
  obtain ⟨nd, hnd⟩ : ∃ nd : Nd, nd = ⟨11, -1, -1, -1, nx, v, p, ⟨#[]⟩⟩ := ⟨_, rfl⟩
  rw [← hk, ← hnd] at hN
  rw [← hk]
  simp only [WtE] at W
  rw [← hk] at W
  obtain ⟨y1, y2⟩ := duT_i W.1
  obtain ⟨ov, O, Hv⟩ := E.H
  have c10 := Hv.c10
  have c17 := Hv.c17
  have rlt := Hv.rlt
  have hnl := Hv.an.nl
  obtain ⟨vb, evb, vlt, hkl, n0, n1, n2, n3, n4, n5, n6, n7⟩ := Hv.an.hv.at hN
  rw [evb] at c10
  have N0 := Nb.mk' E nd
  have HK : Hid (True ∧ _) := ⟨trivial, And.intro hk (And.intro hnd (And.intro hN N0))⟩
  clear hk hnd evb hN N0 Hv E ek hty
  go_enter Tryz.func79, Tryz.ntmps79
  go_upto_region 4 with fail
  obtain ⟨_, hk, hnd, hN, N⟩ := HK.out
  obtain ⟨w2, hw2⟩ : ∃ w2, w2 = w.alloc (.cells #[.int .i64 nd.kind, .int .i64 nd.a, .int .i64 nd.b, .int .i64 nd.c, .int .i64 nd.nx, .int .i64 nd.val, .int .i64 nd.pos, .string nd.name] 145) := ⟨_, rfl⟩
  obtain ⟨nb, hnb⟩ : ∃ nb, nb = w.heap.size := ⟨_, rfl⟩
  rw [← hw2, ← hnb] at N
  rw [← hw2, ← hnb]
  clear hw2 hnb c10 c17 rlt n0 n1 n2 n3 n4 n5 n6 n7 HK ov O vlt
  have d0 : nd.kind = 11 := by rw [hnd]
  have Bn := N.bk
  have m0 : w2.cell? ⟨nb, 0, none⟩ = some (.int .i64 nd.kind) := Bn.cell (o := 0) (by omega)
  have m1 : w2.cell? ⟨nb, 1, none⟩ = some (.int .i64 nd.a) := Bn.cell (o := 1) (by omega)
  have m2 : w2.cell? ⟨nb, 2, none⟩ = some (.int .i64 nd.b) := Bn.cell (o := 2) (by omega)
  have m3 : w2.cell? ⟨nb, 3, none⟩ = some (.int .i64 nd.c) := Bn.cell (o := 3) (by omega)
  have m4 : w2.cell? ⟨nb, 4, none⟩ = some (.int .i64 nd.nx) := Bn.cell (o := 4) (by omega)
  have m5 : w2.cell? ⟨nb, 5, none⟩ = some (.int .i64 nd.val) := Bn.cell (o := 5) (by omega)
  have m6 : w2.cell? ⟨nb, 6, none⟩ = some (.int .i64 nd.pos) := Bn.cell (o := 6) (by omega)
  rw [d0] at m0
  have nbl := Bn.lt
  clear d0 Bn
  have q := N.mm.push N.e2.sb.u0 N.e2.sb.u48
  have HF : Hid (True ∧ _) := ⟨trivial, And.intro N (And.intro hnd (And.intro y1 y2))⟩
  clear N hnd y1 y2 W hN hk
  go_wp2_with fail
  refine q.mono ?_
  rintro z w3 ⟨rfl, h⟩
  obtain ⟨_, N, hnd, y1, y2⟩ := HF.out
  have f3 : Fr Q w2 w3 := by rcases h with ⟨_, h⟩ | ⟨_, h⟩ <;> exact h.2.1
  have Bn := N.b f3
  have m5 : w3.cell? ⟨nb, 5, none⟩ = some (.int .i64 nd.val) := Bn.cell (o := 5) (by omega)
  have nbl := Bn.lt
  have HG : Hid (True ∧ _) := ⟨trivial, h⟩
  clear Bn N hnd y1 y2 h q f3 m0 m1 m2 m3 m4 m6
  go_wp2_with fail
  go_ret
  obtain ⟨_, N, hnd, y1, y2⟩ := HF.out
  refine ⟨nd.val, rfl, N.fat ?_⟩
  rw [y1, y2]
  have e5 : nd.val = v := by rw [hnd]
  rw [e5]
  simp only [bodyI]
  exact Fat.push HG.out.2 N.e2.sb (Rl.refl s) rfl rfl
end Go.Proofs.Qxb6500277aGreat
