/- The definitional interpreter: what exec answers; store. -/
import Derived.Test.Qxb6500277aGreatGM13
namespace Go.Proofs.Qxb6500277aGreat
open Go Go.RowKit

/-- What stands between two calls in a statement: the locals' list may have been written. -/
def Ml (G : Gmx) (w0 : World) (Q : Nat → Prop) (lv : Value) (w : World) (s : Ss) (en : Int) : Prop := RM w G s en (Gw Q w0 w) ∧ Fr (fun b => Q b ∨ isB lv b) w0 w ∧ ∀ b, Q b → b < w0.heap.size
/-- The run is over. -/
def Dl (G : Gmx) (w : World) (Q : Nat → Prop) (lv : Value) (w' : World) (m : Mi) : Prop := ∃ en t s', EvI G.P0 m (.stop en t) ∧ en ≠ 0 ∧ Ml G w Q lv w' s' en ∧ s'.fuel = t.fuel ∧ s'.out = t.out ∧ s'.M.rt.length ≤ 24 ∧ s'.out.length ≤ 1024
/-- A live state of a statement. -/
structure Ls (G : Gmx) (w : World) (Q : Nat → Prop) (lv : Value) (w' : World) (s : Ss) (du dr : Nat) (t : Ss) : Prop where
  ml : Ml G w Q lv w' t 0
  lo : KiAt w' lv t.loc
  sb : SB G t
  rl : Rl du dr s t
/-- What exec answers: the statement is done, a return, or the run is over. -/
def ExF (G : Gmx) (w : World) (Q : Nat → Prop) (lv : Value) (w' : World) (s : Ss) (ret : Int) (m : Mi) (β : Bool) (v : Int) : Prop :=
  (β = false ∧ v = 0 ∧ ∃ v0 t, EvI G.P0 m (.ok v0 t) ∧ Ls G w Q lv w' s 0 0 t) ∨ (β = true ∧ ∃ t, EvI G.P0 m (.rt v t) ∧ Ls G w Q lv w' s (duT ret) (drT ret) t) ∨ (β = false ∧ Dl G w Q lv w' m)
def ExR (G : Gmx) (w : World) (Q : Nat → Prop) (lv : Value) (s : Ss) (ret : Int) (m : Mi) (e : Ending) (w' : World) : Prop := ∃ β v, e = .returned (.tuple #[.bool β, .int .i64 v]) ∧ ExF G w Q lv w' s ret m β v
section
variable {w w' w0 w1 w2 w3 : World} {G : Gmx} {s s' t t' : Ss} {en en' v : Int} {Q : Nat → Prop} {ov lv : Value} {du dr li lr : Nat} {m m' : Mi} {q : Ri}
theorem Ml.nil (H : RM w G s en Q) (lv : Value) : Ml G w Q lv w s en := ⟨(Mm.nil H).1, Fr.refl _ _, H.lt⟩
theorem Ml.mm (h : Ml G w0 Q lv w s en) : Mm G w (Gw Q w0 w) w s en := Mm.nil h.1
theorem Ml.upX (h : Ml G w0 Q lv w s en) (k : RM w' G s' en' (Gw (Gw Q w0 w) w w')) (f : Fr (fun b => Gw Q w0 w b ∨ isB lv b) w w') : Ml G w0 Q lv w' s' en' := by
  refine ⟨k.up (Gw.gw h.2.1.size f.size) (fun b hb => hb.elim (fun x => Nat.lt_of_lt_of_le (h.2.2 b x) (Nat.le_trans h.2.1.size f.size)) fun x => x.2) (fun b hb hq => ?_), h.2.1.trans f (fun i hi hb => hb.elim (fun x => x.elim .inl (fun h => by have := h.1; omega)) .inr), h.2.2⟩
  have r := h.1.sb b hb
  rcases hq with hq | hq
  · exact r.1 (.inl hq)
  · by_cases hl : b < w.heap.size
    · exact r.1 (.inr ⟨hq.1, hl⟩)
    · exact hl r.2
theorem Ml.up (h : Ml G w0 Q lv w s en) (k : Mm G w (Gw Q w0 w) w' s' en') : Ml G w0 Q lv w' s' en' := h.upX k.1 (k.2.1.mono fun _ _ x => .inl x)
theorem Ml.cat (h : Ml G w0 Q lv w s en) (k : Ml G w (Gw Q w0 w) lv w' s' en') : Ml G w0 Q lv w' s' en' := h.upX k.1 k.2.1
theorem Ml.same (h : Ml G w0 Q lv w s en) (k : Fr (fun _ => False) w w') : Ml G w0 Q lv w' s en := h.up (h.mm.same k)
theorem Ml.pre (k : Fr (fun _ => False) w w2) (hQ : ∀ b, Q b → b < w.heap.size) (hs : ∀ b, stB G b → b < w.heap.size) (h : Ml G w2 Q lv w' s en) : Ml G w Q lv w' s en := by
  refine ⟨h.1.up (fun b hb => hb.elim (fun h => .inl h) fun h => .inr ⟨Nat.le_trans k.size h.1, h.2⟩) (fun b hb => hb.elim (fun x => Nat.lt_of_lt_of_le (hQ b x) (Nat.le_trans k.size h.2.1.size)) fun x => x.2) (fun b hb hq => ?_), (k.mono fun _ _ h => h.elim).trans h.2.1 (fun _ _ h => h), hQ⟩
  rcases hq with hq | hq
  · exact (h.1.sb b hb).1 (.inl hq)
  · have := hs b hb
    have := hq.1
    omega
theorem Ml.blk {b n : Nat} {f : Nat → Value} (h : Ml G w0 Q lv w s en) (k : Blk w0 b n f) (hb : ¬ Q b) (hb2 : ¬ isB lv b) : Blk w b n f := k.frame h.2.1 fun x => x.elim hb hb2
theorem Dl.pre (k : Fr (fun _ => False) w w2) (hQ : ∀ b, Q b → b < w.heap.size) (hs : ∀ b, stB G b → b < w.heap.size) (h : Dl G w2 Q lv w' m) : Dl G w Q lv w' m := by
  obtain ⟨en, t, s', h1, h2, h3, h4⟩ := h
  exact ⟨en, t, s', h1, h2, h3.pre k hQ hs, h4⟩
theorem Ls.pre (k : Fr (fun _ => False) w w2) (hQ : ∀ b, Q b → b < w.heap.size) (hs : ∀ b, stB G b → b < w.heap.size) (h : Ls G w2 Q lv w' s du dr t) : Ls G w Q lv w' s du dr t := ⟨h.ml.pre k hQ hs, h.lo, h.sb, h.rl⟩
theorem ExF.pre {ret : Int} {β : Bool} (k : Fr (fun _ => False) w w2) (hQ : ∀ b, Q b → b < w.heap.size) (hs : ∀ b, stB G b → b < w.heap.size) (h : ExF G w2 Q lv w' s ret m β v) : ExF G w Q lv w' s ret m β v := by
  rcases h with ⟨a, z, v0, t, b, c⟩ | ⟨a, t, b, c⟩ | ⟨a, b⟩
  · exact .inl ⟨a, z, v0, t, b, c.pre k hQ hs⟩
  · exact .inr (.inl ⟨a, t, b, c.pre k hQ hs⟩)
  · exact .inr (.inr ⟨a, b.pre k hQ hs⟩)
theorem Nb.exf {nb : Nat} {nd : Nd} {ret : Int} {β : Bool} (N : Nb G w w2 Q s lv li lr nb nd) (h : ExF G w2 Q lv w' s ret m β v) : ExF G w Q lv w' s ret m β v := h.pre N.fr N.e0.lt.1 N.e0.lt.2
/-- A statement's state lets an expression be evaluated. -/
theorem Ls.ev0 (E : Ev0 G w Q s lv li lr) (h : Ls G w Q lv w' s du dr t) : Ev0 G w' (Gw Q w w') t lv li lr :=
  ⟨h.ml.1, h.sb, h.lo, fun b hb x => x.elim (E.lq b hb) fun y => by have := E.loc.bk hb; have := y.1; omega, by rw [h.rl.ll]; exact E.ll, by rw [h.rl.rb, h.rl.rt]; have := E.rb; omega, E.l12, E.ls⟩
theorem Ls.nil (E : Ev0 G w Q s lv li lr) : Ls G w Q lv w s 0 0 s := ⟨Ml.nil E.H lv, E.loc, E.sb, Rl.refl s⟩
theorem Ls.live {du' dr' : Nat} (E : Ev0 G w Q s lv li lr) (h : Ls G w Q lv w' s du dr t) (k : Liv G w' (Gw Q w w') w1 t du' dr' m v) : ∃ t', EvI G.P0 m (.ok v t') ∧ Ls G w Q lv w1 s (du + du') (dr + dr') t' ∧ t'.loc = t.loc := by
  obtain ⟨t', a, b, c, d, e⟩ := k
  exact ⟨t', a, ⟨h.ml.up b, by rw [e]; exact h.lo.frame b.2.1 fun b hb x => (h.ev0 E).lq b hb x, c, h.rl.trans d⟩, e⟩
theorem Ls.dead (h : Ls G w Q lv w' s du dr t) (k : Dth G w' (Gw Q w w') w1 m) : Dl G w Q lv w1 m := by
  obtain ⟨en, x, y, a, b, c, d⟩ := k
  exact ⟨en, x, y, a, b, h.ml.up c, d⟩
theorem Dl.c17 (h : Dl G w Q lv w' m) : ∃ en, en ≠ 0 ∧ w'.cell? ⟨G.r, 17, none⟩ = some (.int .i64 en) ∧ G.r < w'.heap.size := by
  obtain ⟨en, _, s', _, h2, h3, _⟩ := h
  obtain ⟨ov, O, H⟩ := h3.1
  exact ⟨en, h2, H.c17, H.rlt⟩
theorem Dl.call {k : Int → Ss → Mi} (h : Dl G w Q lv w' (bodyI G.P0 q t)) : Dl G w Q lv w' (.call q t k) := by
  obtain ⟨en, x, y, h1, h2⟩ := h
  exact ⟨en, x, y, h1.stop, h2⟩
theorem Dl.okc {k : Int → Ss → Mi} {u : Int} (h1 : EvI G.P0 (bodyI G.P0 q s) (.ok u t)) (h : Dl G w Q lv w' (k u t)) : Dl G w Q lv w' (.call q s k) := by
  obtain ⟨en, x, y, a, b⟩ := h
  exact ⟨en, x, y, h1.ok a, b⟩
theorem Dl.die {e : Int} (he : e ≠ 0) (h : Ml G w Q lv w' s' e) (h1 : s'.fuel = s.fuel) (h2 : s'.out = s.out) (h3 : s'.M.rt.length ≤ 24) (h4 : s.out.length ≤ 1024) : Dl G w Q lv w' (dieI e s) := ⟨e, s, s', EvI.ret _, he, h, h1, h2, h3, by rw [h2]; exact h4⟩
theorem Ml.setU (h : Ml G w0 Q lv w s en) (u : Int) : Ml G w0 Q lv (w.setCell ⟨G.r, 15, none⟩ (.int .i64 u)) { s with us := u } en := h.up (h.mm.setU u)
theorem Ml.setE (h : Ml G w0 Q lv w s en) (u : Int) : Ml G w0 Q lv (w.setCell ⟨G.r, 17, none⟩ (.int .i64 u)) s u := h.up (h.mm.setE u)
/-- A local is written. -/
theorem Ml.setL {lb i : Nat} {x : Value} {l : List Int} (h : Ml G w0 Q lv w s en) (hl : isB lv lb) (hq : ¬ Q lb ∧ lb < w0.heap.size) (hs : ¬ stB G lb) : Ml G w0 Q lv (w.setCell ⟨lb, i, none⟩ x) { s with loc := l } en := by
  have k := (Fr.refl (fun b => b = lb) w).setC lb i x fun _ => rfl
  obtain ⟨ov, O, H⟩ := h.1
  have hn : ¬ Gw Q w0 w lb := fun y => y.elim hq.1 fun z => by have := z.1; omega
  have H2 := (H.frame k fun b hb e => by
    subst e
    exact hb.elim hn hs).re (s' := { s with loc := l }) rfl rfl rfl rfl rfl
  have hsz : (w.setCell ⟨lb, i, none⟩ x).heap.size = w.heap.size := by simp
  refine ⟨H2.x.up (fun b hb => hb.imp id fun y => ⟨y.1, by rw [hsz]; exact y.2⟩) (fun b hb => hb.elim (fun y => Nat.lt_of_lt_of_le (h.2.2 b y) (Nat.le_trans h.2.1.size k.size)) fun y => y.2) (fun b hb y => ?_), h.2.1.trans k fun b _ e => .inr (e ▸ hl), h.2.2⟩
  refine (h.1.sb b hb).1 (y.imp id fun z => ⟨z.1, ?_⟩)
  rw [← hsz]
  exact z.2
/-- How store leaves the state. -/
structure StR (G : Gmx) (w0 : World) (Q : Nat → Prop) (lv : Value) (s t : Ss) (x : Nat) (ty v : Int) (w' : World) (t' : Ss) : Prop where
  eq : storeI G.P0 x ty v t = goOn 0 t'
  ls : Ls G w0 Q lv w' s 0 0 t'
end
set_option maxRecDepth 100000 in
theorem store_dead {w : World} {G : Gmx} {en : Int} {x ty v lv rb : Value} (he : en ≠ 0) (c17 : w.cell? ⟨G.r, 17, none⟩ = some (.int .i64 en)) : Calls Tryz.prog 80 #[.pointer (some ⟨G.r, 0, none⟩), x, ty, v, lv, rb] w fun e w' => e = .returned (.tuple #[]) ∧ w' = w := by
  have y1 : (en != 0) = true := by simpa using he
  clear he
  go_enter Tryz.func80, Tryz.ntmps80
  go_wp2_with fail
  first | go_end0 | ((try simp only [Exit.inBlock, Exit.then]); refine bodyPost_ret (results_none rfl _ _ _) rfl ?_)
  exact ⟨rfl, rfl⟩
set_option maxRecDepth 100000 in
set_option maxHeartbeats 1000000 in
theorem store_i {w0 w : World} {G : Gmx} {Q : Nat → Prop} {lv : Value} {s t : Ss} {li lr x : Nat} {ty v : Int} (K : G.Ok) (E : Ev0 G w0 Q s lv li lr) (h : Ls G w0 Q lv w s 1 0 t) (hx : x < G.ns.length) (ht : ty < 2) (hr : rfA G.P0 x < li) :
    Calls Tryz.prog 80 #[.pointer (some ⟨G.r, 0, none⟩), .int .i64 (x : Nat), .int .i64 ty, .int .i64 v, lv, .int .i64 (s.rb : Nat)] w fun e w' => e = .returned (.tuple #[]) ∧ ∃ t', StR G w0 Q lv s t x ty v w' t' := by
  obtain ⟨ov, O, Hv⟩ := h.ml.1
  have c17 := Hv.c17
  have c15 := Hv.c15
  have rlt := Hv.rlt
  have hz := Hv.blk.frozen
  have hnl := Hv.an.nl
  obtain ⟨rb, erb, rblt, rc⟩ := Hv.an.hr.at (i := x) (by rw [K.rl]; exact hx)
  have c5 := Hv.c5
  rw [erb, K.rl] at c5
  have l12 := E.l12
  rw [rfA_get hr (by omega)] at rc
  have hli : rfA G.P0 x < t.loc.length := by rw [h.rl.ll, E.ll]; exact hr
  obtain ⟨lb, lc, elv, hlc, llt, lcell, lz, lset⟩ := h.lo.set hli
  have hib : isB lv lb := ⟨_, _, elv⟩
  have hlr : lb ≠ G.r := fun e => by
    have := (h.ev0 E).lq lb hib
    exact this (e ▸ Hv.qr)
  have hrbr : rb ≠ G.r := fun e => (Hv.sb rb (.inl (.inr (.inr (.inl ⟨_, _, erb⟩))))).1 (e ▸ Hv.qr)
  have u0 := h.sb.u0
  have u48 := h.sb.u48
  have z1 : decide (ty ≥ 2) = false := decide_eq_false (by omega)
  have z2 : decide ((2 : Int) ≤ ty) = false := decide_eq_false (by omega)
  have e1 : wrap64 (t.us - 1) = t.us - 1 := by simp only [wrap64]; omega
  have HH : Hid (True ∧ _) := ⟨trivial, And.intro E (And.intro h (And.intro ht (And.intro hib (And.intro lset elv))))⟩
  have hll : t.loc.length ≤ 12 := by rw [h.rl.ll, E.ll]; exact l12
  rw [elv]
  have k1 := (Fr.refl (fun b => b = G.r) w).setC G.r 15 (.int .i64 (t.us - 1)) fun _ => rfl
  obtain ⟨lb2, lc2, elv2, _, _, _, _, lset2⟩ := (h.lo.frame k1 fun b hb e => (h.ev0 E).lq b hb (e ▸ Hv.qr)).set hli
  have elb : lb2 = lb := by rw [elv] at elv2; injection elv2 with e _ _; injection e with e; injection e with e _ _; exact e.symm
  subst elb
  have HL : Hid (True ∧ _) := ⟨trivial, lset2⟩
  clear E h ht hib lset elv Hv erb K hr l12 lset2 elv2 k1
  generalize hri : rfA G.P0 x = ri at *
  have Hri : Hid (True ∧ _) := ⟨trivial, hri⟩
  clear hri
  go_enter Tryz.func80, Tryz.ntmps80
  go_wp2_with fail
  first | go_end0 | ((try simp only [Exit.inBlock, Exit.then]); refine bodyPost_ret (results_none rfl _ _ _) rfl ?_)
  obtain ⟨_, E, h, ht, hib, _, elv⟩ := HH.out
  rw [← elv]
  have hu := h.rl.us
  have s0 := E.sb.u0
  refine ⟨rfl, { t with us := t.us - 1, loc := t.loc.set ri v }, ?_, (h.ml.setU (t.us - 1)).setL hib ⟨E.lq _ hib, E.loc.bk hib⟩ (E.ls _ hib), HL.out.2 v, ⟨?_, ?_, h.sb.r24, h.sb.mi, h.sb.ou, h.sb.f1, h.sb.f0, h.sb.ip, h.sb.il⟩, ⟨h.rl.rb, ?_, ?_, h.rl.rt, h.rl.fu⟩⟩
  · unfold storeI
    rw [if_neg (by omega), Hri.out.2]
  · show 0 ≤ t.us - 1
    omega
  · show t.us - 1 ≤ 48
    omega
  · show (t.loc.set ri v).length = s.loc.length
    rw [List.length_set]
    exact h.rl.ll
  · show t.us - 1 = s.us + (0 : Nat)
    omega
set_option maxRecDepth 100000 in
set_option maxHeartbeats 1000000 in
theorem store_r {w0 w : World} {G : Gmx} {Q : Nat → Prop} {lv : Value} {s t : Ss} {li lr x : Nat} {ty v : Int} (K : G.Ok) (E : Ev0 G w0 Q s lv li lr) (h : Ls G w0 Q lv w s 0 1 t) (hx : x < G.ns.length) (ht : 2 ≤ ty) (hr : rfA G.P0 x < lr) :
    Calls Tryz.prog 80 #[.pointer (some ⟨G.r, 0, none⟩), .int .i64 (x : Nat), .int .i64 ty, .int .i64 v, lv, .int .i64 (s.rb : Nat)] w fun e w' => e = .returned (.tuple #[]) ∧ ∃ t', StR G w0 Q lv s t x ty v w' t' := by
  have k2 : Fr (fun _ => False) w w.drew := (Fr.refl _ w).drew
  have M2 := h.ml.mm.same k2
  obtain ⟨ov, O, Hw⟩ := h.ml.1
  have c17 := Hw.c17
  have rlw := Hw.rlt
  obtain ⟨ov, O, Hv⟩ := M2.1
  have c16 := Hv.c16
  have rlt := Hv.rlt
  have hnl := Hv.an.nl
  obtain ⟨rb, erb, rblt, rc⟩ := Hv.an.hr.at (i := x) (by rw [K.rl]; exact hx)
  have c5 := Hv.c5
  rw [erb, K.rl] at c5
  have hrb := E.rb
  have hrt := h.rl.rt
  have r24 := h.sb.r24
  rw [rfA_get hr (by omega)] at rc
  have hrb' := h.rl.rb
  have q := M2.setH h.sb.r24 (s.rb + rfA G.P0 x : Nat)
  have z1 : decide (ty ≥ 2) = true := decide_eq_true (by omega)
  have z2 : decide ((2 : Int) ≤ ty) = true := decide_eq_true (by omega)
  have hok := set_ok (M := t.M) (n := s.rb + rfA G.P0 x) (by omega)
  have HH : Hid (True ∧ _) := ⟨trivial, And.intro E (And.intro h (And.intro ht (And.intro hrb' hok)))⟩
  have hxn : (x : Int) < G.ns.length := by omega
  have e1 : wrap64 ((s.rb : Int) + (rfA G.P0 x : Nat)) = ((s.rb + rfA G.P0 x : Nat) : Int) := by simp only [wrap64]; omega
  clear E h ht hrb' hok Hw M2 Hv erb K hr k2 hrt hrb
  go_enter Tryz.func80, Tryz.ntmps80
  go_upto_region 2 with fail
  refine wp_region_text (by kernel_rfl) (by kernel_rfl) ?_
  clear c17 rlw
  go_wp2_with fail
  refine q.mono ?_
  rintro z w3 ⟨rfl, M3⟩
  have HM : Hid (True ∧ _) := ⟨trivial, M3⟩
  clear q c5 c16 rc rlt rblt M3
  go_wp2_with fail
  refine ⟨by kernel_rfl, ?_⟩
  go_wp2_with fail
  first | go_end0 | ((try simp only [Exit.inBlock, Exit.then]); refine bodyPost_ret (results_none rfl _ _ _) rfl ?_)
  obtain ⟨_, E, h, ht, hrb', hok⟩ := HH.out
  have M3 := HM.out.2
  refine ⟨rfl, { t with M := (setM t.M (s.rb + rfA G.P0 x : Nat)).2 }, ?_, h.ml.up M3, h.lo.frame M3.2.1 fun b hb x => (h.ev0 E).lq b hb x, ⟨h.sb.u0, h.sb.u48, ?_, h.sb.mi.set' _, h.sb.ou, h.sb.f1, h.sb.f0, h.sb.ip, h.sb.il⟩, ⟨h.rl.rb, h.rl.ll, h.rl.us, ?_, h.rl.fu⟩⟩
  · unfold storeI
    rw [if_pos ht, hrb']
  · show (setM t.M (s.rb + rfA G.P0 x : Nat)).2.rt.length ≤ 24
    omega
  · show (setM t.M (s.rb + rfA G.P0 x : Nat)).2.rt.length = s.M.rt.length + 0
    have := h.rl.rt
    omega
end Go.Proofs.Qxb6500277aGreat
