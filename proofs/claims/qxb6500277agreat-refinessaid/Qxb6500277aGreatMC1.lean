/- The model checker in memory. -/
import Derived.Test.Qxb6500277aGreatVApp
import Derived.Test.Qxb6500277aGreatFApp
namespace Go.Proofs.Qxb6500277aGreat
open Go Go.RowKit

structure Ma where
  m : Nat
  nb : Nat
  tb : Nat
  rb : Nat
  ns : List Nd
  tv : Value
def mCell (A : Ma) (cur : Nat) (s : Ck) (er po : Int) (fv vv : Value) (o : Nat) : Value := match o with
  | 0 => A.tv | 1 => .slice (some ⟨A.tb, 0, none⟩) A.ns.length A.ns.length | 2 => .slice (some ⟨A.rb, 0, none⟩) A.ns.length A.ns.length | 3 => fv | 4 => vv
  | 5 => .int .i64 s.ni | 6 => .int .i64 s.nr | 7 => .int .i64 cur | 8 => .int .i64 s.lvl | 9 => .int .i64 er | _ => .int .i64 po
structure MXc (w : World) (B : Nat) (A : Ma) (X : Cx) (cur : Nat) (s : Ck) (er po : Int) (fv vv : Value) : Prop where
  blk : Blk w A.m 11 (mCell A cur s er po fv vv)
  nds : A.ns ≠ [] → A.tv = .slice (some ⟨A.nb, 0, none⟩) A.ns.length A.ns.length ∧ ∃ g, Blk w A.nb (A.ns.length * 8) g ∧ NdP g A.ns
  fs : SlF w fv (X.fs.zip s.lim)
  vs : SlV w vv s.vs
  tyb : Blk w A.tb A.ns.length (iL s.ty)
  rfb : Blk w A.rb A.ns.length (iL s.rf)
  tyl : s.ty.length = A.ns.length
  rfl' : s.rf.length = A.ns.length
  dis : A.m ≠ A.nb ∧ A.m ≠ A.tb ∧ A.m ≠ A.rb ∧ A.nb ≠ A.tb ∧ A.nb ≠ A.rb ∧ A.tb ≠ A.rb
  fd : ∀ b, isBlk fv b → b ≠ A.m ∧ b ≠ A.nb ∧ b ≠ A.tb ∧ b ≠ A.rb ∧ ¬ isBlk vv b ∧ B ≤ b
  vd : ∀ b, isBlk vv b → b ≠ A.m ∧ b ≠ A.nb ∧ b ≠ A.tb ∧ b ≠ A.rb ∧ B ≤ b
  lo : B ≤ A.m ∧ B ≤ A.tb ∧ B ≤ A.rb
  n12 : s.ni ≤ 12 ∧ s.nr ≤ 12
  vl : s.vs.length ≤ 24
  xok : XOk X A.ns
  lim : s.lim.length = X.fs.length
  le : A.ns.length ≤ 200
  lvl : s.lvl ≤ 4000
  lm : ∀ i, (lAt s.lim i).1 ≤ 12 ∧ (lAt s.lim i).2 ≤ 12
  vt : ∀ i, 0 ≤ (vAt s.vs i).ty ∧ (vAt s.vs i).ty < 8
def MMc (w : World) (B : Nat) (A : Ma) (X : Cx) (cur : Nat) (s : Ck) (er po : Int) : Prop := ∃ fv vv, MXc w B A X cur s er po fv vv
/-- What the model may write: its own blocks. -/
def MSc (A : Ma) (fv vv : Value) (b : Nat) : Prop := b = A.m ∨ b = A.tb ∨ b = A.rb ∨ isBlk fv b ∨ isBlk vv b
section
variable {w w' : World} {B : Nat} {A : Ma} {X : Cx} {cur : Nat} {s : Ck} {er po : Int} {fv vv : Value} {S : Nat → Prop}
theorem isBlk_sl {v : Value} {b n c : Nat} (h : v = .slice (some ⟨b, 0, none⟩) n c) : isBlk v b := ⟨n, c, h⟩
theorem MXc.frame (H : MXc w B A X cur s er po fv vv) (k : Fr S w w') (h1 : ¬ S A.m) (h2 : A.ns ≠ [] → ¬ S A.nb) (h3 : ¬ S A.tb) (h4 : ¬ S A.rb) (h5 : ∀ b, isBlk fv b ∨ isBlk vv b → ¬ S b) : MXc w' B A X cur s er po fv vv :=
  ⟨H.blk.frame k h1, fun hn => ⟨(H.nds hn).1, by obtain ⟨g, g1, g2⟩ := (H.nds hn).2; exact ⟨g, g1.frame k (h2 hn), g2⟩⟩, H.fs.frame k (fun b n c e => h5 b (.inl (isBlk_sl e))), H.vs.frame k (fun b n c e => h5 b (.inr (isBlk_sl e))), H.tyb.frame k h3, H.rfb.frame k h4, H.tyl, H.rfl', H.dis, H.fd, H.vd, H.lo, H.n12, H.vl, H.xok, H.lim, H.le, H.lvl, H.lm, H.vt⟩
theorem MXc.same (H : MXc w B A X cur s er po fv vv) (k : Fr (fun _ => False) w w') : MXc w' B A X cur s er po fv vv := H.frame k (fun h => h) (fun _ h => h) (fun h => h) (fun h => h) (fun _ _ h => h)
theorem MMc.same (H : MMc w B A X cur s er po) (k : Fr (fun _ => False) w w') : MMc w' B A X cur s er po := by
  obtain ⟨fv, vv, H⟩ := H
  exact ⟨fv, vv, H.same k⟩
theorem SlF.sl {v : Value} {p : List FR} (h : SlF w v p) : ∃ a c, v = .slice a p.length c := by
  rcases h with ⟨rfl, rfl⟩ | ⟨b, cap, f, rfl, _⟩
  · exact ⟨_, _, rfl⟩
  · exact ⟨_, _, rfl⟩
theorem SlV.sl {v : Value} {p : List Vr} (h : SlV w v p) : ∃ a c, v = .slice a p.length c := by
  rcases h with ⟨rfl, rfl⟩ | ⟨b, cap, f, rfl, _⟩
  · exact ⟨_, _, rfl⟩
  · exact ⟨_, _, rfl⟩
theorem SlF.get {v : Value} {p : List FR} (h : SlF w v p) {i : Nat} (hi : i < p.length) : ∃ b cap, v = .slice (some ⟨b, 0, none⟩) p.length cap ∧ p.length ≤ cap ∧ b < w.heap.size ∧ (∀ o, o < 7 → w.cell? ⟨b, i * 7 + o, none⟩ = some (frC p[i] o)) ∧ ∀ o, w.frozen? ⟨b, o, none⟩ = false := by
  rcases h with ⟨rfl, rfl⟩ | ⟨b, cap, f, rfl, hc, hb, hf⟩
  · simp at hi
  · refine ⟨b, cap, rfl, hc, hb.lt, fun o ho => ?_, hb.frozen⟩
    rw [hb.cell (by omega), hf _ (by omega)]
    unfold bufF2
    rw [show (i * 7 + o) / 7 = i by omega, show (i * 7 + o) % 7 = o by omega]
    simp [List.getD_eq_getElem?_getD, hi]
theorem SlV.get {v : Value} {p : List Vr} (h : SlV w v p) {i : Nat} (hi : i < p.length) : ∃ b cap, v = .slice (some ⟨b, 0, none⟩) p.length cap ∧ p.length ≤ cap ∧ b < w.heap.size ∧ (∀ o, o < 4 → w.cell? ⟨b, i * 4 + o, none⟩ = some (vrCell (vAt p i) o)) := by
  rcases h with ⟨rfl, rfl⟩ | ⟨b, cap, f, rfl, hc, hb, hf⟩
  · simp at hi
  · refine ⟨b, cap, rfl, hc, hb.lt, fun o ho => ?_⟩
    rw [hb.cell (by omega), hf _ (by omega)]
    unfold bufV vAt vr0
    rw [show (i * 4 + o) / 4 = i by omega, show (i * 4 + o) % 4 = o by omega]
theorem MXc.regs (H : MXc w B A X cur s er po fv vv) : w.cell? ⟨A.m, 0, none⟩ = some A.tv ∧ w.cell? ⟨A.m, 1, none⟩ = some (.slice (some ⟨A.tb, 0, none⟩) A.ns.length A.ns.length) ∧ w.cell? ⟨A.m, 2, none⟩ = some (.slice (some ⟨A.rb, 0, none⟩) A.ns.length A.ns.length) ∧ w.cell? ⟨A.m, 3, none⟩ = some fv ∧ w.cell? ⟨A.m, 4, none⟩ = some vv ∧ w.cell? ⟨A.m, 5, none⟩ = some (.int .i64 s.ni) ∧ w.cell? ⟨A.m, 6, none⟩ = some (.int .i64 s.nr) ∧ w.cell? ⟨A.m, 7, none⟩ = some (.int .i64 cur) ∧
    w.cell? ⟨A.m, 8, none⟩ = some (.int .i64 s.lvl) ∧ w.cell? ⟨A.m, 9, none⟩ = some (.int .i64 er) ∧ w.cell? ⟨A.m, 10, none⟩ = some (.int .i64 po) ∧ (∀ o, w.frozen? ⟨A.m, o, none⟩ = false) ∧ A.m < w.heap.size ∧ A.tb < w.heap.size ∧ A.rb < w.heap.size :=
  ⟨H.blk.cell (by omega), H.blk.cell (by omega), H.blk.cell (by omega), H.blk.cell (by omega), H.blk.cell (by omega), H.blk.cell (by omega), H.blk.cell (by omega), H.blk.cell (by omega), H.blk.cell (by omega), H.blk.cell (by omega), H.blk.cell (by omega), H.blk.frozen, H.blk.lt, H.tyb.lt, H.rfb.lt⟩
theorem MXc.node (H : MXc w B A X cur s er po fv vv) {k : Nat} {nd : Nd} (h : A.ns[k]? = some nd) : k < A.ns.length ∧ A.nb < w.heap.size ∧ w.cell? ⟨A.m, 0, none⟩ = some (.slice (some ⟨A.nb, 0, none⟩) A.ns.length A.ns.length) ∧
    w.cell? ⟨A.nb, k * 8, none⟩ = some (.int .i64 nd.kind) ∧ w.cell? ⟨A.nb, k * 8 + 1, none⟩ = some (.int .i64 nd.a) ∧ w.cell? ⟨A.nb, k * 8 + 2, none⟩ = some (.int .i64 nd.b) ∧ w.cell? ⟨A.nb, k * 8 + 3, none⟩ = some (.int .i64 nd.c) ∧ w.cell? ⟨A.nb, k * 8 + 4, none⟩ = some (.int .i64 nd.nx) ∧ w.cell? ⟨A.nb, k * 8 + 5, none⟩ = some (.int .i64 nd.val) ∧ w.cell? ⟨A.nb, k * 8 + 6, none⟩ = some (.int .i64 nd.pos) ∧ w.cell? ⟨A.nb, k * 8 + 7, none⟩ = some (.string nd.name) := by
  obtain ⟨hk, e⟩ := List.getElem?_eq_some_iff.1 h
  have hn : A.ns ≠ [] := fun e' => by rw [e'] at hk; cases hk
  obtain ⟨t, g, g1, g2⟩ := H.nds hn
  have c := g1.node g2 hk (by omega)
  rw [e] at c
  exact ⟨hk, g1.lt, by rw [H.blk.cell (by omega)]; exact congrArg some t, c.1, c.2.1, c.2.2.1, c.2.2.2.1, c.2.2.2.2.1, c.2.2.2.2.2.1, c.2.2.2.2.2.2.1, c.2.2.2.2.2.2.2⟩
theorem MXc.vts (H : MXc w B A X cur s er po fv vv) : VT X s := ⟨H.vt, H.xok.rt⟩
/-- Cells of the run turned. -/
theorem MXc.turn {cur' : Nat} {s' : Ck} {er' po' : Int} (H : MXc w B A X cur s er po fv vv) (k : Fr (fun b => b = A.m) w w') (b : Blk w' A.m 11 (mCell A cur' s' er' po' fv vv)) (e1 : s'.vs = s.vs) (e2 : s'.lim = s.lim) (e3 : s'.ty = s.ty) (e4 : s'.rf = s.rf) (n12 : s'.ni ≤ 12 ∧ s'.nr ≤ 12) (lvl : s'.lvl ≤ 4000) : MXc w' B A X cur' s' er' po' fv vv := by
  obtain ⟨d1, d2, d3, _⟩ := H.dis
  exact ⟨b, fun hn => ⟨(H.nds hn).1, by obtain ⟨g, g1, g2⟩ := (H.nds hn).2; exact ⟨g, g1.frame k (fun e => d1 e.symm), g2⟩⟩, by rw [e2]; exact H.fs.frame k (fun b n c e he => (H.fd b (isBlk_sl e)).1 he), by rw [e1]; exact H.vs.frame k (fun b n c e he => (H.vd b (isBlk_sl e)).1 he), by rw [e3]; exact H.tyb.frame k (fun e => d2 e.symm), by rw [e4]; exact H.rfb.frame k (fun e => d3 e.symm), by rw [e3]; exact H.tyl, by rw [e4]; exact H.rfl', H.dis, H.fd, H.vd, H.lo, n12, by rw [e1]; exact H.vl, H.xok, by rw [e2]; exact H.lim, H.le, lvl, by rw [e2]; exact H.lm, by rw [e1]; exact H.vt⟩
theorem lt11c {o : Nat} (h : o < 11) : o = 0 ∨ o = 1 ∨ o = 2 ∨ o = 3 ∨ o = 4 ∨ o = 5 ∨ o = 6 ∨ o = 7 ∨ o = 8 ∨ o = 9 ∨ o = 10 := by omega
theorem MXc.setErr (H : MXc w B A X cur s er po fv vv) (e p : Int) : MXc ((w.setCell ⟨A.m, 9, none⟩ (.int .i64 e)).setCell ⟨A.m, 10, none⟩ (.int .i64 p)) B A X cur s e p fv vv :=
  H.turn (((Fr.refl (fun b => b = A.m) w).setC A.m 9 _ (fun _ => rfl)).setC A.m 10 _ (fun _ => rfl)) (((H.blk.set 9 (.int .i64 e)).set 10 (.int .i64 p)).congr fun o ho => by
    rcases lt11c ho with rfl | rfl | rfl | rfl | rfl | rfl | rfl | rfl | rfl | rfl | rfl <;> simp [upd, mCell]) rfl rfl rfl rfl H.n12 H.lvl
theorem MXc.setTy (H : MXc w B A X cur s er po fv vv) (x : Nat) (t : Int) : MXc (w.setCell ⟨A.tb, x, none⟩ (.int .i64 t)) B A X cur { s with ty := s.ty.set x t } er po fv vv := by
  have k := (Fr.refl (fun b => b = A.tb) w).setC A.tb x (.int .i64 t) (fun _ => rfl)
  obtain ⟨d1, d2, d3, d4, d5, d6⟩ := H.dis
  exact ⟨H.blk.frame k d2, fun hn => ⟨(H.nds hn).1, by obtain ⟨g, g1, g2⟩ := (H.nds hn).2; exact ⟨g, g1.frame k d4, g2⟩⟩, H.fs.frame k (fun b n c e he => (H.fd b (isBlk_sl e)).2.2.1 he), H.vs.frame k (fun b n c e he => (H.vd b (isBlk_sl e)).2.2.1 he), (H.tyb.set x _).congr (fun o ho => iL_set _ _ _ _ (by rw [H.tyl]; exact ho)), H.rfb.frame k (fun e => d6 e.symm), by simpa using H.tyl, H.rfl', H.dis, H.fd, H.vd, H.lo, H.n12, H.vl, H.xok, H.lim, H.le, H.lvl, H.lm, H.vt⟩
theorem MXc.setRf (H : MXc w B A X cur s er po fv vv) (x : Nat) (t : Int) : MXc (w.setCell ⟨A.rb, x, none⟩ (.int .i64 t)) B A X cur { s with rf := s.rf.set x t } er po fv vv := by
  have k := (Fr.refl (fun b => b = A.rb) w).setC A.rb x (.int .i64 t) (fun _ => rfl)
  obtain ⟨d1, d2, d3, d4, d5, d6⟩ := H.dis
  exact ⟨H.blk.frame k d3, fun hn => ⟨(H.nds hn).1, by obtain ⟨g, g1, g2⟩ := (H.nds hn).2; exact ⟨g, g1.frame k d5, g2⟩⟩, H.fs.frame k (fun b n c e he => (H.fd b (isBlk_sl e)).2.2.2.1 he), H.vs.frame k (fun b n c e he => (H.vd b (isBlk_sl e)).2.2.2.1 he), H.tyb.frame k d6, (H.rfb.set x _).congr (fun o ho => iL_set _ _ _ _ (by rw [H.rfl']; exact ho)), H.tyl, by simpa using H.rfl', H.dis, H.fd, H.vd, H.lo, H.n12, H.vl, H.xok, H.lim, H.le, H.lvl, H.lm, H.vt⟩
/-- Everything that the model writes lies at or above B. -/
theorem MXc.up (H : MXc w B A X cur s er po fv vv) : ∀ b, MSc A fv vv b → B ≤ b := fun b hb => by
  obtain ⟨h1, h2, h3⟩ := H.lo
  rcases hb with rfl | rfl | rfl | h | h
  · exact h1
  · exact h2
  · exact h3
  · exact (H.fd b h).2.2.2.2.2
  · exact (H.vd b h).2.2.2.2
set_option maxRecDepth 100000 in
set_option maxHeartbeats 1000000 in
theorem failM_live (H : MXc w B A X cur s 0 po fv vv) (e p : Int) : Calls Tryz.prog 75 #[.pointer (some ⟨A.m, 0, none⟩), .int .i64 e, .int .i64 p] w fun v w' => v = .returned (.int .i64 (-1)) ∧ MXc w' B A X cur s e p fv vv ∧ Fr (MSc A fv vv) w w' := by
  obtain ⟨r0, r1, r2, r3, r4, r5, r6, r7, r8, r9, r10, hz, hlt, _, _⟩ := H.regs
  have Hk : Hid (_ ∧ _) := ⟨H.setErr e p, ((Fr.refl (MSc A fv vv) w).setC A.m 9 (.int .i64 e) (fun _ => .inl rfl)).setC A.m 10 (.int .i64 p) (fun _ => .inl rfl)⟩
  clear H
  go_enter Tryz.func75, Tryz.ntmps75
  go_wp2_with fail
  go_ret
  exact ⟨rfl, Hk.out⟩
set_option maxRecDepth 100000 in
set_option maxHeartbeats 1000000 in
theorem failM_dead (H : MXc w B A X cur s er po fv vv) (h0 : er ≠ 0) (e p : Int) : Calls Tryz.prog 75 #[.pointer (some ⟨A.m, 0, none⟩), .int .i64 e, .int .i64 p] w fun v w' => v = .returned (.int .i64 (-1)) ∧ w' = w := by
  obtain ⟨r0, r1, r2, r3, r4, r5, r6, r7, r8, r9, r10, hz, hlt, _, _⟩ := H.regs
  have z0 : (er == 0) = false := by simpa using h0
  clear H
  go_enter Tryz.func75, Tryz.ntmps75
  go_wp2_with fail
  go_ret
  exact ⟨rfl, rfl⟩
end
end Go.Proofs.Qxb6500277aGreat
