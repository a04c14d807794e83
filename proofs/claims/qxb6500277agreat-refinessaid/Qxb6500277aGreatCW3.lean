/- The real checker in memory. -/
import Derived.Test.Qxb6500277aGreatCW2
import Derived.Test.Qxb6500277aGreatCK4
import Derived.Test.Qxb6500277aGreatPW18
namespace Go.Proofs.Qxb6500277aGreat
open Go Go.RowKit

structure Ca where
  c : Nat
  p : Nat
  nb : Nat
  tb : Nat
  rb : Nat
  ns : List Nd
def nmV (fs : List Fh) : List Vr := fs.map fun h => ⟨h.name, 0, 0, 0⟩
theorem nmV_len (fs : List Fh) : (nmV fs).length = fs.length := by simp [nmV]
theorem nmV_at {fs : List Fh} {i : Nat} (h : i < fs.length) : vAt (nmV fs) i = ⟨(fAt fs i).name, 0, 0, 0⟩ := by
  unfold vAt fAt nmV
  simp [List.getD_eq_getElem?_getD, h]
theorem nmV_app (fs : List Fh) (h : Fh) : nmV (fs ++ [h]) = nmV fs ++ [⟨h.name, 0, 0, 0⟩] := by simp [nmV]
theorem fndV_nmV (s : ByteArray) (fs : List Fh) : fndV s (nmV fs) = fndF s fs := by
  unfold fndV fndF
  rw [nmV_len]
  exact lst_congr fun j hj => by rw [nmV_at hj]
/-- The cells of a checker but for the three lists. -/
structure RF (f : Nat → Value) (p : Nat) (X : Cx) (cur : Nat) (s : Ck) (er po : Int) : Prop where
  ps : f 0 = .pointer (some ⟨p, 0, none⟩)
  tv : Tab f 1 s.vs
  ni : f 162 = .int .i64 s.ni
  nr : f 163 = .int .i64 s.nr
  lv : f 164 = .int .i64 s.lvl
  tf : Tab f 165 (nmV X.fs)
  fn : ∀ i, i < X.fs.length → f (326 + i * 7) = .int .i64 (fAt X.fs i).node ∧ f (326 + i * 7 + 1) = .int .i64 (fAt X.fs i).ret ∧ f (326 + i * 7 + 2) = .int .i64 (fAt X.fs i).pi ∧ f (326 + i * 7 + 3) = .int .i64 (fAt X.fs i).pr ∧
    f (326 + i * 7 + 4) = .int .i64 (lAt s.lim i).1 ∧ f (326 + i * 7 + 5) = .int .i64 (lAt s.lim i).2 ∧ f (326 + i * 7 + 6) = .string (fAt X.fs i).name
  pt : ∀ i, i < X.fs.length → ∀ k, k < (pAt X.pt i).length → f (382 + (i * 4 + k)) = .int .i64 ((pAt X.pt i).getD k 0)
  cu : f 414 = .int .i64 cur
  er : f 418 = .int .i64 er
  po : f 419 = .int .i64 po
def iL (l : List Int) (o : Nat) : Value := .int .i64 (l.getD o 0)
structure CM (w : World) (A : Ca) (X : Cx) (cur : Nat) (s : Ck) (er po : Int) : Prop where
  blk : ∃ f, Blk w A.c 420 f ∧ RF f A.p X cur s er po ∧ (A.ns ≠ [] → f 415 = .slice (some ⟨A.nb, 0, none⟩) A.ns.length A.ns.length) ∧ f 416 = .slice (some ⟨A.tb, 0, none⟩) A.ns.length A.ns.length ∧ f 417 = .slice (some ⟨A.rb, 0, none⟩) A.ns.length A.ns.length
  nds : A.ns ≠ [] → ∃ g, Blk w A.nb (A.ns.length * 8) g ∧ NdP g A.ns
  tyb : Blk w A.tb A.ns.length (iL s.ty)
  rfb : Blk w A.rb A.ns.length (iL s.rf)
  tyl : s.ty.length = A.ns.length
  rfl' : s.rf.length = A.ns.length
  dis : A.c ≠ A.nb ∧ A.c ≠ A.tb ∧ A.c ≠ A.rb ∧ A.nb ≠ A.tb ∧ A.nb ≠ A.rb ∧ A.tb ≠ A.rb
  good : Good s
  nms : ∀ i, i < s.vs.length → (vAt s.vs i).name.size ≤ 8
  xok : XOk X A.ns
  lim : s.lim.length = X.fs.length
  le : A.ns.length ≤ 200
  nm : Nm8 A.ns
  lvl : s.lvl ≤ 4000
  lm : ∀ i, (lAt s.lim i).1 ≤ 12 ∧ (lAt s.lim i).2 ≤ 12
def CS (A : Ca) (b : Nat) : Prop := b = A.c ∨ b = A.tb ∨ b = A.rb
section
variable {w w' : World} {A : Ca} {X : Cx} {cur : Nat} {s : Ck} {er po : Int} {S : Nat → Prop}
theorem CM.frame (H : CM w A X cur s er po) (k : Fr S w w') (h1 : ¬ S A.c) (h2 : A.ns ≠ [] → ¬ S A.nb) (h3 : ¬ S A.tb) (h4 : ¬ S A.rb) : CM w' A X cur s er po := by
  obtain ⟨f, b1, b2⟩ := H.blk
  exact ⟨⟨f, b1.frame k h1, b2⟩, fun hn => by obtain ⟨g, g1, g2⟩ := H.nds hn; exact ⟨g, g1.frame k (h2 hn), g2⟩, H.tyb.frame k h3, H.rfb.frame k h4, H.tyl, H.rfl', H.dis, H.good, H.nms, H.xok, H.lim, H.le, H.nm, H.lvl, H.lm⟩
theorem CM.same (H : CM w A X cur s er po) (k : Fr (fun _ => False) w w') : CM w' A X cur s er po := H.frame k (fun h => h) (fun _ h => h) (fun h => h) (fun h => h)
theorem CM.blt (H : CM w A X cur s er po) : A.c < w.heap.size ∧ A.tb < w.heap.size ∧ A.rb < w.heap.size := by
  obtain ⟨f, b1, b2⟩ := H.blk
  exact ⟨b1.lt, H.tyb.lt, H.rfb.lt⟩
/-- The cells of node k. -/
theorem CM.node (H : CM w A X cur s er po) {k : Nat} {nd : Nd} (h : A.ns[k]? = some nd) : k < A.ns.length ∧ A.nb < w.heap.size ∧ w.cell? ⟨A.c, 415, none⟩ = some (.slice (some ⟨A.nb, 0, none⟩) A.ns.length A.ns.length) ∧
    w.cell? ⟨A.nb, k * 8, none⟩ = some (.int .i64 nd.kind) ∧ w.cell? ⟨A.nb, k * 8 + 1, none⟩ = some (.int .i64 nd.a) ∧ w.cell? ⟨A.nb, k * 8 + 2, none⟩ = some (.int .i64 nd.b) ∧ w.cell? ⟨A.nb, k * 8 + 3, none⟩ = some (.int .i64 nd.c) ∧ w.cell? ⟨A.nb, k * 8 + 4, none⟩ = some (.int .i64 nd.nx) ∧ w.cell? ⟨A.nb, k * 8 + 5, none⟩ = some (.int .i64 nd.val) ∧ w.cell? ⟨A.nb, k * 8 + 6, none⟩ = some (.int .i64 nd.pos) ∧ w.cell? ⟨A.nb, k * 8 + 7, none⟩ = some (.string nd.name) ∧ nd.name.size ≤ 8 := by
  obtain ⟨hk, e⟩ := List.getElem?_eq_some_iff.1 h
  have hn : A.ns ≠ [] := fun e' => by rw [e'] at hk; cases hk
  obtain ⟨g, g1, g2⟩ := H.nds hn
  obtain ⟨f, b1, b2, b3, b4, b5⟩ := H.blk
  have c := g1.node g2 hk (by omega)
  rw [e] at c
  exact ⟨hk, g1.lt, by rw [b1.cell (by omega), b3 hn], c.1, c.2.1, c.2.2.1, c.2.2.2.1, c.2.2.2.2.1, c.2.2.2.2.2.1, c.2.2.2.2.2.2.1, c.2.2.2.2.2.2.2, H.nm nd (List.mem_of_getElem? h)⟩
theorem CM.regs (H : CM w A X cur s er po) : w.cell? ⟨A.c, 0, none⟩ = some (.pointer (some ⟨A.p, 0, none⟩)) ∧ w.cell? ⟨A.c, 161, none⟩ = some (.int .i64 (s.vs.length : Nat)) ∧ w.cell? ⟨A.c, 162, none⟩ = some (.int .i64 s.ni) ∧ w.cell? ⟨A.c, 163, none⟩ = some (.int .i64 s.nr) ∧ w.cell? ⟨A.c, 164, none⟩ = some (.int .i64 s.lvl) ∧
    w.cell? ⟨A.c, 325, none⟩ = some (.int .i64 (X.fs.length : Nat)) ∧ w.cell? ⟨A.c, 414, none⟩ = some (.int .i64 cur) ∧ w.cell? ⟨A.c, 416, none⟩ = some (.slice (some ⟨A.tb, 0, none⟩) A.ns.length A.ns.length) ∧ w.cell? ⟨A.c, 417, none⟩ = some (.slice (some ⟨A.rb, 0, none⟩) A.ns.length A.ns.length) ∧
    w.cell? ⟨A.c, 418, none⟩ = some (.int .i64 er) ∧ w.cell? ⟨A.c, 419, none⟩ = some (.int .i64 po) ∧ ∀ o, w.frozen? ⟨A.c, o, none⟩ = false := by
  obtain ⟨f, b1, b2, b3, b4, b5⟩ := H.blk
  refine ⟨by rw [b1.cell (by omega), b2.ps], ?_, by rw [b1.cell (by omega), b2.ni], by rw [b1.cell (by omega), b2.nr], by rw [b1.cell (by omega), b2.lv], ?_, by rw [b1.cell (by omega), b2.cu], by rw [b1.cell (by omega), b4], by rw [b1.cell (by omega), b5], by rw [b1.cell (by omega), b2.er], by rw [b1.cell (by omega), b2.po], b1.frozen⟩
  · rw [b1.cell (by omega)]; exact congrArg some b2.tv.n
  · rw [b1.cell (by omega)]; exact congrArg some (by have := b2.tf.n; rw [nmV_len] at this; exact this)
theorem CM.func (H : CM w A X cur s er po) {i : Nat} (hi : i < X.fs.length) : w.cell? ⟨A.c, 326 + i * 7, none⟩ = some (.int .i64 (fAt X.fs i).node) ∧ w.cell? ⟨A.c, 326 + i * 7 + 1, none⟩ = some (.int .i64 (fAt X.fs i).ret) ∧ w.cell? ⟨A.c, 326 + i * 7 + 2, none⟩ = some (.int .i64 (fAt X.fs i).pi) ∧ w.cell? ⟨A.c, 326 + i * 7 + 3, none⟩ = some (.int .i64 (fAt X.fs i).pr) ∧
    w.cell? ⟨A.c, 326 + i * 7 + 4, none⟩ = some (.int .i64 (lAt s.lim i).1) ∧ w.cell? ⟨A.c, 326 + i * 7 + 5, none⟩ = some (.int .i64 (lAt s.lim i).2) ∧ w.cell? ⟨A.c, 326 + i * 7 + 6, none⟩ = some (.string (fAt X.fs i).name) := by
  obtain ⟨f, b1, b2, _⟩ := H.blk
  have := H.xok.le
  obtain ⟨c0, c1, c2, c3, c4, c5, c6⟩ := b2.fn i hi
  exact ⟨by rw [b1.cell (by omega), c0], by rw [b1.cell (by omega), c1], by rw [b1.cell (by omega), c2], by rw [b1.cell (by omega), c3], by rw [b1.cell (by omega), c4], by rw [b1.cell (by omega), c5], by rw [b1.cell (by omega), c6]⟩
theorem CM.var (H : CM w A X cur s er po) {i : Nat} (hi : i < s.vs.length) : w.cell? ⟨A.c, 17 + i * 6, none⟩ = some (.string (vAt s.vs i).name) ∧ w.cell? ⟨A.c, 17 + i * 6 + 1, none⟩ = some (.int .i64 (vAt s.vs i).ty) ∧ w.cell? ⟨A.c, 17 + i * 6 + 2, none⟩ = some (.int .i64 (vAt s.vs i).slot) ∧ w.cell? ⟨A.c, 17 + i * 6 + 3, none⟩ = some (.int .i64 (vAt s.vs i).level) := by
  obtain ⟨f, b1, b2, _⟩ := H.blk
  have := b2.tv.le
  exact ⟨by rw [b1.cell (by omega)]; exact congrArg some (b2.tv.nm i hi), by rw [b1.cell (by omega)]; exact congrArg some (b2.tv.ty i hi), by rw [b1.cell (by omega)]; exact congrArg some (b2.tv.sl i hi), by rw [b1.cell (by omega)]; exact congrArg some (b2.tv.lv i hi)⟩
theorem CM.prm (H : CM w A X cur s er po) {i k : Nat} (hi : i < X.fs.length) (hk : k < (pAt X.pt i).length) : w.cell? ⟨A.c, 382 + (i * 4 + k), none⟩ = some (.int .i64 ((pAt X.pt i).getD k 0)) := by
  obtain ⟨f, b1, b2, _⟩ := H.blk
  have := H.xok.le
  have := (H.xok.p4 i hi).1
  rw [b1.cell (by omega), b2.pt i hi k hk]
theorem RF.congr {f f' : Nat → Value} {p : Nat} (h : RF f p X cur s er po) (hx : X.fs.length ≤ 8) (hp : ∀ i, i < X.fs.length → (pAt X.pt i).length ≤ 4) (e : ∀ k, k < 415 → f' k = f k) {er' po' : Int} (e1 : f' 418 = .int .i64 er') (e2 : f' 419 = .int .i64 po') : RF f' p X cur s er' po' := by
  refine ⟨by rw [e _ (by omega)]; exact h.ps, h.tv.congr fun k _ hk => e k (by omega), by rw [e _ (by omega)]; exact h.ni, by rw [e _ (by omega)]; exact h.nr, by rw [e _ (by omega)]; exact h.lv, h.tf.congr fun k _ hk => e k (by omega), fun i hi => ?_, fun i hi k hk => ?_, by rw [e _ (by omega)]; exact h.cu, e1, e2⟩
  · rw [e _ (by omega), e _ (by omega), e _ (by omega), e _ (by omega), e _ (by omega), e _ (by omega), e _ (by omega)]; exact h.fn i hi
  · have := hp i hi
    rw [e _ (by omega)]; exact h.pt i hi k hk
theorem CM.setErr (H : CM w A X cur s er po) (e p : Int) : CM ((w.setCell ⟨A.c, 418, none⟩ (.int .i64 e)).setCell ⟨A.c, 419, none⟩ (.int .i64 p)) A X cur s e p := by
  obtain ⟨f, b1, b2, b3, b4, b5⟩ := H.blk
  have k := ((Fr.refl (fun b => b = A.c) w).setC A.c 418 (.int .i64 e) (fun _ => rfl)).setC A.c 419 (.int .i64 p) (fun _ => rfl)
  obtain ⟨d1, d2, d3, _⟩ := H.dis
  refine ⟨⟨_, (b1.set 418 _).set 419 _, b2.congr H.xok.le (fun i hi => (H.xok.p4 i hi).1) (fun k hk => ?_) ?_ ?_, fun hn => ?_, ?_, ?_⟩, fun hn => ?_, H.tyb.frame k (fun e => d2 e.symm), H.rfb.frame k (fun e => d3 e.symm), H.tyl, H.rfl', H.dis, H.good, H.nms, H.xok, H.lim, H.le, H.nm, H.lvl, H.lm⟩
  · rw [upd_other _ _ _ _ (by omega), upd_other _ _ _ _ (by omega)]
  · rw [upd_other _ _ _ _ (by omega), upd_same]
  · rw [upd_same]
  · rw [upd_other _ _ _ _ (by omega), upd_other _ _ _ _ (by omega)]; exact b3 hn
  · rw [upd_other _ _ _ _ (by omega), upd_other _ _ _ _ (by omega)]; exact b4
  · rw [upd_other _ _ _ _ (by omega), upd_other _ _ _ _ (by omega)]; exact b5
  · obtain ⟨g, g1, g2⟩ := H.nds hn
    exact ⟨g, g1.frame k (fun e => d1 e.symm), g2⟩
theorem iL_set (l : List Int) (x : Nat) (t : Int) (o : Nat) (ho : o < l.length) : upd (iL l) x (.int .i64 t) o = iL (l.set x t) o := by
  unfold upd iL
  by_cases e : o = x
  · subst e; simp [List.getD_eq_getElem?_getD, ho]
  · simp [e, List.getD_eq_getElem?_getD, List.getElem?_set_ne (fun h => e h.symm)]
theorem RF.lists {f : Nat → Value} {p : Nat} {s' : Ck} (h : RF f p X cur s er po) (e1 : s'.vs = s.vs) (e2 : s'.ni = s.ni) (e3 : s'.nr = s.nr) (e4 : s'.lvl = s.lvl) (e5 : s'.lim = s.lim) : RF f p X cur s' er po :=
  ⟨h.ps, by rw [e1]; exact h.tv, by rw [e2]; exact h.ni, by rw [e3]; exact h.nr, by rw [e4]; exact h.lv, h.tf, by rw [e5]; exact h.fn, h.pt, h.cu, h.er, h.po⟩
theorem CM.setTy (H : CM w A X cur s er po) (x : Nat) (t : Int) : CM (w.setCell ⟨A.tb, x, none⟩ (.int .i64 t)) A X cur { s with ty := s.ty.set x t } er po := by
  obtain ⟨f, b1, b2, b3⟩ := H.blk
  have k := (Fr.refl (fun b => b = A.tb) w).setC A.tb x (.int .i64 t) (fun _ => rfl)
  obtain ⟨d1, d2, d3, d4, d5, d6⟩ := H.dis
  refine ⟨⟨f, b1.frame k d2, b2.lists rfl rfl rfl rfl rfl, b3⟩, fun hn => ?_, (H.tyb.set x _).congr fun o ho => iL_set _ _ _ _ (by rw [H.tyl]; exact ho), H.rfb.frame k (fun e => d6 e.symm), by simpa using H.tyl, H.rfl', H.dis, H.good.same rfl rfl rfl (Nat.le_refl _), H.nms, H.xok, H.lim, H.le, H.nm, H.lvl, H.lm⟩
  obtain ⟨g, g1, g2⟩ := H.nds hn
  exact ⟨g, g1.frame k d4, g2⟩
theorem CM.setRf (H : CM w A X cur s er po) (x : Nat) (t : Int) : CM (w.setCell ⟨A.rb, x, none⟩ (.int .i64 t)) A X cur { s with rf := s.rf.set x t } er po := by
  obtain ⟨f, b1, b2, b3⟩ := H.blk
  have k := (Fr.refl (fun b => b = A.rb) w).setC A.rb x (.int .i64 t) (fun _ => rfl)
  obtain ⟨d1, d2, d3, d4, d5, d6⟩ := H.dis
  refine ⟨⟨f, b1.frame k d3, b2.lists rfl rfl rfl rfl rfl, b3⟩, fun hn => ?_, H.tyb.frame k d6, (H.rfb.set x _).congr fun o ho => iL_set _ _ _ _ (by rw [H.rfl']; exact ho), H.tyl, by simpa using H.rfl', H.dis, H.good.same rfl rfl rfl (Nat.le_refl _), H.nms, H.xok, H.lim, H.le, H.nm, H.lvl, H.lm⟩
  obtain ⟨g, g1, g2⟩ := H.nds hn
  exact ⟨g, g1.frame k d5, g2⟩
end
end Go.Proofs.Qxb6500277aGreat
