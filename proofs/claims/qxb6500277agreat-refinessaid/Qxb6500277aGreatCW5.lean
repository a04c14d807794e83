/- The real checker in memory: its state turned; what the walkers answer. -/
import Derived.Test.Qxb6500277aGreatCW3
import Derived.Test.Qxb6500277aGreatCK5
namespace Go.Proofs.Qxb6500277aGreat
open Go Go.RowKit

section
variable {w w' : World} {A : Ca} {X : Cx} {cur : Nat} {s : Ck} {er po : Int} {S : Nat → Prop}
theorem RF.turn {f f' : Nat → Value} {p cur' : Nat} {s' : Ck} {er' po' : Int} (h : RF f p X cur s er po) (hx : X.fs.length ≤ 8) (hp : ∀ i, i < X.fs.length → (pAt X.pt i).length ≤ 4) (h0 : f' 0 = f 0) (T : Tab f' 1 s'.vs) (e1 : f' 162 = .int .i64 s'.ni) (e2 : f' 163 = .int .i64 s'.nr) (e3 : f' 164 = .int .i64 s'.lvl) (e4 : f' 414 = .int .i64 cur') (e5 : f' 418 = .int .i64 er') (e6 : f' 419 = .int .i64 po')
    (el : ∀ i, i < X.fs.length → f' (326 + i * 7 + 4) = .int .i64 (lAt s'.lim i).1 ∧ f' (326 + i * 7 + 5) = .int .i64 (lAt s'.lim i).2) (hs : ∀ k, 165 ≤ k → k < 414 → (∀ i, i < 8 → k ≠ 326 + i * 7 + 4 ∧ k ≠ 326 + i * 7 + 5) → f' k = f k) : RF f' p X cur' s' er' po' := by
  refine ⟨by rw [h0]; exact h.ps, T, e1, e2, e3, h.tf.congr fun k k1 k2 => hs k k1 (by omega) (fun i hi => by omega), fun i hi => ?_, fun i hi k hk => ?_, e4, e5, e6⟩
  · obtain ⟨c0, c1, c2, c3, c4, c5, c6⟩ := h.fn i hi
    rw [hs (326 + i * 7) (by omega) (by omega) (fun j hj => by omega), hs (326 + i * 7 + 1) (by omega) (by omega) (fun j hj => by omega), hs (326 + i * 7 + 2) (by omega) (by omega) (fun j hj => by omega), hs (326 + i * 7 + 3) (by omega) (by omega) (fun j hj => by omega), hs (326 + i * 7 + 6) (by omega) (by omega) (fun j hj => by omega)]
    exact ⟨c0, c1, c2, c3, (el i hi).1, (el i hi).2, c6⟩
  · have := hp i hi
    rw [hs (382 + (i * 4 + k)) (by omega) (by omega) (fun j hj => by omega)]
    exact h.pt i hi k hk
theorem CM.turn {f' : Nat → Value} {X' : Cx} {cur' : Nat} {s' : Ck} {er' po' : Int} (H : CM w A X cur s er po) (k : Fr (fun b => b = A.c) w w') (b : Blk w' A.c 420 f') (R : RF f' A.p X' cur' s' er' po') (t1 : A.ns ≠ [] → f' 415 = .slice (some ⟨A.nb, 0, none⟩) A.ns.length A.ns.length) (t2 : f' 416 = .slice (some ⟨A.tb, 0, none⟩) A.ns.length A.ns.length) (t3 : f' 417 = .slice (some ⟨A.rb, 0, none⟩) A.ns.length A.ns.length)
    (ety : s'.ty = s.ty) (erf : s'.rf = s.rf) (g : Good s') (nms : ∀ i, i < s'.vs.length → (vAt s'.vs i).name.size ≤ 8) (xok : XOk X' A.ns) (lim : s'.lim.length = X'.fs.length) (lvl : s'.lvl ≤ 4000) (lm : ∀ i, (lAt s'.lim i).1 ≤ 12 ∧ (lAt s'.lim i).2 ≤ 12) : CM w' A X' cur' s' er' po' := by
  obtain ⟨d1, d2, d3, _⟩ := H.dis
  refine ⟨⟨f', b, R, t1, t2, t3⟩, fun hn => ?_, by rw [ety]; exact H.tyb.frame k (fun e => d2 e.symm), by rw [erf]; exact H.rfb.frame k (fun e => d3 e.symm), by rw [ety]; exact H.tyl, by rw [erf]; exact H.rfl', H.dis, g, nms, xok, lim, H.le, H.nm, lvl, lm⟩
  obtain ⟨q, g1, g2⟩ := H.nds hn
  exact ⟨q, g1.frame k (fun e => d1 e.symm), g2⟩
/-- What expr answers. -/
def EP (w : World) (A : Ca) (X : Cx) (cur : Nat) (r : Rc Int) (e : Ending) (w' : World) : Prop := Fr (CS A) w w' ∧ match r with
  | .ok t s' => e = .returned (.int .i64 t) ∧ CM w' A X cur s' 0 0
  | .bad er po => e = .returned (.int .i64 (-1)) ∧ er ≠ 0 ∧ ∃ s', CM w' A X cur s' er po
/-- What a walker with a yes or a no answers. -/
def CB (w : World) (A : Ca) (X : Cx) (cur : Nat) (r : Rc Unit) (e : Ending) (w' : World) : Prop := Fr (CS A) w w' ∧ match r with
  | .ok _ s' => e = .returned (.bool true) ∧ CM w' A X cur s' 0 0
  | .bad er po => e = .returned (.bool false) ∧ er ≠ 0 ∧ ∃ s', CM w' A X cur s' er po
theorem EP.pre {w0 : World} {r : Rc Int} {e : Ending} (k : Fr (CS A) w0 w) (h : EP w A X cur r e w') : EP w0 A X cur r e w' := ⟨k.trans h.1 (fun _ _ h => h), h.2⟩
theorem CB.pre {w0 : World} {r : Rc Unit} {e : Ending} (k : Fr (CS A) w0 w) (h : CB w A X cur r e w') : CB w0 A X cur r e w' := ⟨k.trans h.1 (fun _ _ h => h), h.2⟩
theorem CM.vt (H : CM w A X cur s er po) : VT X s := ⟨fun i => H.good.vt i, H.xok.rt⟩
end
end Go.Proofs.Qxb6500277aGreat
