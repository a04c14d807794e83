/- The real checker: a new function's head in memory. -/
import Derived.Test.Qxb6500277aGreatCB1
namespace Go.Proofs.Qxb6500277aGreat
open Go Go.RowKit

section
variable {w w' : World} {A : Ca} {X : Cx} {cur : Nat} {s : Ck} {er po : Int} {n : Nat}
theorem lAt_app {a b : List (Nat × Nat)} {i : Nat} (h : i < a.length) : lAt (a ++ b) i = lAt a i := by
  unfold lAt; simp [List.getD_eq_getElem?_getD, List.getElem?_append_left h]
theorem lAt_last (a : List (Nat × Nat)) (v : Nat × Nat) : lAt (a ++ [v]) a.length = v := by
  unfold lAt; simp [List.getD_eq_getElem?_getD]
/-- The parameters' types of the function at hand, as far as they are noted. -/
def RowP' (w : World) (c n : Nat) (l : List Int) : Prop := ∀ k, k < l.length → w.cell? ⟨c, 382 + (n * 4 + k), none⟩ = some (.int .i64 (l.getD k 0))
theorem CM.setPt (H : CM w A X cur s 0 0) (hx : X.fs.length < 8) {o : Nat} (h1 : 382 + X.fs.length * 4 ≤ o) (h2 : o < 414) (t : Int) : CM (w.setCell ⟨A.c, o, none⟩ (.int .i64 t)) A X cur s 0 0 ∧ Fr (CS A) w (w.setCell ⟨A.c, o, none⟩ (.int .i64 t)) := by
  obtain ⟨f, b1, b2, b3, b4, b5⟩ := H.blk
  have F := (Fr.refl (fun b => b = A.c) w).setC A.c o (.int .i64 t) (fun _ => rfl)
  have far : ∀ k, k ≠ o → upd f o (.int .i64 t) k = f k := fun k h => upd_other _ _ _ _ h
  have p4 := fun i hi => (H.xok.p4 i hi).1
  refine ⟨CM.turn H F (b1.set o _) ⟨by rw [far _ (by omega)]; exact b2.ps, b2.tv.congr (fun k _ h => far k (by omega)), by rw [far _ (by omega)]; exact b2.ni, by rw [far _ (by omega)]; exact b2.nr, by rw [far _ (by omega)]; exact b2.lv, b2.tf.congr (fun k _ h => far k (by omega)), fun i hi => ?_, fun i hi k hk => ?_, by rw [far _ (by omega)]; exact b2.cu, by rw [far _ (by omega)]; exact b2.er, by rw [far _ (by omega)]; exact b2.po⟩ (fun hn => ?_) ?_ ?_ rfl rfl H.good H.nms H.xok H.lim H.lvl H.lm, F.mono (fun _ _ h => .inl h)⟩
  · rw [far _ (by omega), far _ (by omega), far _ (by omega), far _ (by omega), far _ (by omega), far _ (by omega), far _ (by omega)]
    exact b2.fn i hi
  · have := p4 i hi
    rw [far _ (by omega)]
    exact b2.pt i hi k hk
  · rw [far 415 (by omega)]; exact b3 hn
  · rw [far 416 (by omega)]; exact b4
  · rw [far 417 (by omega)]; exact b5
/-- One more function. -/
theorem CM.addF {w2 : World} {f f1 f2 : Nat → Value} {h0 : Fh} {l : List Int} (H : CM w A X cur s 0 0) (hx : X.fs.length < 8) (b2 : RF f A.p X cur s 0 0) (b3 : A.ns ≠ [] → f 415 = .slice (some ⟨A.nb, 0, none⟩) A.ns.length A.ns.length) (b4 : f 416 = .slice (some ⟨A.tb, 0, none⟩) A.ns.length A.ns.length) (b5 : f 417 = .slice (some ⟨A.rb, 0, none⟩) A.ns.length A.ns.length)
    (g0 : f1 (326 + X.fs.length * 7) = .int .i64 h0.node) (g1 : f1 (326 + X.fs.length * 7 + 1) = .int .i64 h0.ret) (g2 : f1 (326 + X.fs.length * 7 + 2) = .int .i64 h0.pi) (g3 : f1 (326 + X.fs.length * 7 + 3) = .int .i64 h0.pr) (g4 : f1 (326 + X.fs.length * 7 + 4) = .int .i64 (0 : Nat)) (g5 : f1 (326 + X.fs.length * 7 + 5) = .int .i64 (0 : Nat)) (g6 : f1 (326 + X.fs.length * 7 + 6) = .string h0.name)
    (e1 : ∀ k, k < 326 + X.fs.length * 7 ∨ 326 + X.fs.length * 7 + 7 ≤ k → f1 k = f k)
    (T2 : Tab f2 165 (nmV X.fs ++ [⟨h0.name, 0, 0, 0⟩])) (e2 : ∀ k, k < 165 ∨ 165 + 161 ≤ k → f2 k = f1 k) (hrow : ∀ k, k < l.length → f (382 + (X.fs.length * 4 + k)) = .int .i64 (l.getD k 0))
    (F2 : Fr (fun b => b = A.c) w w2) (B2 : Blk w2 A.c 420 f2) (hX : XOk ⟨X.fs ++ [h0], X.pt ++ [l]⟩ A.ns) (hpl : X.pt.length = X.fs.length) (hl4 : l.length ≤ 4) : CM w2 A ⟨X.fs ++ [h0], X.pt ++ [l]⟩ cur { s with lim := s.lim ++ [(0, 0)] } 0 0 := by
  have p4 := fun i hi => (H.xok.p4 i hi).1
  have hlim := H.lim
  have far : ∀ k, 326 + X.fs.length * 7 + 7 ≤ k ∨ (326 ≤ k ∧ k < 326 + X.fs.length * 7) ∨ k < 165 → f2 k = f k := fun k h => by rw [e2 k (by omega), e1 k (by omega)]
  have key : ∀ (P : Nat → Prop), (∀ i, i < X.fs.length → P i) → P X.fs.length → ∀ i, i < (X.fs ++ [h0]).length → P i := fun P p1 p2 i hi => by
    simp only [List.length_append, List.length_singleton] at hi
    by_cases e : i < X.fs.length
    · exact p1 i e
    · obtain rfl : i = X.fs.length := by omega
      exact p2
  refine CM.turn H F2 B2 ⟨by rw [far _ (by omega)]; exact b2.ps, b2.tv.congr (fun k _ h => far k (by omega)), ?_, ?_, ?_, by rw [nmV_app]; exact T2, ?_, ?_, by rw [far _ (by omega)]; exact b2.cu, by rw [far _ (by omega)]; exact b2.er, by rw [far _ (by omega)]; exact b2.po⟩ (fun hn => ?_) ?_ ?_ rfl rfl (H.good.same rfl rfl rfl (Nat.le_refl _)) H.nms hX (by simp [hlim]) H.lvl (fun i => ?_)
  · rw [far _ (by omega)]; exact b2.ni
  · rw [far _ (by omega)]; exact b2.nr
  · rw [far _ (by omega)]; exact b2.lv
  · refine key _ (fun i hi => ?_) ?_
    · rw [far _ (by omega), far _ (by omega), far _ (by omega), far _ (by omega), far _ (by omega), far _ (by omega), far _ (by omega), fAt_app hi, lAt_app (by rw [hlim]; exact hi)]
      exact b2.fn i hi
    · rw [fAt_last, ← hlim, lAt_last, hlim, e2 _ (by omega), e2 _ (by omega), e2 _ (by omega), e2 _ (by omega), e2 _ (by omega), e2 _ (by omega), e2 _ (by omega)]
      exact ⟨g0, g1, g2, g3, g4, g5, g6⟩
  · refine key (fun i => ∀ k, k < (pAt (X.pt ++ [l]) i).length → f2 (382 + (i * 4 + k)) = .int .i64 ((pAt (X.pt ++ [l]) i).getD k 0)) (fun i hi k hk => ?_) (fun k hk => ?_)
    · rw [pAt_app (by rw [hpl]; exact hi)] at hk ⊢
      have := p4 i hi
      rw [far _ (by omega)]
      exact b2.pt i hi k hk
    · rw [← hpl, pAt_last] at hk
      rw [← hpl, pAt_last, hpl, far _ (by omega)]
      exact hrow k hk
  · rw [far 415 (by omega)]; exact b3 hn
  · rw [far 416 (by omega)]; exact b4
  · rw [far 417 (by omega)]; exact b5
  · by_cases hi : i < s.lim.length
    · show (lAt (s.lim ++ [(0, 0)]) i).1 ≤ 12 ∧ (lAt (s.lim ++ [(0, 0)]) i).2 ≤ 12
      rw [lAt_app hi]; exact H.lm i
    · show (lAt (s.lim ++ [(0, 0)]) i).1 ≤ 12 ∧ (lAt (s.lim ++ [(0, 0)]) i).2 ≤ 12
      by_cases e : i = s.lim.length
      · subst e; rw [lAt_last]; simp
      · unfold lAt
        simp [List.getD_eq_getElem?_getD, List.getElem?_eq_none (show (s.lim ++ [(0, 0)]).length ≤ i by simp; omega)]
/-- What the walk over the heads answers. -/
def CH (w : World) (A : Ca) (s : Ck) (r : Rh) (e : Ending) (w' : World) : Prop := Fr (CS A) w w' ∧ match r with
  | .ok X => e = .returned (.bool true) ∧ CM w' A X 0 { s with lim := List.replicate X.fs.length (0, 0) } 0 0
  | .bad er po => e = .returned (.bool false) ∧ er ≠ 0 ∧ ∃ X s', CM w' A X 0 s' er po
theorem CH.bad {r : Rh} {e p : Int} (hr : r = .bad e p) (k : Fr (CS A) w w') (h0 : e ≠ 0) {s' : Ck} (C : CM w' A X 0 s' e p) : CH w A s r (.returned (.bool false)) w' := ⟨k, by rw [hr]; exact ⟨rfl, h0, X, s', C⟩⟩
theorem CH.ok {r : Rh} (hr : r = .ok X) (k : Fr (CS A) w w') (C : CM w' A X 0 { s with lim := List.replicate X.fs.length (0, 0) } 0 0) : CH w A s r (.returned (.bool true)) w' := ⟨k, by rw [hr]; exact ⟨rfl, C⟩⟩
/-- The head at hand, in its own box. -/
def fBox (nd rt : Int) (pi pr : Nat) (nm : ByteArray) (o : Nat) : Value := match o with | 0 => .int .i64 nd | 1 => .int .i64 rt | 2 => .int .i64 pi | 3 => .int .i64 pr | 4 => .int .i64 0 | 5 => .int .i64 0 | _ => .string nm
theorem lt7c {o : Nat} (h : o < 7) : o = 0 ∨ o = 1 ∨ o = 2 ∨ o = 3 ∨ o = 4 ∨ o = 5 ∨ o = 6 := by omega
theorem fBox_pi (nd rt : Int) (pi pr : Nat) (nm : ByteArray) (o : Nat) (ho : o < 7) : upd (fBox nd rt pi pr nm) 2 (.int .i64 ((pi : Int) + 1)) o = fBox nd rt (pi + 1) pr nm o := by
  rcases lt7c ho with rfl | rfl | rfl | rfl | rfl | rfl | rfl <;> simp [upd, fBox]
theorem fBox_pr (nd rt : Int) (pi pr : Nat) (nm : ByteArray) (o : Nat) (ho : o < 7) : upd (fBox nd rt pi pr nm) 3 (.int .i64 ((pr : Int) + 1)) o = fBox nd rt pi (pr + 1) nm o := by
  rcases lt7c ho with rfl | rfl | rfl | rfl | rfl | rfl | rfl <;> simp [upd, fBox]
theorem Blk.set7 {c n : Nat} {f : Nat → Value} (B : Blk w c n f) (k : Nat) (a0 a1 a2 a3 a4 a5 a6 : Value) : ∃ f', Blk (((((((w.setCell ⟨c, k, none⟩ a0).setCell ⟨c, k + 1, none⟩ a1).setCell ⟨c, k + 2, none⟩ a2).setCell ⟨c, k + 3, none⟩ a3).setCell ⟨c, k + 4, none⟩ a4).setCell ⟨c, k + 5, none⟩ a5).setCell ⟨c, k + 6, none⟩ a6) c n f' ∧ f' k = a0 ∧ f' (k + 1) = a1 ∧ f' (k + 2) = a2 ∧ f' (k + 3) = a3 ∧ f' (k + 4) = a4 ∧ f' (k + 5) = a5 ∧ f' (k + 6) = a6 ∧ ∀ j, j < k ∨ k + 7 ≤ j → f' j = f j := by
  refine ⟨_, ((((((B.set k a0).set (k + 1) a1).set (k + 2) a2).set (k + 3) a3).set (k + 4) a4).set (k + 5) a5).set (k + 6) a6, ?_, ?_, ?_, ?_, ?_, ?_, ?_, fun j hj => ?_⟩
  all_goals simp only [upd, if_true]
  all_goals repeat (rw [if_neg (by omega)])
theorem Fr.set7 {S : Nat → Prop} {a : World} {c : Nat} (h : Fr S a w) (hc : S c) (k : Nat) (a0 a1 a2 a3 a4 a5 a6 : Value) : Fr S a (((((((w.setCell ⟨c, k, none⟩ a0).setCell ⟨c, k + 1, none⟩ a1).setCell ⟨c, k + 2, none⟩ a2).setCell ⟨c, k + 3, none⟩ a3).setCell ⟨c, k + 4, none⟩ a4).setCell ⟨c, k + 5, none⟩ a5).setCell ⟨c, k + 6, none⟩ a6) :=
  ((((((h.setC c k a0 (fun _ => hc)).setC c (k + 1) a1 (fun _ => hc)).setC c (k + 2) a2 (fun _ => hc)).setC c (k + 3) a3 (fun _ => hc)).setC c (k + 4) a4 (fun _ => hc)).setC c (k + 5) a5 (fun _ => hc)).setC c (k + 6) a6 (fun _ => hc)
end
end Go.Proofs.Qxb6500277aGreat
