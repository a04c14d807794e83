/- The fixup table; holes filled. -/
import Derived.Test.Qxb6500277aGreatGE4
namespace Go.Proofs.Qxb6500277aGreat
open Go Go.RowKit

theorem fillL_at (X Y : List Nat) (o a : Nat) : fillL (X ++ (o :: 0 :: 0 :: Y)) (X.length + 1) a = X ++ (o :: a % 256 :: a / 256 % 256 :: Y) := by
  unfold fillL
  rw [List.set_append_right _ _ (by omega), show X.length + 1 - X.length = 1 by omega, List.set_append_right _ _ (by omega), show X.length + 1 + 1 - X.length = 2 by omega]
  rfl
mutual
/-- The rows of the fixup table that an expression at address a brings. -/
def fxE (P : Pg) (a b : Nat) : Exp → List (Nat × Nat)
  | .num .. | .boo .. | .var .. | .rd .. => []
  | .un _ _ e | .new _ _ e | .len _ e => fxE P a b e
  | .bin k _ l r => fxE P a b l ++ fxE P (if k = 37 ∨ k = 38 then a + nE l + 3 else a + nE l) (b + szE l) r
  | .idx _ x i => fxE P a b x ++ fxE P (a + nE x) (b + szE x) i
  | .call _ _ gs => fxEs P a b gs ++ [(a + nEs gs + 1, rfA P (b + szEs gs))]
def fxEs (P : Pg) (a b : Nat) : Exps → List (Nat × Nat)
  | .nil => []
  | .cons e es => fxE P a b e ++ fxEs P (a + nE e) (b + szE e) es
end
mutual
def fxS (P : Pg) (a b : Nat) : Stm → List (Nat × Nat)
  | .vd _ _ _ e => fxE P a b e
  | .asg _ x c => match x with
    | .idx _ a' i' => fxE P a b a' ++ (fxE P (a + nE a') (b + szE a') i' ++ fxE P (a + nE a' + nE i') (b + (szE a' + szE i' + 1)) c)
    | x => fxE P a (b + szE x) c
  | .iff _ e _ ss => fxE P a b e ++ fxSs P (a + nE e + 3) (b + szE e) ss
  | .ife _ e _ ss _ cs => fxE P a b e ++ (fxSs P (a + nE e + 3) (b + szE e) ss ++ fxSs P (a + nE e + 3 + nSs ss + 3) (b + szE e + (szSs ss + 1)) cs)
  | .whl _ e _ ss => fxE P a b e ++ fxSs P (a + nE e + 3) (b + szE e) ss
  | .ret _ e => fxE P a b e
  | .prt _ e => fxE P a b e
  | .exp e => fxE P a b e
def fxSs (P : Pg) (a b : Nat) : Stms → List (Nat × Nat)
  | .nil => []
  | .cons x xs => fxS P a b x ++ fxSs P (a + nS x) (b + szS x) xs
end
def fills (en : Nat → Nat) (l : List (Nat × Nat)) (C : List Nat) : List Nat := l.foldl (fun C x => fillL C x.1 (en x.2)) C
theorem fills_app (en : Nat → Nat) (l m : List (Nat × Nat)) (C : List Nat) : fills en (l ++ m) C = fills en m (fills en l C) := by unfold fills; rw [List.foldl_append]
theorem fills_nil (en : Nat → Nat) (C : List Nat) : fills en [] C = C := rfl
/-- The holes' rows l turn the code c into d, whatever lies around it. -/
def Fx (en : Nat → Nat) (a : Nat) (l : List (Nat × Nat)) (c d : List Nat) : Prop := ∀ X Y : List Nat, X.length = a → fills en l (X ++ (c ++ Y)) = X ++ (d ++ Y)
theorem Fx.nil {en : Nat → Nat} {a : Nat} (c : List Nat) : Fx en a [] c c := fun _ _ _ => rfl
theorem Fx.app {en : Nat → Nat} {a a' : Nat} {l m : List (Nat × Nat)} {c c' d d' : List Nat} (h : Fx en a l c d) (hl : d.length = c.length) (k : Fx en a' m c' d') (ha : a' = a + c.length) : Fx en a (l ++ m) (c ++ c') (d ++ d') := fun X Y hX => by
  rw [fills_app, List.append_assoc, h X _ hX, ← List.append_assoc X, k (X ++ d) Y (by rw [List.length_append]; omega)]
  simp
theorem Fx.pre {en : Nat → Nat} {a a' : Nat} {m : List (Nat × Nat)} {c' d' : List Nat} (c : List Nat) (k : Fx en a' m c' d') (ha : a' = a + c.length) : Fx en a m (c ++ c') (c ++ d') := (Fx.nil c).app rfl k ha
theorem Fx.suf {en : Nat → Nat} {a : Nat} {l : List (Nat × Nat)} {c d : List Nat} (c' : List Nat) (h : Fx en a l c d) (hl : d.length = c.length) : Fx en a l (c ++ c') (d ++ c') := by
  have := h.app hl (Fx.nil c') rfl
  rwa [List.append_nil] at this
theorem Fx.call {en : Nat → Nat} {a f : Nat} : Fx en a [(a + 1, f)] (24 :: u16b 0) (24 :: u16b (en f)) := fun X Y hX => by
  subst hX
  show fillL (X ++ (24 :: 0 :: 0 :: Y)) (X.length + 1) (en f) = _
  rw [fillL_at]
  rfl
mutual
theorem fx_E (P : Pg) (en : Nat → Nat) : (e : Exp) → ∀ (a b : Nat), Fx en a (fxE P a b e) (cE P (fun _ => 0) a b e) (cE P en a b e)
  | .num .. | .boo .. | .var .. | .rd .. => fun _ _ => Fx.nil _
  | .un k _ e => fun a b => by simp only [fxE, cE]; exact (fx_E P en e a b).suf _ (by rw [cE_len, cE_len])
  | .new _ _ e => fun a b => by simp only [fxE, cE]; exact (fx_E P en e a b).suf _ (by rw [cE_len, cE_len])
  | .len _ e => fun a b => by simp only [fxE, cE]; exact (fx_E P en e a b).suf _ (by rw [cE_len, cE_len])
  | .bin k _ l r => fun a b => by
    simp only [fxE, cE]
    by_cases h : k = 37 ∨ k = 38
    · simp only [if_pos h]
      refine (fx_E P en l a b).app (by rw [cE_len, cE_len]) (a' := a + nE l) ?_ (by rw [cE_len])
      have := ((fx_E P en r (a + nE l + 3) (b + szE l)).suf (21 :: (u16b (a + nE l + 3 + nE r + 3 + 9) ++ (0 :: i64b (if k = 37 then 0 else 1)))) (by rw [cE_len, cE_len])).pre (a := a + nE l) ((if k = 37 then 22 else 23) :: u16b (a + nE l + 3 + nE r + 3)) rfl
      simpa only [List.cons_append] using this
    · simp only [if_neg h]
      exact (fx_E P en l a b).app (by rw [cE_len, cE_len]) ((fx_E P en r (a + nE l) (b + szE l)).suf _ (by rw [cE_len, cE_len])) (by rw [cE_len])
  | .idx _ x i => fun a b => by
    simp only [fxE, cE]
    exact (fx_E P en x a b).app (by rw [cE_len, cE_len]) ((fx_E P en i (a + nE x) (b + szE x)).suf _ (by rw [cE_len, cE_len])) (by rw [cE_len])
  | .call _ _ gs => fun a b => by
    simp only [fxE, cE]
    exact (fx_Es P en gs a b).app (by rw [cEs_len, cEs_len]) (a' := a + nEs gs) Fx.call (by rw [cEs_len])
theorem fx_Es (P : Pg) (en : Nat → Nat) : (es : Exps) → ∀ (a b : Nat), Fx en a (fxEs P a b es) (cEs P (fun _ => 0) a b es) (cEs P en a b es)
  | .nil => fun _ _ => Fx.nil _
  | .cons e es => fun a b => by
    simp only [fxEs, cEs]
    exact (fx_E P en e a b).app (by rw [cE_len, cE_len]) (fx_Es P en es (a + nE e) (b + szE e)) (by rw [cE_len])
end
mutual
theorem fx_S (P : Pg) (en : Nat → Nat) : (x : Stm) → ∀ (a b : Nat), Fx en a (fxS P a b x) (cS P (fun _ => 0) a b x) (cS P en a b x)
  | .vd _ _ _ e => fun a b => by simp only [fxS, cS]; exact (fx_E P en e a b).suf _ (by rw [cE_len, cE_len])
  | .ret _ e => fun a b => by simp only [fxS, cS]; exact (fx_E P en e a b).suf _ (by rw [cE_len, cE_len])
  | .prt _ e => fun a b => by simp only [fxS, cS]; exact (fx_E P en e a b).suf _ (by rw [cE_len, cE_len])
  | .exp e => fun a b => by simp only [fxS, cS]; exact (fx_E P en e a b).suf _ (by rw [cE_len, cE_len])
  | .asg _ x c => fun a b => by
    cases x
    case idx _ a' i' =>
      simp only [fxS, cS]
      exact (fx_E P en a' a b).app (by rw [cE_len, cE_len]) ((fx_E P en i' (a + nE a') (b + szE a')).app (by rw [cE_len, cE_len]) ((fx_E P en c (a + nE a' + nE i') (b + (szE a' + szE i' + 1))).suf _ (by rw [cE_len, cE_len])) (by rw [cE_len])) (by rw [cE_len])
    all_goals (simp only [fxS, cS]; exact (fx_E P en c a _).suf _ (by rw [cE_len, cE_len]))
  | .iff _ e _ ss => fun a b => by
    simp only [fxS, cS]
    refine (fx_E P en e a b).app (by rw [cE_len, cE_len]) (a' := a + nE e) ?_ (by rw [cE_len])
    have := (fx_Ss P en ss (a + nE e + 3) (b + szE e)).pre (a := a + nE e) (22 :: u16b (a + nE e + 3 + nSs ss)) rfl
    simpa only [List.cons_append] using this
  | .ife _ e _ ss _ cs => fun a b => by
    simp only [fxS, cS]
    refine (fx_E P en e a b).app (by rw [cE_len, cE_len]) (a' := a + nE e) ?_ (by rw [cE_len])
    have h2 := (fx_Ss P en cs (a + nE e + 3 + nSs ss + 3) (b + szE e + (szSs ss + 1))).pre (a := a + nE e + 3 + nSs ss) (21 :: u16b (a + nE e + 3 + nSs ss + 3 + nSs cs)) rfl
    have := ((fx_Ss P en ss (a + nE e + 3) (b + szE e)).app (by rw [cSs_len, cSs_len]) h2 (by rw [cSs_len])).pre (a := a + nE e) (22 :: u16b (a + nE e + 3 + nSs ss + 3)) rfl
    simpa only [List.cons_append] using this
  | .whl _ e _ ss => fun a b => by
    simp only [fxS, cS]
    refine (fx_E P en e a b).app (by rw [cE_len, cE_len]) (a' := a + nE e) ?_ (by rw [cE_len])
    have := ((fx_Ss P en ss (a + nE e + 3) (b + szE e)).suf (21 :: u16b a) (by rw [cSs_len, cSs_len])).pre (a := a + nE e) (22 :: u16b (a + nE e + 3 + nSs ss + 3)) rfl
    simpa only [List.cons_append] using this
theorem fx_Ss (P : Pg) (en : Nat → Nat) : (xs : Stms) → ∀ (a b : Nat), Fx en a (fxSs P a b xs) (cSs P (fun _ => 0) a b xs) (cSs P en a b xs)
  | .nil => fun _ _ => Fx.nil _
  | .cons x xs => fun a b => by
    simp only [fxSs, cSs]
    exact (fx_S P en x a b).app (by rw [cS_len, cS_len]) (fx_Ss P en xs (a + nS x) (b + szS x)) (by rw [cS_len])
end
theorem fx_F (P : Pg) (en : Nat → Nat) (a : Nat) (F : Fi) : Fx en a (fxSs P (a + 5) F.bb F.ss) (cF P (fun _ => 0) a F) (cF P en a F) := by
  unfold cF
  exact ((fx_Ss P en F.ss (a + 5) F.bb).suf _ (by rw [cSs_len, cSs_len])).pre _ rfl
/-- The rows of all functions, in the order of the code. -/
def fxL (P : Pg) : List Nat → Nat → List (Nat × Nat)
  | [], _ => []
  | j :: l, a => fxSs P (a + 5) (fiA P j).bb (fiA P j).ss ++ fxL P l (a + nF (fiA P j))
theorem fx_L (P : Pg) (en : Nat → Nat) : ∀ (l : List Nat) (a : Nat), Fx en a (fxL P l a) (cdL P (fun _ => 0) l a) (cdL P en l a)
  | [], _ => Fx.nil _
  | j :: l, a => by
    simp only [fxL, cdL]
    exact (fx_F P en a (fiA P j)).app (by rw [cF_len, cF_len]) (fx_L P en l (a + nF (fiA P j))) (by rw [cF_len])
/-- The whole code out of its holes. -/
theorem fills_all (P : Pg) (m : Nat) : fills (enP P m) (fxL P (ordL P.fns.length m) 0) (cdL P (fun _ => 0) (ordL P.fns.length m) 0) = codeP P m := by
  have := fx_L P (enP P m) (ordL P.fns.length m) 0 [] [] rfl
  simpa [codeP] using this
end Go.Proofs.Qxb6500277aGreat
