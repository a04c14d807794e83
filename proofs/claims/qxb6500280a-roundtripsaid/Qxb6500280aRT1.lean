/- The round trip, plain: what is printed, as tokens. -/
import Derived.Test.Qxb6500280aPT4
namespace Go.Proofs.Qxb6500280a
open Go Go.RowKit

/-- A node, a token without its place. -/
def zN (x : Nd) : Nd := { x with pos := 0 }
def zT (t : Tok) : Tok := { t with pos := 0 }
def tK (k : Int) : Tok := ⟨k, 0, 0, ⟨#[]⟩⟩
def tI (s : ByteArray) : Tok := ⟨1, 0, 0, s⟩
def tV (v : Int) : Tok := ⟨2, 0, v, ⟨#[]⟩⟩
/-- From i on, T reads l, and goes on. -/
def Mx (T : List Tok) : Nat → List Tok → Prop
  | i, [] => i < T.length
  | i, t :: l => i + 1 < T.length ∧ zT (tk T i) = t ∧ Mx T (i + 1) l
section
variable {T : List Tok}
theorem Mx.lt : ∀ {l : List Tok} {i : Nat}, Mx T i l → i < T.length
  | [], _, h => h
  | _ :: _, _, h => by have := h.1; omega
theorem Mx.app : ∀ {a b : List Tok} {i : Nat}, Mx T i (a ++ b) → Mx T i a ∧ Mx T (i + a.length) b
  | [], b, i, h => ⟨Mx.lt (l := b) h, by simpa using h⟩
  | t :: a, b, i, h => by
    obtain ⟨h1, h2, h3⟩ := h
    obtain ⟨h4, h5⟩ := Mx.app (a := a) h3
    exact ⟨⟨h1, h2, h4⟩, by simp only [List.length_cons]; rw [show i + (a.length + 1) = i + 1 + a.length by omega]; exact h5⟩
theorem Mx.hd {t : Tok} {l : List Tok} {i : Nat} (h : Mx T i (t :: l)) : kd T i = t.kind ∧ (tk T i).val = t.val ∧ (tk T i).text = t.text ∧ stp T i = i + 1 ∧ Mx T (i + 1) l := by
  obtain ⟨h1, h2, h3⟩ := h
  subst h2
  exact ⟨rfl, rfl, rfl, by unfold stp; rw [if_pos h1], h3⟩
end
/-- The two lists of nodes are the same but for the places. -/
def Zq (a b : List Nd) : Prop := a.map zN = b.map zN
theorem Zq.refl (a : List Nd) : Zq a a := rfl
theorem Zq.symm {a b : List Nd} (h : Zq a b) : Zq b a := Eq.symm h
theorem Zq.trans {a b c : List Nd} (h : Zq a b) (h' : Zq b c) : Zq a c := Eq.trans h h'
theorem Zq.len {a b : List Nd} (h : Zq a b) : a.length = b.length := by have := congrArg List.length h; simpa using this
theorem Zq.app {a b c d : List Nd} (h : Zq a b) (h' : Zq c d) : Zq (a ++ c) (b ++ d) := by unfold Zq at *; rw [List.map_append, List.map_append, h, h']
theorem Zq.get {a b : List Nd} (h : Zq a b) (i : Nat) : zN (a[i]?.getD nd0) = zN (b[i]?.getD nd0) := by
  have h1 : (a.map zN)[i]? = (b.map zN)[i]? := by rw [show a.map zN = b.map zN from h]
  rw [List.getElem?_map, List.getElem?_map] at h1
  cases ha : a[i]? with
  | none =>
    cases hb : b[i]? with
    | none => rfl
    | some y => rw [ha, hb] at h1; cases h1
  | some x =>
    cases hb : b[i]? with
    | none => rw [ha, hb] at h1; cases h1
    | some y => rw [ha, hb] at h1; simpa using h1
theorem Zq.kind {a b : List Nd} (h : Zq a b) (i : Nat) : (a[i]?.getD nd0).kind = (b[i]?.getD nd0).kind := by
  have := congrArg Nd.kind (h.get i)
  exact this
theorem zN_set (a : List Nd) (k : Nat) (x : Int) : (setNx a k x).map zN = (a.map zN).set k { zN (a[k]?.getD nd0) with nx := x } := by
  unfold setNx
  rw [List.map_set]
  rfl
theorem Zq.set {a b : List Nd} (h : Zq a b) (k : Nat) (x : Int) : Zq (setNx a k x) (setNx b k x) := by
  unfold Zq
  rw [zN_set, zN_set, h.get k, show a.map zN = b.map zN from h]
theorem Zq.one {x y : Nd} (h : zN x = zN y) : Zq [x] [y] := by unfold Zq; simp [h]
/-- The type's tokens. -/
def tyT (t : Int) : List Tok :=
  if t = 0 then [tK 15] else if t = 1 then [tK 16]
  else if t = 2 then [tK 21, tK 15, tK 22] else if t = 3 then [tK 21, tK 16, tK 22]
  else if t = 4 then [tK 21, tK 21, tK 15, tK 22, tK 22] else if t = 5 then [tK 21, tK 21, tK 16, tK 22, tK 22]
  else if t = 6 then [tK 21, tK 21, tK 21, tK 15, tK 22, tK 22, tK 22] else [tK 21, tK 21, tK 21, tK 16, tK 22, tK 22, tK 22]
theorem typ_at {T : List Tok} {t : Int} {i : Nat} {f : Int → Nat → Mo} (ht : 0 ≤ t ∧ t < 8) (h : Mx T i (tyT t)) : typ T i f = f t (i + (tyT t).length) := by
  rcases (show t = 0 ∨ t = 1 ∨ t = 2 ∨ t = 3 ∨ t = 4 ∨ t = 5 ∨ t = 6 ∨ t = 7 by omega) with rfl | rfl | rfl | rfl | rfl | rfl | rfl | rfl
  all_goals
    simp only [tyT, ↓reduceIte, Int.reduceEq] at h ⊢
    repeat (obtain ⟨k1, _, _, s1, h⟩ := Mx.hd h; simp only [tK] at k1)
    simp [typ, tyO, tyC, wnt, *]
/-- Brackets where the level wants them. -/
def br (lv : Nat) (e : Exp) (l : List Tok) : List Tok := if pwE e < lv then tK 17 :: (l ++ [tK 18]) else l
mutual
def tB : Exp → List Tok
  | .num v _ => [tV v]
  | .boo v _ => [tK (if v = 0 then 11 else 10)]
  | .var s _ => [tI s]
  | .rd _ => [tK 14, tK 17, tK 18]
  | .call s _ gs => tI s :: tK 17 :: (tEs gs ++ [tK 18])
  | .idx _ a b => br 7 a (tB a) ++ (tK 21 :: (tB b ++ [tK 22]))
  | .new t _ e => tK 12 :: (tyT t ++ (tK 17 :: (tB e ++ [tK 18])))
  | .len _ e => tK 13 :: tK 17 :: (tB e ++ [tK 18])
  | .un k _ e => tK k :: br 6 e (tB e)
  | .bin k _ l r => br (pow k) l (tB l) ++ (tK k :: br (pow k + 1) r (tB r))
def tEs : Exps → List Tok
  | .nil => []
  | .cons e es => tB e ++ tEr es
def tEr : Exps → List Tok
  | .nil => []
  | .cons e es => tK 23 :: (tB e ++ tEr es)
end
def tE (lv : Nat) (e : Exp) : List Tok := br lv e (tB e)
/-- What an expression begins with. -/
def Bg (k : Int) : Prop := k = 1 ∨ k = 2 ∨ k = 10 ∨ k = 11 ∨ k = 12 ∨ k = 13 ∨ k = 14 ∨ k = 17 ∨ k = 33 ∨ k = 39
theorem pwE_le (e : Exp) : pwE e ≤ 7 := by
  cases e with
  | bin k p l r => have := pow_le k; simp only [pwE]; omega
  | _ => simp [pwE]
theorem br_hd {lv : Nat} {e : Exp} {P : Int → Prop} (h17 : P 17) (h : lv ≤ pwE e → ∃ t l, tB e = t :: l ∧ P t.kind) : ∃ t l, br lv e (tB e) = t :: l ∧ P t.kind := by
  unfold br
  split
  · exact ⟨_, _, rfl, h17⟩
  · exact h (by omega)
theorem tB_hd : (e : Exp) → {lv d : Nat} → OkE lv d e → ∃ t l, tB e = t :: l ∧ Bg t.kind ∧ (pwE e = 7 → t.kind ≠ 33 ∧ t.kind ≠ 39)
  | .num v p, _, _, _ => ⟨_, _, rfl, by simp [Bg, tV], fun _ => by simp [tV]⟩
  | .boo v p, _, _, _ => ⟨_, _, rfl, by simp only [tK]; split <;> simp [Bg], fun _ => by simp only [tK]; split <;> decide⟩
  | .var s p, _, _, _ => ⟨_, _, rfl, by simp [Bg, tI], fun _ => by simp [tI]⟩
  | .rd p, _, _, _ => ⟨_, _, rfl, by simp [Bg, tK], fun _ => by simp [tK]⟩
  | .call s p gs, _, _, _ => ⟨_, _, by simp only [tB]; rfl, by simp [Bg, tI], fun _ => by simp [tI]⟩
  | .idx p a b, _, _, h => by
    simp only [OkE] at h
    obtain ⟨t, l, h1, h2⟩ := br_hd (lv := 7) (e := a) (P := fun k => Bg k ∧ k ≠ 33 ∧ k ≠ 39) (by simp [Bg]) fun hl => by
      obtain ⟨t, l, h1, h2, h3⟩ := tB_hd a h.2.1
      exact ⟨t, l, h1, h2, h3 (by have := pwE_le a; omega)⟩
    refine ⟨t, l ++ (tK 21 :: (tB b ++ [tK 22])), by simp only [tB]; rw [h1]; rfl, h2.1, fun _ => h2.2⟩
  | .new t p e, _, _, _ => ⟨_, _, by simp only [tB]; rfl, by simp [Bg, tK], fun _ => by simp [tK]⟩
  | .len p e, _, _, _ => ⟨_, _, by simp only [tB]; rfl, by simp [Bg, tK], fun _ => by simp [tK]⟩
  | .un k p e, _, _, h => by
    simp only [OkE] at h
    refine ⟨tK k, br 6 e (tB e), by simp only [tB], ?_, fun h => by simp [pwE] at h⟩
    simp only [Bg, tK]
    omega
  | .bin k p l r, lv, d, h => by
    have hp := h
    simp only [OkE] at h
    have hl : ∃ lv d, OkE lv d l := by
      have := h.2
      split at this
      · exact ⟨_, _, this.2.1⟩
      · exact ⟨_, _, this.1⟩
    obtain ⟨lv', d', hl⟩ := hl
    obtain ⟨t, l', h1, h2⟩ := br_hd (lv := pow k) (e := l) (P := Bg) (by simp [Bg]) fun _ => by
      obtain ⟨t, l, h1, h2, h3⟩ := tB_hd l hl
      exact ⟨t, l, h1, h2⟩
    refine ⟨t, l' ++ (tK k :: br (pow k + 1) r (tB r)), by simp only [tB]; rw [h1]; rfl, h2, fun h => ?_⟩
    have := pow_le k
    simp only [pwE] at h
    omega
theorem br_bg {lv : Nat} {e : Exp} {lv' d : Nat} (h : OkE lv' d e) : ∃ t l, br lv e (tB e) = t :: l ∧ Bg t.kind := br_hd (by simp [Bg]) fun _ => by
  obtain ⟨t, l, h1, h2, _⟩ := tB_hd e h
  exact ⟨t, l, h1, h2⟩
/-- The same level, without brackets. -/
theorem OkE.one {lv d : Nat} {e : Exp} (h : OkE lv d e) (hl : 1 ≤ lv) (_hw : lv ≤ pwE e) : OkE 1 d e := h.low hl
theorem OkE.brk {lv d : Nat} {e : Exp} (h : OkE lv d e) (hw : pwE e < lv) (hl : lv ≤ 7) : d < 8 ∧ OkE 1 (d + 1) e := by
  cases e with
  | un k p e =>
    simp only [pwE] at hw
    simp only [OkE] at h ⊢
    have h2 := h.2
    rw [if_pos hw] at h2
    exact ⟨by omega, h.1, by rw [if_neg (by omega)]; exact ⟨by omega, h2.2⟩⟩
  | bin k p l r =>
    simp only [pwE] at hw
    simp only [OkE] at h ⊢
    have h2 := h.2
    rw [if_pos hw] at h2
    exact ⟨h2.1, h.1, by rw [if_neg (by omega)]; exact h2.2⟩
  | _ => simp only [pwE] at hw; omega
end Go.Proofs.Qxb6500280a
