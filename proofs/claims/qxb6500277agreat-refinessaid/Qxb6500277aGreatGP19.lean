/- The whole code of a checked program. -/
import Derived.Test.Qxb6500277aGreatGP18
namespace Go.Proofs.Qxb6500277aGreat
open Go Go.RowKit

def L12 (s : Ck) : Prop := ∀ j, (lAt s.lim j).1 ≤ 12 ∧ (lAt s.lim j).2 ≤ 12
theorem L12.kp {s s' : Ck} (h : L12 s) (k : Kp s s') : L12 s' := fun j => by rw [k.lim]; exact h j
theorem l12_decl {cur y : Nat} {nm : ByteArray} {t p : Int} {s s0 s1 : Ck} {z : Unit} (h : L12 s) (hm : mayD nm t p s0 = .ok z s1) (e1 : s.ni = s0.ni) (e2 : s.nr = s0.nr) : L12 (decl cur y nm t s) := fun j => by
  obtain ⟨_, _, m1, m2⟩ := mayD_eq hm
  have hc := h cur
  have hj := h j
  unfold decl
  by_cases ht : 2 ≤ t
  · rw [if_pos ht]
    have := m1 ht
    simp only []
    by_cases hcj : j = cur
    · subst hcj
      by_cases hl : j < s.lim.length
      · rw [lAt_st hl]; simp only []; omega
      · rw [lAt_out hl]; exact hj
    · unfold lAt at hj ⊢
      rw [List.getD_eq_getElem?_getD, List.getElem?_set_ne (Ne.symm hcj), ← List.getD_eq_getElem?_getD]
      exact hj
  · rw [if_neg ht]
    have := m2 ht
    simp only []
    by_cases hcj : j = cur
    · subst hcj
      by_cases hl : j < s.lim.length
      · rw [lAt_st hl]; simp only []; omega
      · rw [lAt_out hl]; exact hj
    · unfold lAt at hj ⊢
      rw [List.getD_eq_getElem?_getD, List.getElem?_set_ne (Ne.symm hcj), ← List.getD_eq_getElem?_getD]
      exact hj
theorem l12_shut {u s1 : Ck} (h : L12 s1) : L12 (shut u s1) := h
theorem l12_open {u : Ck} (h : L12 u) : L12 (openB u) := h
mutual
theorem l12S (X : Cx) (cur : Nat) : (st : Stm) → ∀ (b : Nat) (s : Ck) (x : Unit) (s' : Ck), ckS X cur b st s = .ok x s' → L12 s → L12 s'
  | .vd nm p t e, b, s, x, s', h, hl => by
    simp only [ckS] at h
    obtain ⟨_, u, h1, g1⟩ := Rc.bind_eq h
    obtain ⟨_, u2, h2, g2⟩ := Rc.bind_eq g1
    injection g2 with _ g2
    subst g2
    have e0 := (mayD_eq h1).1
    subst e0
    have k := wantE_eq h2
    exact l12_decl (hl.kp k) h1 k.ni k.nr
  | .asg p a c, b, s, x, s', h, hl => by
    simp only [ckS] at h
    obtain ⟨t, u, h1, g1⟩ := Rc.bind_eq h
    exact (hl.kp (keepE X a b s t u h1).1.k).kp (wantE_eq g1)
  | .iff p e bp ss, b, s, x, s', h, hl => by
    simp only [ckS] at h
    obtain ⟨_, u, h1, g1⟩ := Rc.bind_eq h
    obtain ⟨_, s1, h2, rfl⟩ := inB_in g1
    exact l12_shut (l12Ss X cur ss _ _ _ _ h2 (l12_open (hl.kp (wantE_eq h1))))
  | .ife p e bp ss cp cs, b, s, x, s', h, hl => by
    simp only [ckS] at h
    obtain ⟨_, u, h1, g1⟩ := Rc.bind_eq h
    obtain ⟨_, u2, h2, g2⟩ := Rc.bind_eq g1
    obtain ⟨_, s1, h3, rfl⟩ := inB_in h2
    obtain ⟨_, s2, h4, rfl⟩ := inB_in g2
    exact l12_shut (l12Ss X cur cs _ _ _ _ h4 (l12_open (l12_shut (l12Ss X cur ss _ _ _ _ h3 (l12_open (hl.kp (wantE_eq h1)))))))
  | .whl p e bp ss, b, s, x, s', h, hl => by
    simp only [ckS] at h
    obtain ⟨_, u, h1, g1⟩ := Rc.bind_eq h
    obtain ⟨_, s1, h2, rfl⟩ := inB_in g1
    exact l12_shut (l12Ss X cur ss _ _ _ _ h2 (l12_open (hl.kp (wantE_eq h1))))
  | .ret p e, b, s, x, s', h, hl => by
    simp only [ckS] at h
    exact hl.kp (wantE_eq h)
  | .prt p e, b, s, x, s', h, hl => by
    simp only [ckS] at h
    exact hl.kp (wantE_eq h)
  | .exp e, b, s, x, s', h, hl => by
    simp only [ckS] at h
    obtain ⟨t, u, h1, g1⟩ := Rc.bind_eq h
    injection g1 with _ g1
    subst g1
    exact hl.kp (keepE X e b s t _ h1).1.k
theorem l12Ss (X : Cx) (cur : Nat) : (st : Stms) → ∀ (b : Nat) (s : Ck) (x : Unit) (s' : Ck), ckSs X cur b st s = .ok x s' → L12 s → L12 s'
  | .nil, b, s, x, s', h, hl => by
    simp only [ckSs] at h
    injection h with _ h
    subst h
    exact hl
  | .cons y ys, b, s, x, s', h, hl => by
    simp only [ckSs] at h
    obtain ⟨_, u, h1, g1⟩ := Rc.bind_eq h
    exact l12Ss X cur ys _ _ _ _ g1 (l12S X cur y _ _ _ _ h1 hl)
end
theorem l12P {cur : Nat} : ∀ (ps : List Prm) (y : Nat) (s : Ck) (x : Unit) (s' : Ck), ckP cur y ps s = .ok x s' → L12 s → L12 s'
  | [], y, s, x, s', h, hl => by
    simp only [ckP] at h
    injection h with _ h
    subst h
    exact hl
  | q :: r, y, s, x, s', h, hl => by
    simp only [ckP] at h
    obtain ⟨_, u, h1, g1⟩ := Rc.bind_eq h
    have e0 := (mayD_eq h1).1
    subst e0
    exact l12P r _ _ _ _ g1 (l12_decl hl h1 rfl rfl)
theorem l12F {X : Cx} {cur b : Nat} {f : Fnc} {s : Ck} {x : Unit} {s' : Ck} (h : ckF X cur b f s = .ok x s') (hl : L12 s) : L12 s' := by
  unfold ckF at h
  obtain ⟨_, u1, g1, g2⟩ := Rc.bind_eq h
  obtain ⟨_, u2, g3, g4⟩ := Rc.bind_eq g2
  injection g4 with _ g4
  subst g4
  obtain ⟨_, u3, g5, rfl⟩ := inB_in g3
  have h1 : L12 u1 := l12P _ _ _ _ _ g1 hl
  have h3 : L12 u3 := l12Ss X cur f.ss _ _ _ _ g5 (l12_open h1)
  exact h3
theorem l12Fs {X : Cx} : ∀ (gs : List Fnc) (cur b : Nat) (s : Ck) (x : Unit) (s' : Ck), ckFs X cur b gs s = .ok x s' → L12 s → L12 s'
  | [], cur, b, s, x, s', h, hl => by
    simp only [ckFs] at h
    injection h with _ h
    subst h
    exact hl
  | f :: r, cur, b, s, x, s', h, hl => by
    simp only [ckFs] at h
    obtain ⟨_, s1, h1, h2⟩ := Rc.bind_eq h
    exact l12Fs r _ _ _ _ _ h2 (l12F h1 hl)
/-- All are bytes. -/
def By (l : List Nat) : Prop := ∀ x ∈ l, x < 256
theorem By.app {a b : List Nat} (h : By a) (k : By b) : By (a ++ b) := fun x hx => (List.mem_append.1 hx).elim (h x) (k x)
theorem By.cons {a : Nat} {b : List Nat} (h : a < 256) (k : By b) : By (a :: b) := fun x hx => by
  rcases List.mem_cons.1 hx with rfl | hx
  · exact h
  · exact k x hx
theorem By.nil : By [] := fun x hx => by cases hx
theorem by_u16 (a : Nat) : By (u16b a) := .cons (by omega) (.cons (by omega) .nil)
theorem by_i64 (v : Int) : By (i64b v) := .cons (by omega) (.cons (by omega) (.cons (by omega) (.cons (by omega) (.cons (by omega) (.cons (by omega) (.cons (by omega) (.cons (by omega) .nil)))))))
theorem cls_lt {t : Int} {a b : Nat} (ha : a < 256) (hb : b < 256) : clsO t a b < 256 := by unfold clsO; split <;> assumption
theorem opB_lt (k : Int) : opB k < 256 := by unfold opB; (repeat' split) <;> omega
mutual
theorem byE {P : Pg} {en : Nat → Nat} {li lr : Nat} (hi : li ≤ 12) (hr : lr ≤ 12) : (e : Exp) → ∀ (a b : Nat), WtE P li lr b e → By (cE P en a b e)
  | .num v p, a, b, _ => by simp only [cE]; exact .cons (by omega) (by_i64 v)
  | .boo v p, a, b, _ => by simp only [cE]; exact .cons (by omega) (by_i64 v)
  | .rd p, a, b, _ => by simp only [cE]; exact .cons (by omega) .nil
  | .var nm p, a, b, h => by
    simp only [WtE] at h
    simp only [cE]
    refine .cons (cls_lt (by omega) (by omega)) (.cons ?_ .nil)
    split at h <;> omega
  | .un k p e, a, b, h => by
    simp only [WtE] at h
    simp only [cE]
    exact (byE hi hr e a b h.1).app (.cons (by split <;> omega) .nil)
  | .bin k p l r, a, b, h => by
    simp only [WtE] at h
    simp only [cE]
    split
    · exact (byE hi hr l _ _ h.1).app (.cons (by split <;> omega) ((by_u16 _).app ((byE hi hr r _ _ h.2.1).app (.cons (by omega) ((by_u16 _).app (.cons (by omega) (by_i64 _)))))))
    · exact (byE hi hr l _ _ h.1).app ((byE hi hr r _ _ h.2.1).app (.cons (opB_lt k) .nil))
  | .idx p x i, a, b, h => by
    simp only [WtE] at h
    simp only [cE]
    exact (byE hi hr x _ _ h.1).app ((byE hi hr i _ _ h.2.1).app (.cons (cls_lt (by omega) (by omega)) .nil))
  | .new t p e, a, b, h => by
    simp only [WtE] at h
    simp only [cE]
    exact (byE hi hr e _ _ h.1).app (.cons (cls_lt (by omega) (by omega)) .nil)
  | .len p e, a, b, h => by
    simp only [WtE] at h
    simp only [cE]
    exact (byE hi hr e _ _ h.1).app (.cons (by omega) .nil)
  | .call nm p gs, a, b, h => by
    simp only [WtE] at h
    simp only [cE]
    exact (byEs hi hr gs _ _ h.1).app (.cons (by omega) (by_u16 _))
theorem byEs {P : Pg} {en : Nat → Nat} {li lr : Nat} (hi : li ≤ 12) (hr : lr ≤ 12) : (es : Exps) → ∀ (a b : Nat), WtEs P li lr b es → By (cEs P en a b es)
  | .nil, a, b, _ => by simp only [cEs]; exact .nil
  | .cons e es, a, b, h => by
    simp only [WtEs] at h
    simp only [cEs]
    exact (byE hi hr e _ _ h.1).app (byEs hi hr es _ _ h.2)
end
theorem slot_lt {P : Pg} {li lr x : Nat} {t : Int} (hi : li ≤ 12) (hr : lr ≤ 12) (h : slotOk P li lr x t) : rfA P x < 256 := by unfold slotOk at h; split at h <;> omega
mutual
theorem byS {P : Pg} {en : Nat → Nat} {li lr : Nat} {ret : Int} (hi : li ≤ 12) (hr : lr ≤ 12) : (x : Stm) → ∀ (a b : Nat), WtS P li lr ret b x → By (cS P en a b x)
  | .vd nm p t e, a, b, h => by
    simp only [WtS] at h
    simp only [cS]
    exact (byE hi hr e _ _ h.1).app (.cons (cls_lt (by omega) (by omega)) (.cons (slot_lt hi hr h.2.2) .nil))
  | .asg p x c, a, b, h => by
    cases x with
    | var nm p' =>
      simp only [WtS] at h
      simp only [cS, szE]
      exact (byE hi hr c _ _ h.1).app (.cons (cls_lt (by omega) (by omega)) (.cons (slot_lt hi hr h.2.2) .nil))
    | idx p' a' i' =>
      simp only [WtS] at h
      simp only [cS]
      exact (byE hi hr a' _ _ h.1).app ((byE hi hr i' _ _ h.2.1).app ((byE hi hr c _ _ h.2.2.1).app (.cons (cls_lt (by omega) (by omega)) .nil)))
    | _ => simp only [WtS] at h
  | .iff p e bp ss, a, b, h => by
    simp only [WtS] at h
    simp only [cS]
    exact (byE hi hr e _ _ h.1).app (.cons (by omega) ((by_u16 _).app (bySs hi hr ss _ _ h.2.2)))
  | .ife p e bp ss cp cs, a, b, h => by
    simp only [WtS] at h
    simp only [cS]
    exact (byE hi hr e _ _ h.1).app (.cons (by omega) ((by_u16 _).app ((bySs hi hr ss _ _ h.2.2.1).app (.cons (by omega) ((by_u16 _).app (bySs hi hr cs _ _ h.2.2.2))))))
  | .whl p e bp ss, a, b, h => by
    simp only [WtS] at h
    simp only [cS]
    exact (byE hi hr e _ _ h.1).app (.cons (by omega) ((by_u16 _).app ((bySs hi hr ss _ _ h.2.2).app (.cons (by omega) (by_u16 _)))))
  | .ret p e, a, b, h => by
    simp only [WtS] at h
    simp only [cS]
    exact (byE hi hr e _ _ h.1).app (.cons (cls_lt (by omega) (by omega)) .nil)
  | .prt p e, a, b, h => by
    simp only [WtS] at h
    simp only [cS]
    exact (byE hi hr e _ _ h.1).app (.cons (by omega) .nil)
  | .exp e, a, b, h => by
    simp only [WtS] at h
    simp only [cS]
    exact (byE hi hr e _ _ h).app (.cons (cls_lt (by omega) (by omega)) .nil)
theorem bySs {P : Pg} {en : Nat → Nat} {li lr : Nat} {ret : Int} (hi : li ≤ 12) (hr : lr ≤ 12) : (xs : Stms) → ∀ (a b : Nat), WtSs P li lr ret b xs → By (cSs P en a b xs)
  | .nil, a, b, _ => by simp only [cSs]; exact .nil
  | .cons x xs, a, b, h => by
    simp only [WtSs] at h
    simp only [cSs]
    exact (byS hi hr x _ _ h.1).app (bySs hi hr xs _ _ h.2)
end
theorem byF {P : Pg} {en : Nat → Nat} {a : Nat} {F : Fi} (h1 : F.pi ≤ F.li) (h2 : F.pr ≤ F.lr) (hi : F.li ≤ 12) (hr : F.lr ≤ 12) (h : WtSs P F.li F.lr F.ret F.bb F.ss) : By (cF P en a F) := by
  unfold cF
  refine By.app (.cons (by omega) (.cons (by omega) (.cons (by omega) (.cons (by omega) (.cons (by omega) .nil))))) ((bySs hi hr _ _ _ h).app ?_)
  unfold tailC
  split
  · exact .cons (by omega) (.cons (by omega) .nil)
  · exact .cons (by omega) ((by_i64 _).app (.cons (by omega) .nil))
end Go.Proofs.Qxb6500277aGreat
