/- The code as a row of whole instructions; its jumps come down at instructions. -/
import Derived.Test.Qxb6500277aGreatGP23
namespace Go.Proofs.Qxb6500277aGreat
open Go Go.RowKit

/-- The address of the next instruction. -/
def nxt (C : List Nat) (pc : Nat) : Nat := pc + 1 + (opArgs (byteAt C pc)).toNat
def itC (C : List Nat) : Nat → Nat
  | 0 => 0
  | n + 1 => nxt C (itC C n)
/-- x is the start of an instruction. -/
def ChA (C : List Nat) (x : Nat) : Prop := ∃ n, itC C n = x
section
variable {C : List Nat} {x y : Nat}
theorem nxt_gt (C : List Nat) (x : Nat) : x < nxt C x := by unfold nxt; omega
theorem it_mono (C : List Nat) (n : Nat) : ∀ k, itC C n < itC C (n + k + 1)
  | 0 => nxt_gt C _
  | k + 1 => Nat.lt_trans (it_mono C n k) (nxt_gt C _)
theorem ChA.zero (C : List Nat) : ChA C 0 := ⟨0, rfl⟩
theorem ChA.next (h : ChA C x) : ChA C (nxt C x) := by
  obtain ⟨n, rfl⟩ := h
  exact ⟨n + 1, rfl⟩
theorem ChA.one (h : ChA C x) (k : ChA C y) (h1 : x ≤ y) (h2 : y < nxt C x) : y = x := by
  obtain ⟨n, rfl⟩ := h
  obtain ⟨m, rfl⟩ := k
  rcases Nat.lt_trichotomy n m with h | h | h
  · have e : nxt C (itC C n) = itC C (n + 1) := rfl
    rcases Nat.lt_or_ge (n + 1) m with g | g
    · have := it_mono C (n + 1) (m - (n + 1) - 1)
      rw [show n + 1 + (m - (n + 1) - 1) + 1 = m by omega] at this
      omega
    · obtain rfl : m = n + 1 := by omega
      omega
  · rw [h]
  · have := it_mono C m (n - m - 1)
    rw [show m + (n - m - 1) + 1 = n by omega] at this
    omega
end
/-- What Check wants of the instruction at pc. -/
structure Fin1 (C : List Nat) (pc : Nat) : Prop where
  op : 0 ≤ opArgs (byteAt C pc)
  wh : nxt C pc ≤ C.length
  jz : byteAt C pc = 22 ∨ byteAt C pc = 23 → pc < u16V C (pc + 1)
  ld : byteAt C pc = 21 ∨ byteAt C pc = 22 ∨ byteAt C pc = 23 ∨ byteAt C pc = 24 → ChA C (u16V C (pc + 1)) ∧ u16V C (pc + 1) < C.length
  cl : byteAt C pc = 24 → byteAt C (u16V C (pc + 1)) = 25
/-- What Check wants of the fixup table's rows. -/
def Rw (C : List Nat) (en : Nat → Nat) (l : List (Nat × Nat)) : Prop := ∀ x ∈ l, 1 ≤ x.1 ∧ ChA C (x.1 - 1) ∧ x.1 + 2 ≤ C.length ∧ byteAt C (x.1 - 1) = 24 ∧ u16V C x.1 = en x.2
/-- A piece of the code from a on, n bytes long. -/
structure Sg (C : List Nat) (H : Prop) (en : Nat → Nat) (a n : Nat) (l : List (Nat × Nat)) : Prop where
  sq : ChA C a → ChA C (a + n)
  fz : ChA C a → H → (∀ pc, a ≤ pc → pc < a + n → ChA C pc → Fin1 C pc) ∧ Rw C en l
section
variable {C : List Nat} {H : Prop} {en : Nat → Nat} {a n m op k T : Nat} {l l' : List (Nat × Nat)}
theorem Sg.nil : Sg C H en a 0 [] := ⟨id, fun _ _ => ⟨fun pc h1 h2 => by omega, fun x hx => by cases hx⟩⟩
theorem Sg.app {n' : Nat} (h : Sg C H en a n l) (g : Sg C H en (a + n) m l') (e : n' = n + m) : Sg C H en a n' (l ++ l') := by
  subst e
  refine ⟨fun hc => by rw [← Nat.add_assoc]; exact g.sq (h.sq hc), fun hc hH => ?_⟩
  obtain ⟨p1, p2⟩ := h.fz hc hH
  obtain ⟨q1, q2⟩ := g.fz (h.sq hc) hH
  refine ⟨fun pc h1 h2 h3 => ?_, fun x hx => (List.mem_append.1 hx).elim (p2 x) (q2 x)⟩
  by_cases hp : pc < a + n
  · exact p1 pc h1 hp h3
  · exact q1 pc (by omega) (by omega) h3
theorem Sg.of (h : ChA C a → Sg C H en a n l) : Sg C H en a n l := ⟨fun hc => (h hc).sq hc, fun hc => (h hc).fz hc⟩
theorem Sg.suf {n' : Nat} (h : Sg C H en a n l) (g : Sg C H en (a + n) m []) (e : n' = n + m) : Sg C H en a n' l := by
  have := h.app g e
  rwa [List.append_nil] at this
theorem Sg.ins (hb : byteAt C a = op) (ho : opArgs op = (k : Nat)) (hf : ChA C a → H → Fin1 C a ∧ Rw C en l) (hn : n = 1 + k) : Sg C H en a n l := by
  have e : nxt C a = a + n := by unfold nxt; rw [hb, ho, hn]; simp; omega
  refine ⟨fun hc => by rw [← e]; exact hc.next, fun hc hH => ⟨fun pc h1 h2 h3 => ?_, (hf hc hH).2⟩⟩
  rw [hc.one h3 h1 (by omega)]
  exact (hf hc hH).1
theorem Sg.nop (hb : byteAt C a = op) (ho : opArgs op = (k : Nat)) (hl : a + 1 + k ≤ C.length) (hj : op ≠ 21 ∧ op ≠ 22 ∧ op ≠ 23 ∧ op ≠ 24) (hn : n = 1 + k) : Sg C H en a n [] := by
  refine Sg.ins hb ho (fun _ _ => ⟨⟨by rw [hb, ho]; omega, by unfold nxt; rw [hb, ho]; simpa using hl, ?_, ?_, ?_⟩, fun x hx => by cases hx⟩) hn
  all_goals (rw [hb]; intro h; omega)
theorem Sg.jmp (hb : byteAt C a = op) (ho : op = 21 ∨ op = 22 ∨ op = 23) (hl : a + 3 ≤ C.length) (hu : u16V C (a + 1) = T) (hT : ChA C a → ChA C T ∧ T < C.length ∧ (op ≠ 21 → a < T)) : Sg C H en a 3 [] := by
  have h2 : opArgs op = ((2 : Nat) : Int) := by rcases ho with rfl | rfl | rfl <;> rfl
  refine Sg.ins hb h2 (fun hc _ => ⟨⟨by rw [hb, h2]; omega, by unfold nxt; rw [hb, h2]; simp; omega, fun h => ?_, fun _ => ?_, fun h => by omega⟩, fun x hx => by cases hx⟩) rfl
  · rw [hu]; exact (hT hc).2.2 (by omega)
  · rw [hu]; exact ⟨(hT hc).1, (hT hc).2.1⟩
theorem Sg.call {f : Nat} (hb : byteAt C a = 24) (hl : a + 3 ≤ C.length) (hu : u16V C (a + 1) = en f) (hT : H → ChA C (en f)) (h1 : en f < C.length) (h2 : byteAt C (en f) = 25) : Sg C H en a 3 [(a + 1, f)] := by
  refine Sg.ins (k := 2) hb rfl (fun hc hH => ⟨⟨by rw [hb]; decide, by unfold nxt; rw [hb]; exact hl, fun h => by omega, fun _ => ?_, fun _ => by rw [hu]; exact h2⟩, fun x hx => ?_⟩) rfl
  · rw [hu]; exact ⟨hT hH, h1⟩
  · simp only [List.mem_singleton] at hx
    subst hx
    exact ⟨by simp, by simpa using hc, by simp only []; omega, by simpa using hb, by simpa using hu⟩
end
section
variable {P : Pg} {C : List Nat} {en : Nat → Nat} {li lr : Nat}
theorem opB_in (k : Int) : opArgs (opB k) = ((0 : Nat) : Int) ∧ opB k ≠ 21 ∧ opB k ≠ 22 ∧ opB k ≠ 23 ∧ opB k ≠ 24 := by
  unfold opB
  (repeat' split) <;> decide
theorem clsO_in {t : Int} {x y k : Nat} (h1 : opArgs x = (k : Nat)) (h2 : opArgs y = (k : Nat)) (h3 : x ≠ 21 ∧ x ≠ 22 ∧ x ≠ 23 ∧ x ≠ 24) (h4 : y ≠ 21 ∧ y ≠ 22 ∧ y ≠ 23 ∧ y ≠ 24) : opArgs (clsO t x y) = (k : Nat) ∧ clsO t x y ≠ 21 ∧ clsO t x y ≠ 22 ∧ clsO t x y ≠ 23 ∧ clsO t x y ≠ 24 := by
  unfold clsO
  split
  · exact ⟨h2, h4⟩
  · exact ⟨h1, h3⟩
abbrev HEn (P : Pg) (C : List Nat) (en : Nat → Nat) : Prop := ∀ f, f < P.fns.length → ChA C (en f)
theorem sg_op {H : Prop} {a op : Nat} {l : List Nat} (hc : CdA C a (op :: l)) (ho : opArgs op = ((0 : Nat) : Int)) (hj : op ≠ 21 ∧ op ≠ 22 ∧ op ≠ 23 ∧ op ≠ 24) : Sg C H en a 1 [] := by
  obtain ⟨h1, h2, _⟩ := hc.hd
  exact Sg.nop h1 ho (by omega) hj rfl
theorem sg_slot {H : Prop} {a op x : Nat} {l : List Nat} (hc : CdA C a (op :: x :: l)) (ho : opArgs op = ((1 : Nat) : Int)) (hj : op ≠ 21 ∧ op ≠ 22 ∧ op ≠ 23 ∧ op ≠ 24) : Sg C H en a 2 [] := by
  obtain ⟨h1, h2, _⟩ := hc.hd
  simp only [List.length_cons] at h2
  exact Sg.nop h1 ho (by omega) hj rfl
theorem sg_push {H : Prop} {a : Nat} {v : Int} {l : List Nat} (hc : CdA C a (0 :: (i64b v ++ l))) : Sg C H en a 9 [] := by
  obtain ⟨h1, h2, _⟩ := hc.hd
  simp only [List.length_append, i64b, List.length_cons, List.length_nil] at h2
  exact Sg.nop (k := 8) h1 rfl (by omega) (by decide) rfl
mutual
theorem sgE (hC : C.length < 65536) (hen : ∀ f, f < P.fns.length → en f < C.length ∧ byteAt C (en f) = 25) : (e : Exp) → ∀ (a b : Nat), WtE P li lr b e → CdA C a (cE P en a b e) → a + nE e < C.length → Sg C (HEn P C en) en a (nE e) (fxE P a b e)
  | .num v p, a, b, hw, hc, hl => by
    simp only [cE] at hc
    rw [← List.append_nil (i64b v)] at hc
    exact sg_push hc
  | .boo v p, a, b, hw, hc, hl => by
    simp only [cE] at hc
    rw [← List.append_nil (i64b v)] at hc
    exact sg_push hc
  | .var s p, a, b, hw, hc, hl => by
    simp only [cE] at hc
    have := clsO_in (t := tyA P b) (x := 2) (y := 4) (k := 1) rfl rfl (by decide) (by decide)
    exact sg_slot hc this.1 this.2
  | .rd p, a, b, hw, hc, hl => by
    simp only [cE] at hc
    exact sg_op hc rfl (by decide)
  | .un k p e, a, b, hw, hc, hl => by
    simp only [cE] at hc
    simp only [WtE] at hw
    simp only [nE] at hl
    obtain ⟨c1, c2⟩ := hc.app
    rw [cE_len] at c2
    simp only [fxE, nE]
    refine (sgE hC hen e a b hw.1 c1 (by omega)).suf (sg_op c2 ?_ ?_) rfl
    · split <;> rfl
    · split <;> decide
  | .new t p e, a, b, hw, hc, hl => by
    simp only [cE] at hc
    simp only [WtE] at hw
    simp only [nE] at hl
    obtain ⟨c1, c2⟩ := hc.app
    rw [cE_len] at c2
    simp only [fxE, nE]
    have := clsO_in (t := t - 2) (x := 28) (y := 29) (k := 0) rfl rfl (by decide) (by decide)
    exact (sgE hC hen e a b hw.1 c1 (by omega)).suf (sg_op c2 this.1 this.2) rfl
  | .len p e, a, b, hw, hc, hl => by
    simp only [cE] at hc
    simp only [WtE] at hw
    simp only [nE] at hl
    obtain ⟨c1, c2⟩ := hc.app
    rw [cE_len] at c2
    simp only [fxE, nE]
    exact (sgE hC hen e a b hw.1 c1 (by omega)).suf (sg_op c2 rfl (by decide)) rfl
  | .idx p x i, a, b, hw, hc, hl => by
    simp only [cE] at hc
    simp only [WtE] at hw
    simp only [nE] at hl
    obtain ⟨c1, c2⟩ := hc.app
    rw [cE_len] at c2
    obtain ⟨c3, c4⟩ := c2.app
    rw [cE_len] at c4
    simp only [fxE, nE]
    have := clsO_in (t := tyA P (b + szE x + szE i)) (x := 30) (y := 31) (k := 0) rfl rfl (by decide) (by decide)
    exact (sgE hC hen x a b hw.1 c1 (by omega)).app ((sgE hC hen i _ _ hw.2.1 c3 (by omega)).suf (sg_op c4 this.1 this.2) rfl) (by omega)
  | .call s p gs, a, b, hw, hc, hl => by
    simp only [cE] at hc
    simp only [WtE] at hw
    simp only [nE] at hl
    obtain ⟨c1, c2⟩ := hc.app
    rw [cEs_len] at c2
    obtain ⟨d1, d2, d3⟩ := c2.hd
    obtain ⟨e1, e2⟩ := hen _ hw.2.1
    simp only [fxE, nE]
    have hu := d3.u16 (by omega)
    exact (sgEs hC hen gs a b hw.1 c1 (by omega)).app (Sg.call (f := rfA P (b + szEs gs)) d1 (by omega) hu (fun hH => hH _ hw.2.1) e1 e2) rfl
  | .bin k p x y, a, b, hw, hc, hl => by
    simp only [cE] at hc
    simp only [WtE] at hw
    simp only [nE] at hl
    simp only [fxE, nE]
    by_cases hk : k = 37 ∨ k = 38
    · rw [if_pos hk] at hc hl ⊢
      rw [if_pos hk]
      obtain ⟨c1, c2⟩ := hc.app
      rw [cE_len] at c2
      obtain ⟨d1, d2, d3⟩ := c2.hd
      obtain ⟨d4, d5⟩ := d3.app
      have hu := d4.u16 (by omega)
      have el : (u16b (a + nE x + 3 + nE y + 3)).length = 2 := rfl
      rw [el] at d5
      obtain ⟨f1, f2⟩ := d5.app
      rw [cE_len] at f2
      obtain ⟨g1, g2, g3⟩ := f2.hd
      obtain ⟨g4, g5⟩ := g3.app
      have hu2 := g4.u16 (by omega)
      have el2 : (u16b (a + nE x + 3 + nE y + 3 + 9)).length = 2 := rfl
      rw [el2] at g5
      have eP : ∀ z, a + nE x + 1 + 2 + nE y + 1 + 2 = z → CdA C z (0 :: (i64b (if k = 37 then 0 else 1) ++ [])) := fun z hz => by rw [← hz, List.append_nil]; exact g5
      have S1 := sgE hC hen x a b hw.1 c1 (by omega)
      have S3 : Sg C (HEn P C en) en (a + nE x + 3) (nE y) (fxE P (a + nE x + 3) (b + szE x) y) := sgE hC hen y _ _ hw.2.1 (by rw [show a + nE x + 3 = a + nE x + 1 + 2 by omega]; rw [show a + nE x + 3 = a + nE x + 1 + 2 by omega] at f1; exact f1) (by omega)
      have S5 : Sg C (HEn P C en) en (a + nE x + 3 + nE y + 3) 9 [] := sg_push (eP _ (by omega))
      have S4 : Sg C (HEn P C en) en (a + nE x + 3 + nE y) 3 [] := by
        rw [show a + nE x + 1 + 2 + nE y = a + nE x + 3 + nE y by omega] at g1 g2 hu2
        refine Sg.jmp g1 (.inl rfl) (by omega) hu2 fun hc => ⟨?_, by omega, fun h => absurd rfl h⟩
        have e : nxt C (a + nE x + 3 + nE y) = a + nE x + 3 + nE y + 3 := by unfold nxt; rw [g1]; rfl
        have := hc.next
        rw [e] at this
        exact S5.sq this
      have S2 : Sg C (HEn P C en) en (a + nE x) 3 [] := by
        refine Sg.jmp d1 (by split <;> omega) (by omega) hu fun hc => ⟨?_, by omega, fun _ => by omega⟩
        have e : nxt C (a + nE x) = a + nE x + 3 := by unfold nxt; rw [d1]; split <;> rfl
        have := hc.next
        rw [e] at this
        exact S4.sq (S3.sq this)
      have Z := S1.app (S2.app (S3.suf (S4.suf S5 rfl) rfl) rfl) (n' := nE x + 3 + nE y + 3 + 9) (by omega)
      exact Z
    · rw [if_neg hk] at hc hl ⊢
      rw [if_neg hk]
      obtain ⟨c1, c2⟩ := hc.app
      rw [cE_len] at c2
      obtain ⟨c3, c4⟩ := c2.app
      rw [cE_len] at c4
      have := opB_in k
      exact (sgE hC hen x a b hw.1 c1 (by omega)).app ((sgE hC hen y _ _ hw.2.1 c3 (by omega)).suf (sg_op c4 this.1 this.2) rfl) (by omega)
theorem sgEs (hC : C.length < 65536) (hen : ∀ f, f < P.fns.length → en f < C.length ∧ byteAt C (en f) = 25) : (es : Exps) → ∀ (a b : Nat), WtEs P li lr b es → CdA C a (cEs P en a b es) → a + nEs es < C.length → Sg C (HEn P C en) en a (nEs es) (fxEs P a b es)
  | .nil, a, b, hw, hc, hl => Sg.nil
  | .cons e es, a, b, hw, hc, hl => by
    simp only [cEs] at hc
    simp only [WtEs] at hw
    simp only [nEs] at hl
    obtain ⟨c1, c2⟩ := hc.app
    rw [cE_len] at c2
    simp only [fxEs, nEs]
    exact (sgE hC hen e a b hw.1 c1 (by omega)).app (sgEs hC hen es _ _ hw.2 c2 (by omega)) rfl
end
end
end Go.Proofs.Qxb6500277aGreat
