/- The machine over the code: single instructions. -/
import Derived.Test.Qxb6500277aGreatGP1
namespace Go.Proofs.Qxb6500277aGreat
open Go Go.RowKit

def itX (C : List Nat) (I : List Int) : Nat → Vs × MS → Vs × MS
  | 0, X => X
  | k + 1, X => stepV C I (itX C I k X).1 (itX C I k X).2
/-- From X one comes to Y; all states before Y go on. -/
def Rch (C : List Nat) (I : List Int) (X Y : Vs × MS) : Prop := ∃ n, itX C I n X = Y ∧ ∀ j, j < n → (itX C I j X).1.en = 0
section
variable {C : List Nat} {I : List Int}
theorem itX_add (n : Nat) (X : Vs × MS) : ∀ k, itX C I (n + k) X = itX C I k (itX C I n X)
  | 0 => rfl
  | k + 1 => by rw [← Nat.add_assoc, itX, itX_add n X k, itX]
theorem Rch.refl (X : Vs × MS) : Rch C I X X := ⟨0, rfl, fun j h => by omega⟩
theorem Rch.trans {X Y Z : Vs × MS} (h : Rch C I X Y) (k : Rch C I Y Z) : Rch C I X Z := by
  obtain ⟨n, h1, h2⟩ := h
  obtain ⟨m, k1, k2⟩ := k
  refine ⟨n + m, by rw [itX_add, h1, k1], fun j hj => ?_⟩
  by_cases hlt : j < n
  · exact h2 j hlt
  · rw [show j = n + (j - n) by omega, itX_add, h1]
    exact k2 _ (by omega)
theorem Rch.one {V : Vs} {M : MS} {Y : Vs × MS} (h0 : V.en = 0) (h : stepV C I V M = Y) : Rch C I (V, M) Y := ⟨1, h, fun j hj => by
  obtain rfl : j = 0 := by omega
  exact h0⟩
/-- The bytes l lie in the code from a on. -/
def CdA (C : List Nat) (a : Nat) (l : List Nat) : Prop := a + l.length ≤ C.length ∧ ∀ i, i < l.length → byteAt C (a + i) = l.getD i 0
theorem CdA.app {a : Nat} {l m : List Nat} (h : CdA C a (l ++ m)) : CdA C a l ∧ CdA C (a + l.length) m := by
  obtain ⟨h1, h2⟩ := h
  rw [List.length_append] at h1 h2
  refine ⟨⟨by omega, fun i hi => ?_⟩, by omega, fun i hi => ?_⟩
  · rw [h2 i (by omega)]
    simp [List.getD_eq_getElem?_getD, List.getElem?_append_left hi]
  · rw [Nat.add_assoc, h2 (l.length + i) (by omega)]
    simp [List.getD_eq_getElem?_getD, List.getElem?_append_right]
theorem CdA.hd {a x : Nat} {l : List Nat} (h : CdA C a (x :: l)) : byteAt C a = x ∧ a + 1 + l.length ≤ C.length ∧ CdA C (a + 1) l := by
  have h2 := CdA.app (l := [x]) (m := l) h
  refine ⟨?_, ?_, h2.2⟩
  · have := h2.1.2 0 (by simp)
    simpa using this
  · have := h.1
    simp at this
    omega
theorem CdA.u16 {a t : Nat} (h : CdA C a (u16b t)) (ht : t < 65536) : u16V C a = t := by
  unfold u16b at h
  obtain ⟨h1, _, h⟩ := h.hd
  obtain ⟨h2, _, _⟩ := h.hd
  unfold u16V
  rw [h1, h2]
  omega
theorem CdA.i64 {a : Nat} {v : Int} (h : CdA C a (i64b v)) (h1 : -9223372036854775808 ≤ v) (h2 : v < 9223372036854775808) : i64V C a = v := by
  unfold i64b at h
  obtain ⟨e0, _, h⟩ := h.hd
  obtain ⟨e1, _, h⟩ := h.hd
  obtain ⟨e2, _, h⟩ := h.hd
  obtain ⟨e3, _, h⟩ := h.hd
  obtain ⟨e4, _, h⟩ := h.hd
  obtain ⟨e5, _, h⟩ := h.hd
  obtain ⟨e6, _, h⟩ := h.hd
  obtain ⟨e7, _, _⟩ := h.hd
  have hu : u64n v < 18446744073709551616 := by unfold u64n; omega
  have hv : u64V C a = u64n v := by
    unfold u64V
    simp only [Nat.add_assoc, Nat.reduceAdd] at e0 e1 e2 e3 e4 e5 e6 e7
    rw [e0, e1, e2, e3, e4, e5, e6, e7]
    omega
  unfold i64V
  rw [hv]
  unfold wr64 wrap64 u64n
  omega
end
def vm (fs : List Fm) (pc : Nat) (s : Ss) (x : Int × Nat) : Vs := ⟨fs, pc, s.fuel, s.ip, s.out, 0, 0, x.1, x.2⟩
def To (C : List Nat) (I : List Int) (fs : List Fm) (pc : Nat) (s : Ss) (fs' : List Fm) (pc' : Nat) (s' : Ss) : Prop := ∀ x, ∃ x', Rch C I (vm fs pc s x, s.M) (vm fs' pc' s' x', s'.M)
def En (C : List Nat) (I : List Int) (fs : List Fm) (pc : Nat) (s : Ss) (e : Int) (s' : Ss) : Prop := ∀ x, ∃ V' M', Rch C I (vm fs pc s x, s.M) (V', M') ∧ V'.en = e ∧ V'.rt = 0 ∧ V'.out = s'.out ∧ V'.fuel = s'.fuel
section
variable {C : List Nat} {I : List Int} {fs fs' fs'' : List Fm} {pc pc' pc'' : Nat} {s s' s'' : Ss}
theorem To.refl : To C I fs pc s fs pc s := fun x => ⟨x, Rch.refl _⟩
theorem To.trans (h : To C I fs pc s fs' pc' s') (k : To C I fs' pc' s' fs'' pc'' s'') : To C I fs pc s fs'' pc'' s'' := fun x => by
  obtain ⟨x', h⟩ := h x
  obtain ⟨x'', k⟩ := k x'
  exact ⟨x'', h.trans k⟩
theorem To.en {e : Int} (h : To C I fs pc s fs' pc' s') (k : En C I fs' pc' s' e s'') : En C I fs pc s e s'' := fun x => by
  obtain ⟨x', h⟩ := h x
  obtain ⟨V, M, k, k2⟩ := k x'
  exact ⟨V, M, h.trans k, k2⟩
theorem To.one (h : ∀ x, ∃ x', stepV C I (vm fs pc s x) s.M = (vm fs' pc' s' x', s'.M)) : To C I fs pc s fs' pc' s' := fun x => by
  obtain ⟨x', h⟩ := h x
  exact ⟨x', Rch.one rfl h⟩
theorem En.one {e : Int} (h : ∀ x, ∃ V' M', stepV C I (vm fs pc s x) s.M = (V', M') ∧ V'.en = e ∧ V'.rt = 0 ∧ V'.out = s'.out ∧ V'.fuel = s'.fuel) : En C I fs pc s e s' := fun x => by
  obtain ⟨V, M, h, h2⟩ := h x
  exact ⟨V, M, Rch.one rfl h, h2⟩
end
section
variable {C : List Nat} {I : List Int} {pc op : Nat} {s : Ss} {f : Fm} {r : List Fm}
/-- An instruction whose operands are there. -/
theorem stepK {k : Nat} (h : byteAt C pc = op) (hk : opArgs op = (k : Int)) (hl : pc + 1 + k ≤ C.length) (hI : wantI op ≤ f.ops.length) (hR : (wantR op : Int) ≤ (s.M.rt.length : Int) - f.rb - f.lr) (x : Int × Nat) :
    stepV C I (vm (f :: r) pc s x) s.M = execV C I op pc (vm (f :: r) (pc + 1 + k) s (wr64 (x.1 + 1), x.2)) s.M := by
  have e1 : (vm (f :: r) pc s x).pc = pc := rfl
  have e2 : topO (vm (f :: r) pc s x) = f.ops := rfl
  have e3 : ropsV (vm (f :: r) pc s x) s.M = (s.M.rt.length : Int) - f.rb - f.lr := rfl
  unfold stepV
  rw [e1, h, hk, e2, e3, if_neg (by omega), if_neg (by omega), if_neg (by omega)]
  rfl
end
end Go.Proofs.Qxb6500277aGreat
