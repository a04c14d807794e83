/- Single instructions: locals, roots, jumps. -/
import Derived.Test.Qxb6500277aGreatGP3
namespace Go.Proofs.Qxb6500277aGreat
open Go Go.RowKit

section
variable {C : List Nat} {I : List Int} {pc op : Nat} {s : Ss} {f : Fm} {r : List Fm} {y : Int × Nat}
theorem vm_M (fs : List Fm) (pc : Nat) (s : Ss) (m : MS) (y : Int × Nat) : vm fs pc { s with M := m } y = vm fs pc s y := rfl
theorem slot1 {q : Nat} {l : List Nat} (hc : CdA C pc (op :: q :: l)) (hk : opArgs op = 1) (hI : wantI op ≤ f.ops.length) (hR : (wantR op : Int) ≤ kR f s) (x : Int × Nat) :
    stepV C I (vm (f :: r) pc s x) s.M = execV C I op pc (vm (f :: r) (pc + 2) s (wr64 (x.1 + 1), x.2)) s.M ∧ byteAt C (pc + 1) = q := by
  obtain ⟨h0, hl, h1⟩ := hc.hd
  obtain ⟨h2, _, _⟩ := h1.hd
  simp only [List.length_cons] at hl
  exact ⟨stepK (C := C) (I := I) (s := s) (f := f) (r := r) (k := 1) h0 hk (by omega) hI hR x, h2⟩
theorem i_ldI {q : Nat} {l : List Nat} (hc : CdA C pc (2 :: q :: l)) (hq : q < f.loc.length) (hk : 0 ≤ kR f s) :
    (¬ 48 ≤ usedF (f :: r) → To C I (f :: r) pc s (fo f (f.ops ++ [f.loc.getD q 0]) :: r) (pc + 2) s) ∧ (48 ≤ usedF (f :: r) → En C I (f :: r) pc s 29 s) := by
  have e : ∀ x, stepV C I (vm (f :: r) pc s x) s.M = (pushV (vm (f :: r) (pc + 2) s (wr64 (x.1 + 1), x.2)) (f.loc.getD q 0), s.M) := fun x => by
    obtain ⟨h1, h2⟩ := slot1 (I := I) (s := s) (f := f) (r := r) hc rfl (Nat.zero_le _) hk x
    rw [h1]
    simp only [execV, Nat.reduceEqDiff, ↓reduceIte]
    rw [h2, show topF (vm (f :: r) (pc + 2) s (wr64 (x.1 + 1), x.2)) = f from rfl, if_neg (by omega)]
  refine ⟨fun hu => To.one fun x => ⟨(wr64 (x.1 + 1), max x.2 (usedF (f :: r) + 1)), ?_⟩, fun hu => En.one fun x => ⟨_, _, e x, ?_⟩⟩
  · rw [e x, vm_push, if_neg hu]
  · rw [vm_push, if_pos hu]
    exact ⟨rfl, rfl, rfl, rfl⟩
theorem i_stI {q : Nat} {l : List Nat} {o : List Int} {v : Int} (hc : CdA C pc (3 :: q :: l)) (hq : q < f.loc.length) (ho : f.ops = o ++ [v]) (hk : 0 ≤ kR f s) :
    To C I (f :: r) pc s ({ fo f o with loc := f.loc.set q v } :: r) (pc + 2) s := To.one fun x => ⟨(wr64 (x.1 + 1), x.2), by
  obtain ⟨h1, h2⟩ := slot1 (I := I) (s := s) (f := f) (r := r) hc rfl (by rw [ho]; simp [wantI]) hk x
  rw [h1]
  simp only [execV, Nat.reduceEqDiff, ↓reduceIte]
  rw [h2, show topF (vm (f :: r) (pc + 2) s (wr64 (x.1 + 1), x.2)) = f from rfl, if_neg (by omega), vm_drop, opn0 ho, ho, take1]
  rfl⟩
theorem i_ldR {q : Nat} {l : List Nat} (hc : CdA C pc (4 :: q :: l)) (hq : q < f.lr) (hk : 0 ≤ kR f s) :
    ((dupM s.M (f.rb + q : Nat)).1 = 0 → To C I (f :: r) pc s (f :: r) (pc + 2) { s with M := (dupM s.M (f.rb + q : Nat)).2 }) ∧ ((dupM s.M (f.rb + q : Nat)).1 ≠ 0 → En C I (f :: r) pc s (endOf (dupM s.M (f.rb + q : Nat)).1) s) := by
  have e : ∀ x, stepV C I (vm (f :: r) pc s x) s.M = (did (vm (f :: r) (pc + 2) s (wr64 (x.1 + 1), x.2)) (dupM s.M (f.rb + q : Nat)).1, (dupM s.M (f.rb + q : Nat)).2) := fun x => by
    obtain ⟨h1, h2⟩ := slot1 (I := I) (s := s) (f := f) (r := r) hc rfl (Nat.zero_le _) hk x
    rw [h1]
    simp only [execV, Nat.reduceEqDiff, ↓reduceIte]
    rw [h2, show topF (vm (f :: r) (pc + 2) s (wr64 (x.1 + 1), x.2)) = f from rfl, if_neg (by omega)]
  refine ⟨fun h0 => To.one fun x => ⟨(wr64 (x.1 + 1), x.2), ?_⟩, fun h0 => En.one fun x => ⟨_, _, e x, ?_⟩⟩
  · rw [e x]; unfold did; rw [if_pos h0]; rfl
  · unfold did; rw [if_neg h0]; exact ⟨rfl, rfl, rfl, rfl⟩
theorem i_stR {q : Nat} {l : List Nat} (hc : CdA C pc (5 :: q :: l)) (hq : q < f.lr) (hk : 1 ≤ kR f s) :
    To C I (f :: r) pc s (f :: r) (pc + 2) { s with M := (setM s.M (f.rb + q : Nat)).2 } := To.one fun x => ⟨(wr64 (x.1 + 1), x.2), by
  obtain ⟨h1, h2⟩ := slot1 (I := I) (s := s) (f := f) (r := r) hc rfl (Nat.zero_le _) hk x
  rw [h1]
  simp only [execV, Nat.reduceEqDiff, ↓reduceIte]
  rw [h2, show topF (vm (f :: r) (pc + 2) s (wr64 (x.1 + 1), x.2)) = f from rfl, if_neg (by omega)]
  rfl⟩
theorem i_popR (hc : byteAt C pc = 6 ∧ pc + 1 ≤ C.length) (hk : 1 ≤ kR f s) : To C I (f :: r) pc s (f :: r) (pc + 1) { s with M := (popM s.M 1).2 } := To.one fun x => ⟨(wr64 (x.1 + 1), x.2), by
  rw [byte1 hc rfl (Nat.zero_le _) hk x]
  simp only [execV, Nat.reduceEqDiff, ↓reduceIte]
  rfl⟩
theorem i_nilR (hc : byteAt C pc = 7 ∧ pc + 1 ≤ C.length) (hk : 0 ≤ kR f s) :
    ((pushM s.M).1 = 0 → To C I (f :: r) pc s (f :: r) (pc + 1) { s with M := (pushM s.M).2 }) ∧ ((pushM s.M).1 ≠ 0 → En C I (f :: r) pc s (endOf (pushM s.M).1) s) := by
  have e : ∀ x, stepV C I (vm (f :: r) pc s x) s.M = (did (vm (f :: r) (pc + 1) s (wr64 (x.1 + 1), x.2)) (pushM s.M).1, (pushM s.M).2) := fun x => by
    rw [byte1 hc rfl (Nat.zero_le _) hk x]
    simp only [execV, Nat.reduceEqDiff, ↓reduceIte]
  refine ⟨fun h0 => To.one fun x => ⟨(wr64 (x.1 + 1), x.2), ?_⟩, fun h0 => En.one fun x => ⟨_, _, e x, ?_⟩⟩
  · rw [e x]; unfold did; rw [if_pos h0]; rfl
  · unfold did; rw [if_neg h0]; exact ⟨rfl, rfl, rfl, rfl⟩
theorem jump1 {t : Nat} {l : List Nat} (hc : CdA C pc (op :: (u16b t ++ l))) (ht : t < 65536) (hk : opArgs op = 2) (hI : wantI op ≤ f.ops.length) (hR : (wantR op : Int) ≤ kR f s) (x : Int × Nat) :
    stepV C I (vm (f :: r) pc s x) s.M = execV C I op pc (vm (f :: r) (pc + 3) s (wr64 (x.1 + 1), x.2)) s.M ∧ u16V C (pc + 1) = t := by
  obtain ⟨h0, hl, h1⟩ := hc.hd
  simp only [u16b, List.length_append, List.length_cons, List.length_nil] at hl
  exact ⟨stepK (C := C) (I := I) (s := s) (f := f) (r := r) (k := 2) h0 hk (by omega) hI hR x, h1.app.1.u16 ht⟩
theorem jump_on {V : Vs} {a t : Nat} (h1 : a < t) (h2 : t < C.length) : jumpV C V a t = { V with pc := t } := by unfold jumpV; rw [if_neg (by omega), if_neg (by omega)]
theorem i_jmp {t : Nat} {l : List Nat} (hc : CdA C pc (21 :: (u16b t ++ l))) (ht : t < 65536) (h1 : pc < t) (h2 : t < C.length) (hk : 0 ≤ kR f s) : To C I (f :: r) pc s (f :: r) t s := To.one fun x => ⟨(wr64 (x.1 + 1), x.2), by
  obtain ⟨e1, e2⟩ := jump1 (I := I) (s := s) (f := f) (r := r) hc ht rfl (Nat.zero_le _) hk x
  rw [e1]
  simp only [execV, Nat.reduceEqDiff, ↓reduceIte, or_false, Nat.lt_irrefl]
  rw [e2, jump_on h1 h2]
  rfl⟩
theorem i_back {t : Nat} {l : List Nat} (hc : CdA C pc (21 :: (u16b t ++ l))) (ht : t < 65536) (h1 : t ≤ pc) (hk : 0 ≤ kR f s) :
    (¬ s.fuel ≤ 0 → To C I (f :: r) pc s (f :: r) t { s with fuel := s.fuel - 1 }) ∧ (s.fuel ≤ 0 → En C I (f :: r) pc s 22 s) := by
  have h2 : t < C.length := by have := hc.hd.2.1; omega
  have e : ∀ x, stepV C I (vm (f :: r) pc s x) s.M = (if s.fuel ≤ 0 then (vm (f :: r) (pc + 3) s (wr64 (x.1 + 1), x.2)).die 22 else { vm (f :: r) (pc + 3) s (wr64 (x.1 + 1), x.2) with fuel := s.fuel - 1, pc := t }, s.M) := fun x => by
    obtain ⟨e1, e2⟩ := jump1 (I := I) (s := s) (f := f) (r := r) hc ht rfl (Nat.zero_le _) hk x
    rw [e1]
    simp only [execV, Nat.reduceEqDiff, ↓reduceIte, or_false, Nat.lt_irrefl]
    rw [e2]
    unfold jumpV
    rw [if_neg (by omega), if_pos h1]
    rfl
  refine ⟨fun h0 => To.one fun x => ⟨(wr64 (x.1 + 1), x.2), ?_⟩, fun h0 => En.one fun x => ⟨_, _, e x, ?_⟩⟩
  · rw [e x, if_neg h0]; rfl
  · rw [if_pos h0]; exact ⟨rfl, rfl, rfl, rfl⟩
/-- A jump on a condition; z: it jumps on zero. -/
theorem i_jif {t : Nat} {l : List Nat} {o : List Int} {v : Int} (z : Bool) (hc : CdA C pc ((if z then 22 else 23) :: (u16b t ++ l))) (ht : t < 65536) (h1 : pc < t) (h2 : t < C.length) (ho : f.ops = o ++ [v]) (hk : 0 ≤ kR f s) :
    To C I (f :: r) pc s (fo f o :: r) (if decide (v = 0) = z then t else pc + 3) s := To.one fun x => ⟨(wr64 (x.1 + 1), x.2), by
  cases z
  · simp only [Bool.false_eq_true, ↓reduceIte] at hc
    obtain ⟨e1, e2⟩ := jump1 (I := I) (s := s) (f := f) (r := r) hc ht rfl (by rw [ho]; simp [wantI]) hk x
    rw [e1]
    simp only [execV, Nat.reduceEqDiff, ↓reduceIte, or_false, Nat.reduceLT]
    rw [e2, opn0 ho, vm_drop, ho, take1]
    by_cases hv : v = 0
    · rw [if_pos hv, if_neg (by simp [hv])]
    · rw [if_neg hv, if_pos (by simp [hv]), jump_on h1 h2]
      rfl
  · simp only [↓reduceIte] at hc
    obtain ⟨e1, e2⟩ := jump1 (I := I) (s := s) (f := f) (r := r) hc ht rfl (by rw [ho]; simp [wantI]) hk x
    rw [e1]
    simp only [execV, Nat.reduceEqDiff, ↓reduceIte, or_false, Nat.reduceLT]
    rw [e2, opn0 ho, vm_drop, ho, take1]
    by_cases hv : v = 0
    · rw [if_pos hv, if_pos (by simp [hv]), jump_on h1 h2]
      rfl
    · rw [if_neg hv, if_neg (by simp [hv])]⟩
end
end Go.Proofs.Qxb6500277aGreat
