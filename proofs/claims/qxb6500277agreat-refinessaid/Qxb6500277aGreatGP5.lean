/- Single instructions: arrays, print, read, call, return. -/
import Derived.Test.Qxb6500277aGreatGP4
namespace Go.Proofs.Qxb6500277aGreat
open Go Go.RowKit

section
variable {C : List Nat} {I : List Int} {pc op : Nat} {s : Ss} {f : Fm} {r : List Fm} {y : Int × Nat}
theorem i_new {o : List Int} {v : Int} (isR : Bool) (hc : byteAt C pc = (if isR then 29 else 28) ∧ pc + 1 ≤ C.length) (ho : f.ops = o ++ [v]) (hk : 0 ≤ kR f s) :
    ((allocM s.M (if isR then v else 0) (if isR then 0 else v)).1 = 0 → To C I (f :: r) pc s (fo f o :: r) (pc + 1) { s with M := (allocM s.M (if isR then v else 0) (if isR then 0 else v)).2 }) ∧
    ((allocM s.M (if isR then v else 0) (if isR then 0 else v)).1 ≠ 0 → En C I (f :: r) pc s (endOf (allocM s.M (if isR then v else 0) (if isR then 0 else v)).1) s) := by
  have e : ∀ x, stepV C I (vm (f :: r) pc s x) s.M = (did (vm (fo f o :: r) (pc + 1) s (wr64 (x.1 + 1), x.2)) (allocM s.M (if isR then v else 0) (if isR then 0 else v)).1, (allocM s.M (if isR then v else 0) (if isR then 0 else v)).2) := fun x => by
    cases isR
    · simp only [Bool.false_eq_true, ↓reduceIte] at hc
      rw [byte1 hc rfl (by rw [ho]; simp [wantI]) hk x]
      simp only [execV, Nat.reduceEqDiff, ↓reduceIte, or_false, Nat.reduceLT]
      rw [opn0 ho, vm_drop, ho, take1]
      rfl
    · simp only [↓reduceIte] at hc
      rw [byte1 hc rfl (by rw [ho]; simp [wantI]) hk x]
      simp only [execV, Nat.reduceEqDiff, ↓reduceIte, or_false, Nat.reduceLT]
      rw [opn0 ho, vm_drop, ho, take1]
  refine ⟨fun h0 => To.one fun x => ⟨(wr64 (x.1 + 1), x.2), ?_⟩, fun h0 => En.one fun x => ⟨_, _, e x, ?_⟩⟩
  · rw [e x]; unfold did; rw [if_pos h0]; rfl
  · unfold did; rw [if_neg h0]; exact ⟨rfl, rfl, rfl, rfl⟩
theorem i_getI {o : List Int} {v : Int} (hc : byteAt C pc = 30 ∧ pc + 1 ≤ C.length) (ho : f.ops = o ++ [v]) (hk : 1 ≤ kR f s) :
    ((ldIntM s.M (dtop s.M 1) v).2 = 0 → To C I (f :: r) pc s (fo f (o ++ [(ldIntM s.M (dtop s.M 1) v).1]) :: r) (pc + 1) { s with M := (popM s.M 1).2 }) ∧ ((ldIntM s.M (dtop s.M 1) v).2 ≠ 0 → En C I (f :: r) pc s (endOf (ldIntM s.M (dtop s.M 1) v).2) s) := by
  have e0 : ∀ x, stepV C I (vm (f :: r) pc s x) s.M = if (ldIntM s.M (dtop s.M 1) v).2 = 0 then (vm (fo f (o ++ [(ldIntM s.M (dtop s.M 1) v).1]) :: r) (pc + 1) s (wr64 (x.1 + 1), x.2), (popM s.M 1).2) else ((vm (f :: r) (pc + 1) s (wr64 (x.1 + 1), x.2)).die (endOf (ldIntM s.M (dtop s.M 1) v).2), s.M) := fun x => by
    rw [byte1 hc rfl (by rw [ho]; simp [wantI]) hk x]
    simp only [execV, Nat.reduceEqDiff, ↓reduceIte, or_false, Nat.reduceLT]
    rw [opn0 ho, vm_put, ho, take1]
    rfl
  refine ⟨fun h0 => To.one fun x => ⟨(wr64 (x.1 + 1), x.2), ?_⟩, fun h0 => En.one fun x => ⟨_, _, (e0 x).trans (if_neg h0), rfl, rfl, rfl, rfl⟩⟩
  rw [e0 x, if_pos h0]
  rfl
theorem i_getR {o : List Int} {v : Int} (hc : byteAt C pc = 31 ∧ pc + 1 ≤ C.length) (ho : f.ops = o ++ [v]) (hk : 1 ≤ kR f s) :
    ((ldRefM s.M (dtop s.M 1) v (dtop s.M 1)).1 = 0 → To C I (f :: r) pc s (fo f o :: r) (pc + 1) { s with M := (ldRefM s.M (dtop s.M 1) v (dtop s.M 1)).2 }) ∧ ((ldRefM s.M (dtop s.M 1) v (dtop s.M 1)).1 ≠ 0 → En C I (f :: r) pc s (endOf (ldRefM s.M (dtop s.M 1) v (dtop s.M 1)).1) s) := by
  have e : ∀ x, stepV C I (vm (f :: r) pc s x) s.M = (did (vm (fo f o :: r) (pc + 1) s (wr64 (x.1 + 1), x.2)) (ldRefM s.M (dtop s.M 1) v (dtop s.M 1)).1, (ldRefM s.M (dtop s.M 1) v (dtop s.M 1)).2) := fun x => by
    rw [byte1 hc rfl (by rw [ho]; simp [wantI]) hk x]
    simp only [execV, Nat.reduceEqDiff, ↓reduceIte, or_false, Nat.reduceLT]
    rw [opn0 ho, vm_drop, ho, take1]
    rfl
  refine ⟨fun h0 => To.one fun x => ⟨(wr64 (x.1 + 1), x.2), ?_⟩, fun h0 => En.one fun x => ⟨_, _, e x, ?_⟩⟩
  · rw [e x]; unfold did; rw [if_pos h0]; rfl
  · unfold did; rw [if_neg h0]; exact ⟨rfl, rfl, rfl, rfl⟩
theorem i_setI {o : List Int} {i v : Int} (hc : byteAt C pc = 32 ∧ pc + 1 ≤ C.length) (ho : f.ops = o ++ [i, v]) (hk : 1 ≤ kR f s) :
    ((stIntM s.M (dtop s.M 1) i v).1 = 0 → To C I (f :: r) pc s (fo f o :: r) (pc + 1) { s with M := (popM (stIntM s.M (dtop s.M 1) i v).2 1).2 }) ∧ ((stIntM s.M (dtop s.M 1) i v).1 ≠ 0 → En C I (f :: r) pc s (endOf (stIntM s.M (dtop s.M 1) i v).1) s) := by
  have e0 : ∀ x, stepV C I (vm (f :: r) pc s x) s.M = if (stIntM s.M (dtop s.M 1) i v).1 = 0 then (vm (fo f o :: r) (pc + 1) s (wr64 (x.1 + 1), x.2), (popM (stIntM s.M (dtop s.M 1) i v).2 1).2) else ((vm (fo f o :: r) (pc + 1) s (wr64 (x.1 + 1), x.2)).die (endOf (stIntM s.M (dtop s.M 1) i v).1), (stIntM s.M (dtop s.M 1) i v).2) := fun x => by
    rw [byte1 hc rfl (by rw [ho]; simp [wantI]) hk x]
    simp only [execV, Nat.reduceEqDiff, ↓reduceIte, or_false, Nat.reduceLT]
    rw [(opn1 ho).1, (opn1 ho).2, vm_drop, ho, take2]
    rfl
  refine ⟨fun h0 => To.one fun x => ⟨(wr64 (x.1 + 1), x.2), ?_⟩, fun h0 => En.one fun x => ⟨_, _, (e0 x).trans (if_neg h0), rfl, rfl, rfl, rfl⟩⟩
  rw [e0 x, if_pos h0]
  rfl
theorem i_setR {o : List Int} {i : Int} (hc : byteAt C pc = 33 ∧ pc + 1 ≤ C.length) (ho : f.ops = o ++ [i]) (hk : 2 ≤ kR f s) :
    ((stRefM s.M (dtop s.M 2) i (dtop s.M 1)).1 = 0 → To C I (f :: r) pc s (fo f o :: r) (pc + 1) { s with M := (popM (stRefM s.M (dtop s.M 2) i (dtop s.M 1)).2 2).2 }) ∧ ((stRefM s.M (dtop s.M 2) i (dtop s.M 1)).1 ≠ 0 → En C I (f :: r) pc s (endOf (stRefM s.M (dtop s.M 2) i (dtop s.M 1)).1) s) := by
  have e0 : ∀ x, stepV C I (vm (f :: r) pc s x) s.M = if (stRefM s.M (dtop s.M 2) i (dtop s.M 1)).1 = 0 then (vm (fo f o :: r) (pc + 1) s (wr64 (x.1 + 1), x.2), (popM (stRefM s.M (dtop s.M 2) i (dtop s.M 1)).2 2).2) else ((vm (fo f o :: r) (pc + 1) s (wr64 (x.1 + 1), x.2)).die (endOf (stRefM s.M (dtop s.M 2) i (dtop s.M 1)).1), (stRefM s.M (dtop s.M 2) i (dtop s.M 1)).2) := fun x => by
    rw [byte1 hc rfl (by rw [ho]; simp [wantI]) hk x]
    simp only [execV, Nat.reduceEqDiff, ↓reduceIte, or_false, Nat.reduceLT]
    rw [opn0 ho, vm_drop, ho, take1]
    rfl
  refine ⟨fun h0 => To.one fun x => ⟨(wr64 (x.1 + 1), x.2), ?_⟩, fun h0 => En.one fun x => ⟨_, _, (e0 x).trans (if_neg h0), rfl, rfl, rfl, rfl⟩⟩
  rw [e0 x, if_pos h0]
  rfl
theorem i_len (hc : byteAt C pc = 34 ∧ pc + 1 ≤ C.length) (hk : 1 ≤ kR f s) :
    ((lenM s.M (dtop s.M 1)).2.2 = 0 → ¬ 48 ≤ usedF (f :: r) → To C I (f :: r) pc s (fo f (f.ops ++ [(lenM s.M (dtop s.M 1)).1 + (lenM s.M (dtop s.M 1)).2.1]) :: r) (pc + 1) { s with M := (popM s.M 1).2 }) ∧
    ((lenM s.M (dtop s.M 1)).2.2 = 0 → 48 ≤ usedF (f :: r) → En C I (f :: r) pc s 29 s) ∧ ((lenM s.M (dtop s.M 1)).2.2 ≠ 0 → En C I (f :: r) pc s (endOf (lenM s.M (dtop s.M 1)).2.2) s) := by
  have e0 : ∀ x, stepV C I (vm (f :: r) pc s x) s.M = if (lenM s.M (dtop s.M 1)).2.2 = 0 then (pushV (vm (f :: r) (pc + 1) s (wr64 (x.1 + 1), x.2)) ((lenM s.M (dtop s.M 1)).1 + (lenM s.M (dtop s.M 1)).2.1), (popM s.M 1).2) else ((vm (f :: r) (pc + 1) s (wr64 (x.1 + 1), x.2)).die (endOf (lenM s.M (dtop s.M 1)).2.2), s.M) := fun x => by
    rw [byte1 hc rfl (Nat.zero_le _) hk x]
    simp only [execV, Nat.reduceEqDiff, ↓reduceIte, or_false, Nat.reduceLT]
    rfl
  refine ⟨fun h0 hu => To.one fun x => ⟨(wr64 (x.1 + 1), max x.2 (usedF (f :: r) + 1)), ?_⟩, fun h0 hu => En.one fun x => ⟨_, _, (e0 x).trans (if_pos h0), ?_⟩, fun h0 => En.one fun x => ⟨_, _, (e0 x).trans (if_neg h0), rfl, rfl, rfl, rfl⟩⟩
  · rw [e0 x, if_pos h0, vm_push, if_neg hu]
    rfl
  · rw [vm_push, if_pos hu]
    exact ⟨rfl, rfl, rfl, rfl⟩
theorem i_print {o : List Int} {v : Int} (hc : byteAt C pc = 35 ∧ pc + 1 ≤ C.length) (ho : f.ops = o ++ [v]) (hk : 0 ≤ kR f s) :
    (¬ 1024 ≤ s.out.length → To C I (f :: r) pc s (fo f o :: r) (pc + 1) { s with out := s.out ++ [v] }) ∧ (1024 ≤ s.out.length → En C I (f :: r) pc s 33 s) := by
  have e0 : ∀ x, stepV C I (vm (f :: r) pc s x) s.M = (if 1024 ≤ s.out.length then (vm (fo f o :: r) (pc + 1) s (wr64 (x.1 + 1), x.2)).die 33 else { vm (fo f o :: r) (pc + 1) s (wr64 (x.1 + 1), x.2) with out := s.out ++ [v] }, s.M) := fun x => by
    rw [byte1 hc rfl (by rw [ho]; simp [wantI]) hk x]
    simp only [execV, Nat.reduceEqDiff, ↓reduceIte, or_false, Nat.reduceLT]
    rw [opn0 ho, vm_drop, ho, take1]
    rfl
  refine ⟨fun h0 => To.one fun x => ⟨(wr64 (x.1 + 1), x.2), ?_⟩, fun h0 => En.one fun x => ⟨_, _, e0 x, ?_⟩⟩
  · rw [e0 x, if_neg h0]; rfl
  · rw [if_pos h0]; exact ⟨rfl, rfl, rfl, rfl⟩
theorem i_read (hc : byteAt C pc = 36 ∧ pc + 1 ≤ C.length) (hk : 0 ≤ kR f s) :
    (I.length ≤ s.ip → En C I (f :: r) pc s 30 s) ∧ (¬ I.length ≤ s.ip → ¬ 48 ≤ usedF (f :: r) → To C I (f :: r) pc s (fo f (f.ops ++ [I.getD s.ip 0]) :: r) (pc + 1) { s with ip := s.ip + 1 }) ∧ (¬ I.length ≤ s.ip → 48 ≤ usedF (f :: r) → En C I (f :: r) pc s 29 s) := by
  have e0 : ∀ x, stepV C I (vm (f :: r) pc s x) s.M = (if I.length ≤ s.ip then (vm (f :: r) (pc + 1) s (wr64 (x.1 + 1), x.2)).die 30 else { pushV (vm (f :: r) (pc + 1) s (wr64 (x.1 + 1), x.2)) (I.getD s.ip 0) with ip := s.ip + 1 }, s.M) := fun x => by
    rw [byte1 hc rfl (Nat.zero_le _) hk x]
    simp only [execV, Nat.reduceEqDiff, ↓reduceIte, or_false, Nat.reduceLT]
    rfl
  refine ⟨fun h0 => En.one fun x => ⟨_, _, e0 x, ?_⟩, fun h0 hu => To.one fun x => ⟨(wr64 (x.1 + 1), max x.2 (usedF (f :: r) + 1)), ?_⟩, fun h0 hu => En.one fun x => ⟨_, _, e0 x, ?_⟩⟩
  · rw [if_pos h0]; exact ⟨rfl, rfl, rfl, rfl⟩
  · rw [e0 x, if_neg h0, vm_push, if_neg hu]; rfl
  · rw [if_neg h0, vm_push, if_pos hu]; exact ⟨rfl, rfl, rfl, rfl⟩
end
end Go.Proofs.Qxb6500277aGreat
