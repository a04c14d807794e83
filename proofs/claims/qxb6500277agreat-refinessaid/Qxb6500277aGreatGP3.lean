/- Single instructions. -/
import Derived.Test.Qxb6500277aGreatGP2
namespace Go.Proofs.Qxb6500277aGreat
open Go Go.RowKit

/-- The frame's operands. -/
def fo (f : Fm) (o : List Int) : Fm := { f with ops := o }
def kR (f : Fm) (s : Ss) : Int := (s.M.rt.length : Int) - f.rb - f.lr
section
variable {C : List Nat} {I : List Int} {pc op : Nat} {s : Ss} {f : Fm} {r : List Fm} {y : Int × Nat}
theorem vm_drop (k : Nat) : dropO (vm (f :: r) pc s y) k = vm (fo f (f.ops.take (f.ops.length - k)) :: r) pc s y := rfl
theorem vm_put (k : Nat) (v : Int) : putO (vm (f :: r) pc s y) k v = vm (fo f (f.ops.take (f.ops.length - k) ++ [v]) :: r) pc s y := rfl
theorem vm_push (v : Int) : pushV (vm (f :: r) pc s y) v = if 48 ≤ usedF (f :: r) then (vm (f :: r) pc s y).die 29 else vm (fo f (f.ops ++ [v]) :: r) pc s (y.1, max y.2 (usedF (f :: r) + 1)) := rfl
theorem vm_opn (k : Nat) : opn (vm (f :: r) pc s y) k = f.ops.getD (f.ops.length - 1 - k) 0 := rfl
theorem opn0 {o : List Int} {v : Int} (h : f.ops = o ++ [v]) : opn (vm (f :: r) pc s y) 0 = v := by rw [vm_opn, h]; simp
theorem opn1 {o : List Int} {v u : Int} (h : f.ops = o ++ [v, u]) : opn (vm (f :: r) pc s y) 1 = v ∧ opn (vm (f :: r) pc s y) 0 = u := by
  rw [vm_opn, vm_opn, h]; simp
theorem take1 {o : List Int} {v : Int} : (o ++ [v]).take ((o ++ [v]).length - 1) = o := by simp
theorem take2 {o : List Int} {v u : Int} : (o ++ [v, u]).take ((o ++ [v, u]).length - 2) = o := by simp
/-- An instruction of one byte. -/
theorem byte1 (hc : byteAt C pc = op ∧ pc + 1 ≤ C.length) (hk : opArgs op = 0) (hI : wantI op ≤ f.ops.length) (hR : (wantR op : Int) ≤ kR f s) (x : Int × Nat) :
    stepV C I (vm (f :: r) pc s x) s.M = execV C I op pc (vm (f :: r) (pc + 1) s (wr64 (x.1 + 1), x.2)) s.M := by
  have := stepK (C := C) (I := I) (s := s) (f := f) (r := r) (k := 0) hc.1 hk (by omega) hI hR x
  simpa using this
theorem CdA.b1 {l : List Nat} (hc : CdA C pc (op :: l)) : byteAt C pc = op ∧ pc + 1 ≤ C.length := by
  obtain ⟨h0, hl, _⟩ := hc.hd
  exact ⟨h0, by omega⟩
theorem i_push {v : Int} {l : List Nat} (hc : CdA C pc (0 :: (i64b v ++ l))) (h1 : -9223372036854775808 ≤ v) (h2 : v < 9223372036854775808) (hk : 0 ≤ kR f s) :
    (¬ 48 ≤ usedF (f :: r) → To C I (f :: r) pc s (fo f (f.ops ++ [v]) :: r) (pc + 9) s) ∧ (48 ≤ usedF (f :: r) → En C I (f :: r) pc s 29 s) := by
  obtain ⟨h0, hl, hi⟩ := hc.hd
  have hv := hi.app.1.i64 h1 h2
  simp only [i64b, List.length_cons, List.length_nil, List.length_append] at hl
  have e := fun x => stepK (C := C) (I := I) (s := s) (f := f) (r := r) (k := 8) h0 rfl (by omega) (Nat.zero_le _) hk x
  have e2 : ∀ V M, execV C I 0 pc V M = (pushV V (i64V C (pc + 1)), M) := fun V M => rfl
  refine ⟨fun hu => To.one fun x => ⟨(wr64 (x.1 + 1), max x.2 (usedF (f :: r) + 1)), ?_⟩, fun hu => En.one fun x => ⟨_, _, (e x).trans (e2 _ _), ?_⟩⟩
  · rw [e x, e2, hv, vm_push, if_neg hu]
  · rw [vm_push, if_pos hu]
    exact ⟨rfl, rfl, rfl, rfl⟩
theorem i_pop {o : List Int} {v : Int} (hc : byteAt C pc = 1 ∧ pc + 1 ≤ C.length) (ho : f.ops = o ++ [v]) (hk : 0 ≤ kR f s) : To C I (f :: r) pc s (fo f o :: r) (pc + 1) s := To.one fun x => ⟨(wr64 (x.1 + 1), x.2), by
  rw [byte1 hc rfl (by rw [ho]; simp [wantI]) hk x, show ∀ V M, execV C I 1 pc V M = (dropO V 1, M) from fun _ _ => rfl, vm_drop, ho, take1]⟩
theorem i_neg {o : List Int} {v : Int} (hc : byteAt C pc = 13 ∧ pc + 1 ≤ C.length) (ho : f.ops = o ++ [v]) (hk : 0 ≤ kR f s) : To C I (f :: r) pc s (fo f (o ++ [wr64 (-v)]) :: r) (pc + 1) s := To.one fun x => ⟨(wr64 (x.1 + 1), x.2), by
  rw [byte1 hc rfl (by rw [ho]; simp [wantI]) hk x, show ∀ V M, execV C I 13 pc V M = (putO V 1 (wr64 (-(opn V 0))), M) from fun _ _ => rfl, vm_put, opn0 ho, ho, take1]⟩
theorem i_not {o : List Int} {v : Int} (hc : byteAt C pc = 14 ∧ pc + 1 ≤ C.length) (ho : f.ops = o ++ [v]) (hk : 0 ≤ kR f s) : To C I (f :: r) pc s (fo f (o ++ [flagI (decide (v = 0))]) :: r) (pc + 1) s := To.one fun x => ⟨(wr64 (x.1 + 1), x.2), by
  rw [byte1 hc rfl (by rw [ho]; simp [wantI]) hk x, show ∀ V M, execV C I 14 pc V M = (putO V 1 (flagI (decide (opn V 0 = 0))), M) from fun _ _ => rfl, vm_put, opn0 ho, ho, take1]⟩
/-- The operators that do not trap. -/
theorem i_bin {o : List Int} {v u k : Int} (hc : byteAt C pc = opB k ∧ pc + 1 ≤ C.length) (ho : f.ops = o ++ [v, u]) (hk : 0 ≤ kR f s) (hz : ¬ ((k = 35 ∨ k = 36) ∧ u = 0)) :
    To C I (f :: r) pc s (fo f (o ++ [binI k v u]) :: r) (pc + 1) s := To.one fun x => ⟨(wr64 (x.1 + 1), x.2), by
  have h1 := fun p => (opn1 (r := r) (pc := p) (s := s) (y := (wr64 (x.1 + 1), x.2)) ho).1
  have h0 := fun p => (opn1 (r := r) (pc := p) (s := s) (y := (wr64 (x.1 + 1), x.2)) ho).2
  have hcase : (opB k = 8 ∨ opB k = 9 ∨ opB k = 10) ∨ ((opB k = 11 ∨ opB k = 12) ∧ u ≠ 0) ∨ (opB k = 15 ∨ opB k = 16 ∨ opB k = 17 ∨ opB k = 18 ∨ opB k = 19 ∨ opB k = 20) := by
    unfold opB
    (repeat' split) <;> simp_all
  rcases hcase with h | ⟨h, hu⟩ | h
  · rcases h with h | h | h
    all_goals
      rw [h] at hc
      rw [byte1 hc rfl (by rw [ho]; simp [wantI]) hk x]
      simp only [execV]
      simp only [Nat.reduceEqDiff, ↓reduceIte, or_false, or_true]
      rw [vm_put, h1, h0, ho, take2]
      unfold binI
      rw [h]
      rfl
  · rcases h with h | h
    all_goals
      rw [h] at hc
      rw [byte1 hc rfl (by rw [ho]; simp [wantI]) hk x]
      simp only [execV]
      simp only [Nat.reduceEqDiff, ↓reduceIte, or_false, or_true]
      rw [h0, if_neg hu, vm_put, h1, ho, take2]
      unfold binI
      rw [h]
      rfl
  · rcases h with h | h | h | h | h | h
    all_goals
      rw [h] at hc
      rw [byte1 hc rfl (by rw [ho]; simp [wantI]) hk x]
      simp only [execV]
      simp only [Nat.reduceEqDiff, ↓reduceIte, or_false, Nat.reduceLT]
      rw [vm_put, h1, h0, ho, take2]
      unfold binI
      rw [h]
      rfl⟩
theorem i_div0 {o : List Int} {v k : Int} (hc : byteAt C pc = opB k ∧ pc + 1 ≤ C.length) (ho : f.ops = o ++ [v, 0]) (hk : 0 ≤ kR f s) (hz : k = 35 ∨ k = 36) : En C I (f :: r) pc s 25 s := En.one fun x => by
  have h0 := fun p => (opn1 (r := r) (pc := p) (s := s) (y := (wr64 (x.1 + 1), x.2)) ho).2
  have h : opB k = 11 ∨ opB k = 12 := by rcases hz with rfl | rfl <;> simp [opB]
  rcases h with h | h
  all_goals
    rw [h] at hc
    have e : stepV C I (vm (f :: r) pc s x) s.M = ((dropO (vm (f :: r) (pc + 1) s (wr64 (x.1 + 1), x.2)) 1).die 25, s.M) := by
      rw [byte1 hc rfl (by rw [ho]; simp [wantI]) hk x]
      simp only [execV]
      simp only [Nat.reduceEqDiff, ↓reduceIte, or_false, or_true]
      rw [h0, if_pos rfl]
    exact ⟨_, _, e, rfl, rfl, rfl, rfl⟩
end
end Go.Proofs.Qxb6500277aGreat
