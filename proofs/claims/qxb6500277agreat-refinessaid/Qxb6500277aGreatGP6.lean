/- Single instructions: call, return. -/
import Derived.Test.Qxb6500277aGreatGP5
namespace Go.Proofs.Qxb6500277aGreat
open Go Go.RowKit

section
variable {C : List Nat} {I : List Int} {pc op : Nat} {s : Ss} {f g : Fm} {r : List Fm} {y : Int × Nat}
/-- The callee's frame. -/
def nf (s : Ss) (vs : List Int) (pr li lr ret : Nat) : Fm := ⟨ret, vs ++ List.replicate (li - vs.length) 0, [], s.M.rt.length - pr, lr⟩
theorem enter1 {t pi pr li lr : Nat} {l l2 : List Nat} {o vs : List Int} (hc : CdA C pc (24 :: (u16b t ++ l))) (ht : t < 65536) (he : CdA C t (25 :: pi :: pr :: li :: lr :: l2)) (ho : f.ops = o ++ vs) (hv : vs.length = pi) (hr : (pr : Int) ≤ kR f s) (hli : pi ≤ li) (hlr : pr ≤ lr) (x : Int × Nat) :
    stepV C I (vm (f :: r) pc s x) s.M = enterV (vm (f :: r) (pc + 3) s (wr64 (x.1 + 1), x.2)) s.M t pi pr li lr (pc + 3) := by
  obtain ⟨e1, e2⟩ := jump1 (I := I) (s := s) (f := f) (r := r) hc ht rfl (Nat.zero_le _) (by have : (wantR 24 : Int) = 0 := rfl; omega) x
  obtain ⟨a0, al, a⟩ := he.hd
  obtain ⟨a1, _, a⟩ := a.hd
  obtain ⟨a2, _, a⟩ := a.hd
  obtain ⟨a3, _, a⟩ := a.hd
  obtain ⟨a4, _, a⟩ := a.hd
  simp only [List.length_cons] at al
  rw [e1]
  simp only [execV, Nat.reduceEqDiff, ↓reduceIte, or_false, Nat.reduceLT]
  rw [e2]
  unfold callV
  have b1 : byteAt C (t + 1) = pi := a1
  have b2 : byteAt C (t + 2) = pr := a2
  have b3 : byteAt C (t + 3) = li := a3
  have b4 : byteAt C (t + 4) = lr := a4
  have c1 : (topO (vm (f :: r) (pc + 3) s (wr64 (x.1 + 1), x.2))).length = o.length + pi := by show f.ops.length = _; rw [ho, List.length_append, hv]
  have c2 : ropsV (vm (f :: r) (pc + 3) s (wr64 (x.1 + 1), x.2)) s.M = kR f s := rfl
  have c3 : (vm (f :: r) (pc + 3) s (wr64 (x.1 + 1), x.2)).fs = f :: r := rfl
  rw [b1, b2, b3, b4, a0, c1, c2, c3, if_neg (by omega), if_neg (by omega), if_neg (by simp; omega)]
theorem used_drop {o vs : List Int} (ho : f.ops = o ++ vs) : (usedF (f :: r) : Int) = usedF (fo f o :: r) + vs.length := by
  simp only [usedF, fo, ho, List.length_append]
  omega
theorem i_call {t pi pr li lr : Nat} {l l2 : List Nat} {o vs : List Int} (hc : CdA C pc (24 :: (u16b t ++ l))) (ht : t < 65536) (he : CdA C t (25 :: pi :: pr :: li :: lr :: l2)) (ho : f.ops = o ++ vs) (hv : vs.length = pi) (hr : (pr : Int) ≤ kR f s) (hli : pi ≤ li) (hlr : pr ≤ lr) :
    (s.fuel ≤ 0 → En C I (f :: r) pc s 22 s) ∧
    (¬ s.fuel ≤ 0 → (48 < (usedF (f :: r) : Int) - pi + 3 + li ∨ (24 : Int) < (s.M.rt.length : Int) + lr - pr) → En C I (f :: r) pc s 29 { s with fuel := s.fuel - 1 }) ∧
    (¬ s.fuel ≤ 0 → ¬ (48 < (usedF (f :: r) : Int) - pi + 3 + li ∨ (24 : Int) < (s.M.rt.length : Int) + lr - pr) → ∀ (loc : List Int) (rb : Nat) (us : Int), To C I (f :: r) pc s (nf s vs pr li lr (pc + 3) :: fo f o :: r) (t + 5) ⟨loc, rb, us, nilsM (lr - pr) s.M, s.fuel - 1, s.ip, s.out⟩) := by
  have e := fun x => enter1 (I := I) (r := r) hc ht he ho hv hr hli hlr x
  have c1 : ∀ x : Int × Nat, (vm (f :: r) (pc + 3) s (wr64 (x.1 + 1), x.2)).fuel = s.fuel := fun _ => rfl
  have c2 : ∀ x : Int × Nat, (vm (f :: r) (pc + 3) s (wr64 (x.1 + 1), x.2)).fs = f :: r := fun _ => rfl
  refine ⟨fun h => En.one fun x => ⟨_, _, (e x).trans (by unfold enterV; rw [c1, if_pos h]), rfl, rfl, rfl, rfl⟩, fun h h2 => En.one fun x => ⟨_, _, (e x).trans (by unfold enterV; rw [c1, c2, if_neg h, if_pos (by omega)]), rfl, rfl, rfl, rfl⟩, fun h h2 loc rb us => To.one fun x => ⟨(wr64 (x.1 + 1), max x.2 (usedF (f :: r) - pi + li + 3)), ?_⟩⟩
  rw [e x]
  unfold enterV
  rw [c1, c2, if_neg h, if_neg (by omega)]
  have n1 : newF (vm (f :: r) (pc + 3) s (wr64 (x.1 + 1), x.2)) s.M pi pr li lr (pc + 3) = nf s vs pr li lr (pc + 3) := by
    unfold newF nf
    have : topO (vm (f :: r) (pc + 3) s (wr64 (x.1 + 1), x.2)) = o ++ vs := ho
    rw [this, hv]
    simp [hv]
  have n2 : dropO (vm (f :: r) (pc + 3) s (wr64 (x.1 + 1), x.2)) pi = vm (fo f o :: r) (pc + 3) s (wr64 (x.1 + 1), x.2) := by
    rw [vm_drop, ho, ← hv]
    simp
  rw [n1, n2]
  rfl
/-- A return to a caller. -/
theorem i_retI {v : Int} {o : List Int} (hc : byteAt C pc = 26 ∧ pc + 1 ≤ C.length) (ho : f.ops = o ++ [v]) (hk : 0 ≤ kR f s) (hu : ¬ 48 ≤ usedF (g :: r)) (loc : List Int) (rb : Nat) (us : Int) :
    To C I (f :: g :: r) pc s (fo g (g.ops ++ [v]) :: r) f.ret ⟨loc, rb, us, (popM s.M (dtop s.M 0 - f.rb)).2, s.fuel, s.ip, s.out⟩ := To.one fun x => ⟨(wr64 (x.1 + 1), max x.2 (usedF (g :: r) + 1)), by
  rw [byte1 hc rfl (by rw [ho]; simp [wantI]) hk x]
  simp only [execV, Nat.reduceEqDiff, ↓reduceIte, or_false, Nat.reduceLT]
  rw [opn0 ho, show leaveV (vm (f :: g :: r) (pc + 1) s (wr64 (x.1 + 1), x.2)) = vm (g :: r) f.ret s (wr64 (x.1 + 1), x.2) from rfl, if_neg (show ¬ (vm (g :: r) f.ret s (wr64 (x.1 + 1), x.2)).fs = [] from by simp [vm]), vm_push, if_neg hu]
  rw [show (s.M.rt.length : Int) - (topF (vm (f :: g :: r) (pc + 1) s (wr64 (x.1 + 1), x.2))).rb = dtop s.M 0 - f.rb from by show (s.M.rt.length : Int) - f.rb = dtop s.M 0 - f.rb; unfold dtop; omega]
  rfl⟩
theorem i_retR (hc : byteAt C pc = 27 ∧ pc + 1 ≤ C.length) (hk : 1 ≤ kR f s) (loc : List Int) (rb : Nat) (us : Int) :
    To C I (f :: g :: r) pc s (g :: r) f.ret ⟨loc, rb, us, (slideM s.M (dtop s.M 1 - f.rb)).2, s.fuel, s.ip, s.out⟩ := To.one fun x => ⟨(wr64 (x.1 + 1), x.2), by
  rw [byte1 hc rfl (Nat.zero_le _) hk x]
  simp only [execV, Nat.reduceEqDiff, ↓reduceIte, or_false, Nat.reduceLT]
  rw [if_neg (show ¬ (vm (f :: g :: r) (pc + 1) s (wr64 (x.1 + 1), x.2)).fs.length = 1 from by simp [vm])]
  rw [show (s.M.rt.length : Int) - (topF (vm (f :: g :: r) (pc + 1) s (wr64 (x.1 + 1), x.2))).rb - 1 = dtop s.M 1 - f.rb from by show (s.M.rt.length : Int) - f.rb - 1 = dtop s.M 1 - f.rb; unfold dtop; omega]
  rfl⟩
/-- The end of main. -/
theorem i_end {v : Int} {o : List Int} (hc : byteAt C pc = 26 ∧ pc + 1 ≤ C.length) (ho : f.ops = o ++ [v]) (hk : 0 ≤ kR f s) (x : Int × Nat) :
    ∃ V' M', stepV C I (vm [f] pc s x) s.M = (V', M') ∧ V'.en = 21 ∧ V'.rt = v ∧ V'.out = s.out ∧ V'.fuel = s.fuel := by
  refine ⟨_, _, (byte1 hc rfl (by rw [ho]; simp [wantI]) hk x).trans (by simp only [execV, Nat.reduceEqDiff, ↓reduceIte, or_false, Nat.reduceLT]; rw [opn0 ho, show leaveV (vm [f] (pc + 1) s (wr64 (x.1 + 1), x.2)) = vm [] f.ret s (wr64 (x.1 + 1), x.2) from rfl, if_pos (show (vm [] f.ret s (wr64 (x.1 + 1), x.2)).fs = [] from rfl)]), rfl, rfl, rfl, rfl⟩
end
end Go.Proofs.Qxb6500277aGreat
