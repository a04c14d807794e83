/- turns, whole. -/
import Derived.Test.Qxb6500283aGreatX4a
import Derived.Test.Qxb6500283aGreatX4b
namespace Go.Proofs.Qxb6500283aGreat
open Go Go.RowKit

def tuF (n : Nat) (f : Wf) (lz : Bool) (mn : Nat) (mx : Int) (count : Nat) : Wf :=
  if count < mn then mustF f (mn - count) (restF n f lz mn mx) else if mx < 0 then starF n f lz else optF f lz (mx.toNat - count)
section
variable {n : Nat} {f : Wf} {lz : Bool} {mn count : Nat} {mx : Int}
theorem tuF_must (h : count < mn) : tuF n f lz mn mx count = catF f (tuF n f lz mn mx (count + 1)) := by
  unfold tuF
  rw [if_pos h]
  obtain ⟨m, hm⟩ : ∃ m, mn - count = m + 1 := ⟨mn - count - 1, by omega⟩
  rw [hm]
  show catF f (mustF f m _) = _
  by_cases h2 : count + 1 < mn
  · rw [if_pos h2, show mn - (count + 1) = m by omega]
  · rw [if_neg h2]
    obtain rfl : m = 0 := by omega
    show catF f (restF n f lz mn mx) = _
    unfold restF
    rw [show count + 1 = mn by omega]
theorem tuF_star (h : mn ≤ count) (hx : mx < 0) : tuF n f lz mn mx count = starF n f lz := by
  unfold tuF
  rw [if_neg (by omega), if_pos hx]
theorem tuF_opt (h : mn ≤ count) (hx : ¬ mx < 0) : tuF n f lz mn mx count = optF f lz (mx.toNat - count) := by
  unfold tuF
  rw [if_neg (by omega), if_neg hx]
theorem tuF_zero : tuF n f lz mn mx 0 = mustF f mn (restF n f lz mn mx) := by
  unfold tuF
  by_cases h : 0 < mn
  · rw [if_pos h]; rfl
  · obtain rfl : mn = 0 := by omega
    rw [if_neg h]
    rfl
theorem Good.tu (hf : Good n f) : Good n (tuF n f lz mn mx count) := by
  unfold tuF
  split
  · exact Good.must hf (hf.rest lz mn mx) _
  · split
    · exact hf.star lz
    · exact hf.opt lz _
end
def tuM (S D count i : Nat) : Nat := (D - count) * (S + 1) + (S - i)
theorem tuM_up {S D count i j : Nat} (h : count < D) : tuM S D (count + 1) j < tuM S D count i := by
  unfold tuM
  obtain ⟨d, hd⟩ : ∃ d, D - count = d + 1 := ⟨D - count - 1, by omega⟩
  rw [hd, show D - (count + 1) = d by omega, Nat.succ_mul]
  generalize d * (S + 1) = u
  omega
theorem tuM_on {S D count i j : Nat} (h : i < j) (hj : j ≤ S) : tuM S D count j < tuM S D count i := by
  unfold tuM
  omega
theorem turns_any {ns : List Nd} {bk cp : Nat} {y g : Int} {s : ByteArray} {k A mn : Nat} {f : Wf} (hs : s.size ≤ 256) (hk : k < ns.length) (hkd : ns[k].kind = 6) (ha : ns[k].a = (A : Nat)) (hm : ns[k].mn = (mn : Nat)) (hmn : mn ≤ 3) (hx3 : ns[k].mx ≤ 3) (hF : WC ns bk cp y g s A f) (gf : Good s.size f) :
    ∀ m count, count ≤ 3 → TC ns bk cp y g s k count (fun i => tuM s.size (max mn ns[k].mx.toNat) count i ≤ m) (tuF s.size f ns[k].lz mn ns[k].mx count) := by
  intro m
  induction m using Nat.strongRecOn with
  | ind m ih =>
    intro count hct w i c hN hbl hi hM
    have hk24 : (k : Int) < ns.length := by omega
    have n0 := hN k hk 0 (by omega)
    have n1 := hN k hk 1 (by omega)
    have n2 := hN k hk 2 (by omega)
    have n3 := hN k hk 3 (by omega)
    have n4 := hN k hk 4 (by omega)
    have n5 := hN k hk 5 (by omega)
    have n6 := hN k hk 6 (by omega)
    have n7 := hN k hk 7 (by omega)
    have n8 := hN k hk 8 (by omega)
    have n9 := hN k hk 9 (by omega)
    have n10 := hN k hk 10 (by omega)
    simp only [ndCell, Nat.add_zero] at n0 n1 n2 n3 n4 n5 n6 n7 n8 n9 n10
    rw [hkd] at n0
    rw [ha] at n1
    rw [hm] at n3
    have gh : ∀ count, Good s.size (tuF s.size f ns[k].lz mn ns[k].mx count) := fun count => gf.tu
    by_cases c1 : count < mn
    · rw [tuF_must c1]
      exact turn_must hN hbl hs hi hk24 n0 n1 n2 n3 n4 n5 n6 n7 n8 n9 n10 hmn hct c1 gf (gh (count + 1)) hF (fun w' j c' a b d _ => ih _ (Nat.lt_of_lt_of_le (tuM_up (j := j) (by omega)) hM) (count + 1) (by omega) w' j c' a b d (Nat.le_refl _))
    · by_cases c2 : ns[k].mx < 0
      · have e := tuF_star (n := s.size) (f := f) (lz := ns[k].lz) (Nat.le_of_not_lt c1) c2
        rw [e, starF_eq gf _ hi, ← e]
        exact turn_star hN hbl hs hi hk24 n0 n1 n2 n3 n4 n5 n6 n7 n8 n9 n10 hmn hct (by omega) c2 gf (gh count) hF (fun w' j c' a b d hj => ih _ (Nat.lt_of_lt_of_le (tuM_on hj d) hM) count hct w' j c' a b d (Nat.le_refl _))
      · by_cases c3 : (count : Int) < ns[k].mx
        · have e := tuF_opt (n := s.size) (f := f) (lz := ns[k].lz) (Nat.le_of_not_lt c1) c2
          have e2 := tuF_opt (n := s.size) (f := f) (lz := ns[k].lz) (mn := mn) (count := count + 1) (by omega) c2
          obtain ⟨d, hd⟩ : ∃ d, ns[k].mx.toNat - count = d + 1 := ⟨ns[k].mx.toNat - count - 1, by omega⟩
          have e3 : tuF s.size f ns[k].lz mn ns[k].mx count i c = lzJ ns[k].lz (catF f (tuF s.size f ns[k].lz mn ns[k].mx (count + 1)) i c) [(i, c)] := by
            rw [e, e2, hd, show ns[k].mx.toNat - (count + 1) = d by omega]
            rfl
          rw [e3]
          exact turn_opt hN hbl hs hi hk24 n0 n1 n2 n3 n4 n5 n6 n7 n8 n9 n10 hmn hct (by omega) c3 gf (gh (count + 1)) hF (fun w' j c' a b d _ => ih _ (Nat.lt_of_lt_of_le (tuM_up (j := j) (by omega)) hM) (count + 1) (by omega) w' j c' a b d (Nat.le_refl _))
        · have e := tuF_opt (n := s.size) (f := f) (lz := ns[k].lz) (Nat.le_of_not_lt c1) c2
          rw [e, show ns[k].mx.toNat - count = 0 by omega]
          exact turn_stop hbl hs hi hk24 n0 n1 n2 n3 n4 n5 n6 n7 n8 n9 n10 hmn hct (by omega) (by omega) (by omega)
end Go.Proofs.Qxb6500283aGreat
