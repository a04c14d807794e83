import Derived.Test.Qxb6500283aGreatSyn4
import Derived.Test.Qxb6500283aGreatSB
namespace Go.Proofs.Qxb6500283aGreat

/-! The core form: shapes and sizes. -/
def lidN (n : Nat) : Nat := if 31 < n then 32 else n
def setE (P : BSet) : Bool := decide (wd P 0 = 0) && decide (wd P 1 = 0) && decide (wd P 2 = 0) && decide (wd P 3 = 0)
abbrev SZ := Nat × Nat
def catZ (a b : SZ) : SZ := if a.1 = 1 ∨ b.1 = 1 then (1, 1) else if a.1 = 0 then b else if b.1 = 0 then (2, a.2) else (2, lidN (a.2 + b.2 + 1))
def altZ (a b : SZ) : SZ := if a.1 = 1 then b else if b.1 = 1 then a else if a.1 = 0 ∧ b.1 = 0 then (0, 1) else (2, lidN (a.2 + b.2 + 1))
def grpZ (a : SZ) : SZ := if a.1 = 1 then (1, 1) else (2, lidN (a.2 + 1))
def sumN (c : Nat) (mn : Int) : Nat := if 0 < mn then mn.toNat * c + mn.toNat - 1 else 0
def tailN (c : Nat) (mn mx : Int) : Nat := if mx < 0 then c + 1 else if mn < mx then (mx - mn).toNat * (c + 3) - 1 else 0
def repN (c : Nat) (mn mx : Int) : Nat := if 0 < sumN c mn ∧ 0 < tailN c mn mx then sumN c mn + 1 + tailN c mn mx else sumN c mn + tailN c mn mx
def repZ (a : SZ) (mn mx : Int) : SZ := if a.1 = 1 ∧ 0 < mn then (1, 1) else if a.1 ≠ 2 ∨ mx = 0 then (0, 1) else (2, lidN (repN a.2 mn mx))
def zAt (l : List SZ) (a : Int) : SZ := l.getD a.toNat (2, 1)
def zNd (l : List SZ) (n : Nd) : SZ :=
  if n.kind = 0 then (0, 1)
  else if n.kind = 1 then (if setE n.st then (1, 1) else (2, 1))
  else if n.kind = 4 then catZ (zAt l n.a) (zAt l n.b)
  else if n.kind = 5 then altZ (zAt l n.a) (zAt l n.b)
  else if n.kind = 7 then grpZ (zAt l n.a)
  else if n.kind = 6 then repZ (zAt l n.a) n.mn n.mx
  else (2, 1)
def zL (ns : List Nd) : List SZ := ns.foldl (fun l n => l ++ [zNd l n]) []
def zz (ns : List Nd) (k : Nat) : SZ := (zL ns).getD k (2, 1)
theorem zL_add (ns : List Nd) (n : Nd) : zL (ns ++ [n]) = zL ns ++ [zNd (zL ns) n] := by
  unfold zL
  rw [List.foldl_append]
  rfl
theorem zL_len (ns : List Nd) : (zL ns).length = ns.length := by
  induction ns using snoc_ind with
  | h0 => rfl
  | h1 l a ih => rw [zL_add]; simp [ih]
theorem zz_add (ns : List Nd) (n : Nd) (k : Nat) (hk : k < ns.length) : zz (ns ++ [n]) k = zz ns k := by
  unfold zz
  rw [zL_add, List.getD_eq_getElem?_getD, List.getElem?_append_left (by rw [zL_len]; exact hk), List.getD_eq_getElem?_getD]
theorem zz_last (ns : List Nd) (n : Nd) : zz (ns ++ [n]) ns.length = zNd (zL ns) n := by
  unfold zz
  rw [zL_add, List.getD_eq_getElem?_getD, ← zL_len ns, List.getElem?_concat_length]
  rfl
theorem zNd_congr {l l' : List SZ} {n : Nd} {k : Nat} (hn : okNd k n) (h : ∀ a : Nat, a < k → l.getD a (2, 1) = l'.getD a (2, 1)) : zNd l n = zNd l' n := by
  unfold zNd zAt
  rcases hn with ⟨hk, _, _⟩ | ⟨hk, h1, h2, h3, h4⟩ | ⟨hk, h1, h2, _⟩
  · rcases hk with hk | hk | hk | hk <;> simp [hk]
  · have e1 := h n.a.toNat (by omega)
    have e2 := h n.b.toNat (by omega)
    rw [e1, e2]
  · have e1 := h n.a.toNat (by omega)
    rw [e1]
    rcases hk with hk | hk <;> simp [hk]
theorem zNd_add {ns : List Nd} (m n : Nd) (h : okNd ns.length n) : zNd (zL (ns ++ [m])) n = zNd (zL ns) n :=
  zNd_congr h fun a ha => zz_add ns m a ha
theorem zz_eq {ns : List Nd} (h : WF ns) : ∀ k (hk : k < ns.length), zz ns k = zNd (zL ns) ns[k] := by
  induction ns using snoc_ind with
  | h0 => intro k hk; simp at hk
  | h1 l a ih =>
    have hl : WF l := fun k hk => by have := h k (by simp; omega); rwa [List.getElem_append_left hk] at this
    intro k hk
    by_cases hlt : k < l.length
    · rw [zz_add _ _ _ hlt, ih hl k hlt, List.getElem_append_left hlt, zNd_add _ _ ((hl k hlt).mono (by omega))]
    · obtain rfl : k = l.length := by simp at hk; omega
      have h2 := h l.length hk
      simp only [List.getElem_concat_length] at h2 ⊢
      rw [zz_last, zNd_add _ _ h2]
/-- What every pair is. -/
structure OkZ (z : SZ) : Prop where
  sh : z.1 ≤ 2
  one : z.1 ≠ 2 → z.2 = 1
  lo : 1 ≤ z.2
  hi : z.2 ≤ 32
theorem lidN_le (n : Nat) : lidN n ≤ 32 := by unfold lidN; split <;> omega
theorem lidN_pos {n : Nat} (h : 1 ≤ n) : 1 ≤ lidN n := by unfold lidN; split <;> omega
theorem okZ_one (s : Nat) (h : s ≤ 2) : OkZ (s, 1) := ⟨h, fun _ => rfl, Nat.le_refl _, by simp⟩
theorem okZ_lid (n : Nat) (h : 1 ≤ n) : OkZ (2, lidN n) := ⟨Nat.le_refl _, fun h => absurd rfl h, lidN_pos h, lidN_le n⟩
theorem catZ_ok {a b : SZ} (ha : OkZ a) (hb : OkZ b) : OkZ (catZ a b) := by
  unfold catZ
  split
  · exact okZ_one 1 (by omega)
  · split
    · exact hb
    · split
      · exact ⟨Nat.le_refl _, fun h => absurd rfl h, ha.lo, ha.hi⟩
      · exact okZ_lid _ (by omega)
theorem altZ_ok {a b : SZ} (ha : OkZ a) (hb : OkZ b) : OkZ (altZ a b) := by
  unfold altZ
  split
  · exact hb
  · split
    · exact ha
    · split
      · exact okZ_one 0 (by omega)
      · exact okZ_lid _ (by omega)
theorem grpZ_ok {a : SZ} : OkZ (grpZ a) := by
  unfold grpZ
  split
  · exact okZ_one 1 (by omega)
  · exact okZ_lid _ (by omega)
theorem repN_pos {c : Nat} {mn mx : Int} (hc : 1 ≤ c) (h0 : 0 ≤ mn) (h2 : mx ≠ 0) (h3 : 0 ≤ mx → mn ≤ mx) : 1 ≤ repN c mn mx := by
  unfold repN sumN tailN
  by_cases hm : 0 < mn
  · have : 1 ≤ mn.toNat * c := Nat.mul_pos (by omega) (by omega)
    rw [if_pos hm]
    generalize (if mx < 0 then c + 1 else if mn < mx then (mx - mn).toNat * (c + 3) - 1 else 0) = t
    generalize mn.toNat * c = u at *
    split <;> omega
  · by_cases hx : mx < 0
    · simp [hm, hx]
    · have hlt : mn < mx := by omega
      have : 1 * (c + 3) ≤ (mx - mn).toNat * (c + 3) := Nat.mul_le_mul_right _ (by omega)
      simp only [hm, hx, hlt, if_false, if_true]
      split <;> omega
theorem repZ_ok {a : SZ} {mn mx : Int} (ha : OkZ a) (h0 : 0 ≤ mn) (h3 : 0 ≤ mx → mn ≤ mx) : OkZ (repZ a mn mx) := by
  unfold repZ
  split
  · exact okZ_one 1 (by omega)
  · split
    · exact okZ_one 0 (by omega)
    · rename_i h
      exact okZ_lid _ (repN_pos ha.lo h0 (by omega) h3)
end Go.Proofs.Qxb6500283aGreat
