import Derived.Test.Qxb6500283aGreatSyn4
namespace Go.Proofs.Qxb6500283aGreat

/-! The descent goes forward. -/
def AltI (A : Sg → Res → Prop) : Prop := ∀ s x s1, A s (.ok (x, s1)) → s.i ≤ s1.i
theorem openS_lt {p : ByteArray} {s s1 : Sg} {c : Nat} (ho : openS p s = some (c, s1)) : s.i < s1.i := by
  unfold openS at ho
  split at ho
  · cases ho; simp
  · split at ho
    · cases ho
    · cases ho; simp
theorem shutS_lt {s s1 : Sg} {x y c : Nat} (h : shutS s x c = .ok (y, s1)) : s.i < s1.i := by
  unfold shutS at h
  split at h
  · cases h; simp
  · have := (addS_grow h).1; rw [this]; simp
theorem GroupR.lt {p : ByteArray} {d : Nat} {A : Sg → Res → Prop} (hA : AltI A) {s : Sg} {r : Res} (h : GroupR p d A s r) : ∀ x s1, r = .ok (x, s1) → s.i < s1.i := by
  intro x s1 e
  cases h with
  | deep => cases e
  | many => cases e
  | err => cases e
  | open_ => cases e
  | shut _ ho ha _ =>
    have h1 := openS_lt ho
    have h2 := hA _ _ _ ha
    have h3 := shutS_lt e
    omega
theorem AtomR.lt {p : ByteArray} {d : Nat} {A : Sg → Res → Prop} (hA : AltI A) {s : Sg} {r : Res} (h : AtomR p d A s r) (hi : s.i < p.size) : ∀ x s1, r = .ok (x, s1) → s.i < s1.i := by
  intro x s1 e
  cases h with
  | group _ hg => exact hg.lt hA _ _ e
  | sign => cases e
  | leafE => cases e
  | leaf _ _ hl =>
    have h1 := hl.le hi
    have h2 := (addS_grow e).1
    simp only at h1 h2
    omega
theorem RepL.ge {p : ByteArray} {x : Nat} {s : Sg} {r : Res} (h : RepL p x s r) : ∀ y s1, r = .ok (y, s1) → s.i ≤ s1.i := by
  induction h with
  | done => intro y s1 e; cases e; exact Nat.le_refl _
  | bad => intro y s1 e; cases e
  | loop => intro y s1 e; cases e
  | big => intro y s1 e; cases e
  | more hi _ hc _ ha _ ih =>
    intro y s1 e
    have h1 := ih _ _ e
    have h2 := (addS_grow ha).1
    have h3 := count_le hi hc
    have h4 := lazyEnd_le h3.1
    simp only at h2
    omega
theorem RepR.lt {p : ByteArray} {d : Nat} {A : Sg → Res → Prop} (hA : AltI A) {s : Sg} {r : Res} (h : RepR p d A s r) (hi : s.i < p.size) : ∀ x s1, r = .ok (x, s1) → s.i < s1.i := by
  intro x s1 e
  cases h with
  | err => cases e
  | ok ha hl =>
    have h1 := ha.lt hA hi _ _ rfl
    have h2 := hl.ge _ _ e
    omega
theorem joinN_at {l : Option Nat} {x y : Nat} {s s1 : Sg} (h : joinN l x s = .ok (y, s1)) : s1.i = s.i := by
  unfold joinN at h
  split at h
  · cases h; rfl
  · exact (addS_grow h).1
theorem CatL.ge {p : ByteArray} {d : Nat} {A : Sg → Res → Prop} (hA : AltI A) {l : Option Nat} {s : Sg} {r : Res} (h : CatL p d A l s r) : ∀ y s1, r = .ok (y, s1) → s.i ≤ s1.i := by
  induction h with
  | stop => intro y s1 e; cases e; exact Nat.le_refl _
  | empty => intro y s1 e; exact Nat.le_of_eq (addS_grow e).1.symm
  | err => intro y s1 e; cases e
  | big => intro y s1 e; cases e
  | more hst hr hj _ ih =>
    intro y s1 e
    have h1 := ih _ _ e
    have h2 := hr.lt hA (stopB_lt hst) _ _ rfl
    have h3 := joinN_at hj
    omega
theorem AltL.ge {p : ByteArray} {d : Nat} {A : Sg → Res → Prop} (hA : AltI A) {l : Nat} {s : Sg} {r : Res} (h : AltL p d A l s r) : ∀ y s1, r = .ok (y, s1) → s.i ≤ s1.i := by
  induction h with
  | stop => intro y s1 e; cases e; exact Nat.le_refl _
  | err => intro y s1 e; cases e
  | big => intro y s1 e; cases e
  | more _ hc ha _ ih =>
    intro y s1 e
    have h1 := ih _ _ e
    have h2 := hc.ge hA _ _ rfl
    have h3 := (addS_grow ha).1
    simp only at h2
    omega
theorem AltR.ge {p : ByteArray} {d : Nat} {A : Sg → Res → Prop} (hA : AltI A) : AltI (AltR p d A) := by
  intro s x s1 h
  cases h with
  | ok hc hl =>
    have h1 := hc.ge hA _ _ rfl
    have h2 := hl.ge hA _ _ rfl
    omega
theorem AltD.ge (p : ByteArray) : ∀ k, AltI (AltD p k)
  | 0 => AltR.ge (fun _ _ _ h => h.elim)
  | k + 1 => AltR.ge (AltD.ge p k)
end Go.Proofs.Qxb6500283aGreat
