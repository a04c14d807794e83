/- A region that draws its order: three operations in every order. -/
import Derived.Test.Qxb6500277aGreatText4
namespace Go.Proofs.Qxb6500277aGreat
open Go Go.RowKit

section
variable {P : Program} {Q : Exit → Act → World → Prop} {ops : Array Oper}
def noK (ops : Array Oper) : Bool := ops.toList.all fun o => !needK o
theorem noK_fine (h : noK ops = true) (i : Nat) (a : Act) : Fine P ops i a := fun o ho _ => by
  have := (List.all_eq_true.1 h) o (by simpa using Array.mem_of_getElem? ho)
  exact kOK_of_not_need o _ (by simpa using this)
/-- Whichever comes next. -/
theorem wpAnyK_fork {F : Act → World → Prop} (hn : noK ops = true) {m : Nat} {L : Array Bool} {a : Act} {w : World} (is : List Nat) (hr : Region.ready .any ops L = is) (hne : is ≠ []) (h : ∀ i ∈ is, wpOp P ops (NF F) i (fun a' w' => wpAnyK P ops (NF F) m (L.setIfInBounds i true) a' w') a w) : wpAnyK P ops (NF F) (m + 1) L a w :=
  ⟨fun h0 => absurd (hr.symm.trans h0) hne, fun i hi => ⟨noK_fine hn i a, h i (hr ▸ hi)⟩⟩
theorem plainL (h : noK ops = true) (is : List Nat) : (is.all fun i => match ops[i]? with | some o => !needK o | none => true) = true := List.all_eq_true.2 fun i _ => by
  cases ho : ops[i]? with
  | none => rfl
  | some o => exact (List.all_eq_true.1 h) o (by simpa using Array.mem_of_getElem? ho)
theorem one_of {G F : Act → World → Prop} {i : Nat} {a : Act} {w : World} (h : wpOps P ops (NF G) [i] a w) : wpOp P ops (NF F) i G a w := by
  rw [wpOps_cons] at h
  exact wpOp_q (wpOp_mono (fun a' w' h' => h'.2) h)
/-- A row of operations to the region's end. -/
theorem ends {F : Act → World → Prop} (hn : noK ops = true) (hsel : Region.noSelect ops = true) (hcert : certB ops (Region.before ops) = true) (t : List Nat) (L : Array Bool) (a : Act) (w : World) (hdc : DC ops L) (ht : takesB P ops L t = true) (he : Region.ready .any ops (setsL L t) = []) (h : wpOps P ops (NF F) t a w) : wpAnyK P ops (NF F) t.length L a w := by
  have h1 := wpC_plain (P := P) (fun a' w' => wpAnyK P ops (NF F) 0 (setsL L t) a' w') (fun a' w' hq => ⟨he, hq⟩) t a w (plainL hn t) h
  have := wpAnyK_chain hsel hcert 0 t L a w ht hdc h1
  simpa using this
structure And2 (A B : Prop) : Prop where
  a : A
  b : B
structure And3 (A B C : Prop) : Prop where
  a : A
  b : B
  c : C
def endB (P : Program) (ops : Array Oper) (L : Array Bool) (t : List Nat) (n : Nat) : Bool := takesB P ops L t && (Region.ready .any ops (setsL L t)).isEmpty && t.length == n
def forkB (P : Program) (ops : Array Oper) (L : Array Bool) (j k : Nat) (tj tk : List Nat) (n : Nat) : Bool :=
  Region.ready .any ops L == [j, k] && endB P ops (L.setIfInBounds j true) tj n && endB P ops (L.setIfInBounds k true) tk n
theorem fork2 {F : Act → World → Prop} (hn : noK ops = true) (hsel : Region.noSelect ops = true) (hcert : certB ops (Region.before ops) = true) {L : Array Bool} {j k n : Nat} {tj tk : List Nat} (hdc : DC ops L) (hB : forkB P ops L j k tj tk n = true) {a : Act} {w : World} (h1 : wpOps P ops (NF F) (j :: tj) a w) (h2 : wpOps P ops (NF F) (k :: tk) a w) : wpAnyK P ops (NF F) (n + 1) L a w := by
  simp only [forkB, endB, Bool.and_eq_true, beq_iff_eq, List.isEmpty_iff] at hB
  obtain ⟨⟨hr, ⟨hj1, hj2⟩, hj3⟩, ⟨hk1, hk2⟩, hk3⟩ := hB
  have mj : j ∈ Region.ready .any ops L := by rw [hr]; simp
  have mk : k ∈ Region.ready .any ops L := by rw [hr]; simp
  refine wpAnyK_fork hn [j, k] hr (by simp) fun i hi => ?_
  have hi : i = j ∨ i = k := by simpa using hi
  rcases hi with rfl | rfl
  · rw [wpOps_cons] at h1
    exact wpOp_mono (fun a' w' h' => by rw [← hj3]; exact ends hn hsel hcert tj _ a' w' (hdc.set mj) hj1 hj2 h') h1
  · rw [wpOps_cons] at h2
    exact wpOp_mono (fun a' w' h' => by rw [← hk3]; exact ends hn hsel hcert tk _ a' w' (hdc.set mk) hk1 hk2 h') h2
def sixB (P : Program) (ops : Array Oper) (pre : List Nat) (i j k : Nat) (ij ik ji jk ki kj : List Nat) (n : Nat) : Bool :=
  let L := setsL (Array.replicate ops.size false) pre
  Region.noSelect ops && certB ops (Region.before ops) && noK ops && takesB P ops (Array.replicate ops.size false) pre && Region.ready .any ops L == [i, j, k] &&
  forkB P ops (L.setIfInBounds i true) j k ij ik n && forkB P ops (L.setIfInBounds j true) i k ji jk n && forkB P ops (L.setIfInBounds k true) i j ki kj n && pre.length + (n + 2) == ops.size &&
  (pre ++ i :: j :: k :: (ij ++ ik ++ ji ++ jk ++ ki ++ kj)).all (· < ops.size)
/-- A REGION THAT DRAWS, WITH THREE OPERATIONS IN EVERY ORDER. -/
theorem wp_region_six {id : Nat} {l : List Oper} {a : Act} {w : World} (pre : List Nat) (i j k : Nat) (ij ik ji jk ki kj : List Nat) (n : Nat) (hm : P.follows .mixedOrders = true) (hB : sixB P l.toArray pre i j k ij ik ji jk ki kj n = true)
    (h : wpList P l.toArray (fun e a' w' => e = .normal ∧ And3
      (wpList P l.toArray (fun e a' w' => e = .normal ∧ And2 (wpList P l.toArray (fun e a' w' => e = .normal ∧ Q .normal a' w') (pick l (j :: ij)) a' w') (wpList P l.toArray (fun e a' w' => e = .normal ∧ Q .normal a' w') (pick l (k :: ik)) a' w')) (pick l [i]) a' w')
      (wpList P l.toArray (fun e a' w' => e = .normal ∧ And2 (wpList P l.toArray (fun e a' w' => e = .normal ∧ Q .normal a' w') (pick l (i :: ji)) a' w') (wpList P l.toArray (fun e a' w' => e = .normal ∧ Q .normal a' w') (pick l (k :: jk)) a' w')) (pick l [j]) a' w')
      (wpList P l.toArray (fun e a' w' => e = .normal ∧ And2 (wpList P l.toArray (fun e a' w' => e = .normal ∧ Q .normal a' w') (pick l (i :: ki)) a' w') (wpList P l.toArray (fun e a' w' => e = .normal ∧ Q .normal a' w') (pick l (j :: kj)) a' w')) (pick l [k]) a' w')) (pick l pre) a w.drew) :
    (Code.region id l.toArray true).wp P Q a w := by
  simp only [sixB, Bool.and_eq_true, beq_iff_eq] at hB
  obtain ⟨⟨⟨⟨⟨⟨⟨⟨⟨hsel, hcert⟩, hn⟩, hpre⟩, hr⟩, f1⟩, f2⟩, f3⟩, hsz⟩, hall⟩ := hB
  have b : ∀ t ∈ pre ++ i :: j :: k :: (ij ++ ik ++ ji ++ jk ++ ki ++ kj), t < l.length := fun t ht => by simpa using (List.all_eq_true.1 hall) t ht
  have bb : ∀ (t : List Nat), (∀ x ∈ t, x ∈ pre ++ i :: j :: k :: (ij ++ ik ++ ji ++ jk ++ ki ++ kj)) → ∀ x ∈ t, x < l.length := fun t ht x hx => b x (ht x hx)
  have hdc := dc_sets pre _ (dc_none (ops := l.toArray)) hpre
  have mi : i ∈ Region.ready .any l.toArray (setsL (Array.replicate l.toArray.size false) pre) := by rw [hr]; simp
  have mj : j ∈ Region.ready .any l.toArray (setsL (Array.replicate l.toArray.size false) pre) := by rw [hr]; simp
  have mk : k ∈ Region.ready .any l.toArray (setsL (Array.replicate l.toArray.size false) pre) := by rw [hr]; simp
  have pk : ∀ (t : List Nat) (Q' : Exit → Act → World → Prop), (∀ x ∈ t, x < l.length) → ∀ a' w', wpList P l.toArray Q' (pick l t) a' w' → wpOps P l.toArray Q' t a' w' := fun t Q' ht a' w' h' => by rw [wpOps_pick l t ht]; exact h'
  have h1 := pk pre _ (bb pre (fun x hx => by simp [hx])) _ _ h
  have br : ∀ a' w', And3
      (wpList P l.toArray (fun e a' w' => e = .normal ∧ And2 (wpList P l.toArray (fun e a' w' => e = .normal ∧ Q .normal a' w') (pick l (j :: ij)) a' w') (wpList P l.toArray (fun e a' w' => e = .normal ∧ Q .normal a' w') (pick l (k :: ik)) a' w')) (pick l [i]) a' w')
      (wpList P l.toArray (fun e a' w' => e = .normal ∧ And2 (wpList P l.toArray (fun e a' w' => e = .normal ∧ Q .normal a' w') (pick l (i :: ji)) a' w') (wpList P l.toArray (fun e a' w' => e = .normal ∧ Q .normal a' w') (pick l (k :: jk)) a' w')) (pick l [j]) a' w')
      (wpList P l.toArray (fun e a' w' => e = .normal ∧ And2 (wpList P l.toArray (fun e a' w' => e = .normal ∧ Q .normal a' w') (pick l (i :: ki)) a' w') (wpList P l.toArray (fun e a' w' => e = .normal ∧ Q .normal a' w') (pick l (j :: kj)) a' w')) (pick l [k]) a' w') →
      wpAnyK P l.toArray (NF fun a' w' => Q .normal a' w') (n + 1 + 1) (setsL (Array.replicate l.toArray.size false) pre) a' w' := by
    rintro a' w' ⟨g1, g2, g3⟩
    refine wpAnyK_fork hn [i, j, k] hr (by simp) fun t ht => ?_
    have ht : t = i ∨ t = j ∨ t = k := by simpa using ht
    rcases ht with rfl | rfl | rfl
    · have g := one_of (F := fun a' w' => Q .normal a' w') (pk [t] _ (bb _ (fun x hx => by simp at hx; simp [hx])) _ _ g1)
      exact wpOp_mono (fun a2 w2 h2 => fork2 hn hsel hcert (hdc.set mi) f1 (pk (j :: ij) _ (bb _ (fun x hx => by simp at hx ⊢; rcases hx with rfl | hx <;> simp [*])) _ _ h2.a) (pk (k :: ik) _ (bb _ (fun x hx => by simp at hx ⊢; rcases hx with rfl | hx <;> simp [*])) _ _ h2.b)) g
    · have g := one_of (F := fun a' w' => Q .normal a' w') (pk [t] _ (bb _ (fun x hx => by simp at hx; simp [hx])) _ _ g2)
      exact wpOp_mono (fun a2 w2 h2 => fork2 hn hsel hcert (hdc.set mj) f2 (pk (i :: ji) _ (bb _ (fun x hx => by simp at hx ⊢; rcases hx with rfl | hx <;> simp [*])) _ _ h2.a) (pk (k :: jk) _ (bb _ (fun x hx => by simp at hx ⊢; rcases hx with rfl | hx <;> simp [*])) _ _ h2.b)) g
    · have g := one_of (F := fun a' w' => Q .normal a' w') (pk [t] _ (bb _ (fun x hx => by simp at hx; simp [hx])) _ _ g3)
      exact wpOp_mono (fun a2 w2 h2 => fork2 hn hsel hcert (hdc.set mk) f3 (pk (i :: ki) _ (bb _ (fun x hx => by simp at hx ⊢; rcases hx with rfl | hx <;> simp [*])) _ _ h2.a) (pk (j :: kj) _ (bb _ (fun x hx => by simp at hx ⊢; rcases hx with rfl | hx <;> simp [*])) _ _ h2.b)) g
  have pl : ∀ (is : List Nat) (a' : Act) (w' : World) {G : Act → World → Prop}, wpOps P l.toArray (NF G) is a' w' → wpC P l.toArray (NF fun a' w' => Q .normal a' w') G is a' w' := by
    intro is
    induction is with
    | nil => exact fun a' w' _ h' => h'.2
    | cons t r ih =>
      intro a' w' G h'
      rw [wpOps_cons] at h'
      exact ⟨noK_fine hn t a', wpOp_q (wpOp_mono (fun a2 w2 h2 => ih a2 w2 h2) h')⟩
  have h2 := wpAnyK_chain hsel hcert (n + 1 + 1) pre _ a w.drew hpre dc_none (wpC_mono br pre a w.drew (pl pre a w.drew h1))
  have h3 := wpAny_of_K _ _ _ _ h2
  have h4 : (Code.region id l.toArray true).wp P (NF fun a' w' => Q .normal a' w') a w := by
    refine wp_region_any hm ?_
    have e : n + 1 + 1 + pre.length = l.toArray.size := by omega
    rw [e] at h3
    exact h3
  refine wp_mono h4 ?_
  rintro e a' w' ⟨rfl, hq⟩
  exact hq
end
end Go.Proofs.Qxb6500277aGreat
