/- The meaning of a tree: the list of its ways. -/
import Derived.Test.Qxb6500283aGreatT1
namespace Go.Proofs.Qxb6500283aGreat

abbrev Wf := Nat → Cp → List Wy
def catF (f g : Wf) : Wf := fun i c => joinAll (f i c) (fun w => g w.1 w.2)
def stopF : Wf := fun i c => [(i, c)]
def lzJ (lz : Bool) (more stop : List Wy) : List Wy := if lz then joinL stop more else joinL more stop
def optF (f : Wf) (lz : Bool) : Nat → Wf
  | 0 => stopF
  | k + 1 => fun i c => lzJ lz (catF f (optF f lz k) i c) [(i, c)]
def starG (f : Wf) (lz : Bool) : Nat → Wf
  | 0 => stopF
  | n + 1 => fun i c => lzJ lz (joinAll ((f i c).filter (fun w => decide (i < w.1))) (fun w => starG f lz n w.1 w.2)) [(i, c)]
def starF (n : Nat) (f : Wf) (lz : Bool) : Wf := fun i c => starG f lz (n + 1 - i) i c
def mustF (f : Wf) : Nat → Wf → Wf
  | 0, r => r
  | m + 1, r => catF f (mustF f m r)
structure Good (n : Nat) (f : Wf) : Prop where
  lo : ∀ i c, i ≤ n → ∀ w ∈ f i c, i ≤ w.1 ∧ w.1 ≤ n
  nd : ∀ i c, i ≤ n → (ends (f i c)).Nodup
  ind : ∀ i c c', i ≤ n → ends (f i c) = ends (f i c')
/-- Two meanings agree within the subject. -/
def EqF (n : Nat) (f g : Wf) : Prop := ∀ i c, i ≤ n → f i c = g i c
theorem EqF.symm {n : Nat} {f g : Wf} (h : EqF n f g) : EqF n g f := fun i c hi => (h i c hi).symm
theorem EqF.trans {n : Nat} {f g k : Wf} (h : EqF n f g) (h' : EqF n g k) : EqF n f k := fun i c hi => (h i c hi).trans (h' i c hi)
theorem EqF.refl (n : Nat) (f : Wf) : EqF n f f := fun _ _ _ => rfl
theorem Good.congr {n : Nat} {f g : Wf} (h : Good n f) (e : EqF n f g) : Good n g :=
  ⟨fun i c hi => by rw [← e i c hi]; exact h.lo i c hi, fun i c hi => by rw [← e i c hi]; exact h.nd i c hi, fun i c c' hi => by rw [← e i c hi, ← e i c' hi]; exact h.ind i c c' hi⟩
theorem flatMap_congr' {l : List Wy} {g g' : Wy → List Wy} (h : ∀ w ∈ l, g w = g' w) : l.flatMap g = l.flatMap g' := by
  induction l with
  | nil => rfl
  | cons x l ih => rw [List.flatMap_cons, List.flatMap_cons, h x (List.mem_cons_self ..), ih (fun w hw => h w (List.mem_cons_of_mem _ hw))]
theorem joinAll_congr {l : List Wy} {g g' : Wy → List Wy} (h : ∀ w ∈ l, g w = g' w) : joinAll l g = joinAll l g' := by
  rw [joinAll_eq, joinAll_eq, flatMap_congr' h]
section
variable {n : Nat} {f g h f' g' : Wf}
theorem catF_congr (hf : Good n f) (ef : EqF n f f') (eg : EqF n g g') : EqF n (catF f g) (catF f' g') := fun i c hi => by
  unfold catF
  rw [← ef i c hi]
  exact joinAll_congr (fun w hw => eg _ _ (hf.lo i c hi w hw).2)
theorem ends_flat {l l' : List Wy} {G G' : Wy → List Wy} (hl : ends l = ends l') (hg : ∀ x ∈ l, ∀ y ∈ l', x.1 = y.1 → ends (G x) = ends (G' y)) : ends (l.flatMap G) = ends (l'.flatMap G') := by
  induction l generalizing l' with
  | nil =>
    cases l' with
    | nil => rfl
    | cons y l' => simp [ends] at hl
  | cons x l ih =>
    cases l' with
    | nil => simp [ends] at hl
    | cons y l' =>
      simp only [ends, List.map_cons, List.cons.injEq] at hl
      rw [List.flatMap_cons, List.flatMap_cons, ends_append, ends_append, hg x (List.mem_cons_self ..) y (List.mem_cons_self ..) hl.1, ih hl.2 (fun a ha b hb => hg a (List.mem_cons_of_mem _ ha) b (List.mem_cons_of_mem _ hb))]
theorem Good.joinAll {i : Nat} {l : List Wy} (hl : ∀ w ∈ l, i ≤ w.1 ∧ w.1 ≤ n) (hg : Good n g) : (∀ w ∈ joinAll l (fun w => g w.1 w.2), i ≤ w.1 ∧ w.1 ≤ n) ∧ (ends (Go.Proofs.Qxb6500283aGreat.joinAll l (fun w => g w.1 w.2))).Nodup := by
  rw [joinAll_eq]
  refine ⟨fun w hw => ?_, by rw [ends_dd]; exact nodup_ddN _ _⟩
  obtain ⟨x, hx, hw⟩ := List.mem_flatMap.1 (mem_ddS hw)
  have h1 := hl x hx
  have h2 := hg.lo _ _ h1.2 w hw
  omega
theorem joinAll_ind {i : Nat} {l l' : List Wy} (hl : ∀ w ∈ l, i ≤ w.1 ∧ w.1 ≤ n) (he : ends l = ends l') (hg : Good n g) : ends (joinAll l (fun w => g w.1 w.2)) = ends (joinAll l' (fun w => g w.1 w.2)) := by
  rw [joinAll_eq, joinAll_eq, ends_dd, ends_dd, ends_flat he]
  intro x hx y _ e
  rw [← e]
  exact hg.ind _ _ _ (hl x hx).2
theorem Good.cat (hf : Good n f) (hg : Good n g) : Good n (catF f g) where
  lo i c hi := (Good.joinAll (hf.lo i c hi) hg).1
  nd i c hi := (Good.joinAll (hf.lo i c hi) hg).2
  ind i c c' hi := joinAll_ind (hf.lo i c hi) (hf.ind i c c' hi) hg
theorem Good.stop : Good n stopF := ⟨fun i c hi w hw => by simp [stopF] at hw; subst hw; exact ⟨Nat.le_refl _, hi⟩, fun i c _ => by simp [stopF, ends], fun i c c' _ => rfl⟩
theorem join_ind {a a' b b' : List Wy} (h1 : ends a = ends a') (h2 : ends b = ends b') : ends (joinL a b) = ends (joinL a' b') := by rw [ends_join, ends_join, h1, h2]
theorem lzJ_ind {lz : Bool} {a a' b b' : List Wy} (h1 : ends a = ends a') (h2 : ends b = ends b') : ends (lzJ lz a b) = ends (lzJ lz a' b') := by
  unfold lzJ
  split
  · exact join_ind h2 h1
  · exact join_ind h1 h2
theorem mem_lzJ {lz : Bool} {a b : List Wy} {x : Wy} (h : x ∈ lzJ lz a b) : x ∈ a ∨ x ∈ b := by
  unfold lzJ at h
  split at h
  · exact (mem_join h).symm
  · exact mem_join h
theorem lzJ_nodup {lz : Bool} {a b : List Wy} (h1 : (ends a).Nodup) (h2 : (ends b).Nodup) : (ends (lzJ lz a b)).Nodup := by
  unfold lzJ
  split
  · exact join_nodup h2
  · exact join_nodup h1
theorem Good.lz (hf : Good n f) (hg : Good n g) (lz : Bool) : Good n (fun i c => lzJ lz (f i c) (g i c)) where
  lo i c hi w hw := (mem_lzJ hw).elim (hf.lo i c hi w) (hg.lo i c hi w)
  nd i c hi := lzJ_nodup (hf.nd i c hi) (hg.nd i c hi)
  ind i c c' hi := lzJ_ind (hf.ind i c c' hi) (hg.ind i c c' hi)
theorem Good.alt (hf : Good n f) (hg : Good n g) : Good n (fun i c => joinL (f i c) (g i c)) where
  lo i c hi w hw := (mem_join hw).elim (hf.lo i c hi w) (hg.lo i c hi w)
  nd i c hi := join_nodup (hf.nd i c hi)
  ind i c c' hi := join_ind (hf.ind i c c' hi) (hg.ind i c c' hi)
theorem Good.opt (hf : Good n f) (lz : Bool) : ∀ k, Good n (optF f lz k)
  | 0 => Good.stop
  | k + 1 => (hf.cat (Good.opt hf lz k)).lz Good.stop lz
theorem Good.must (hf : Good n f) (hg : Good n g) : ∀ m, Good n (mustF f m g)
  | 0 => hg
  | m + 1 => hf.cat (Good.must hf hg m)
theorem ends_filter (l : List Wy) (i : Nat) : ends (l.filter (fun w => decide (i < w.1))) = (ends l).filter (fun e => decide (i < e)) := by
  induction l with
  | nil => rfl
  | cons x l ih =>
    simp only [List.filter_cons, ends, List.map_cons]
    split
    · simp only [List.map_cons, List.cons.injEq, true_and]; exact ih
    · exact ih
/-- All but the fuel. -/
theorem starG_fuel (hf : Good n f) (lz : Bool) : ∀ a b i c, i ≤ n → n + 1 - i ≤ a → n + 1 - i ≤ b → starG f lz a i c = starG f lz b i c := by
  intro a
  induction a with
  | zero => intro b i c hi h1; omega
  | succ a ih =>
    intro b i c hi h1 h2
    obtain ⟨b, rfl⟩ : ∃ b', b = b' + 1 := ⟨b - 1, by omega⟩
    simp only [starG]
    congr 1
    refine joinAll_congr (fun w hw => ?_)
    obtain ⟨hw, hd⟩ := List.mem_filter.1 hw
    have h3 := hf.lo i c hi w hw
    have h4 : i < w.1 := of_decide_eq_true hd
    exact ih b w.1 w.2 h3.2 (by omega) (by omega)
theorem starF_eq (hf : Good n f) (lz : Bool) {i : Nat} (hi : i ≤ n) (c : Cp) : starF n f lz i c = lzJ lz (joinAll ((f i c).filter (fun w => decide (i < w.1))) (fun w => starF n f lz w.1 w.2)) [(i, c)] := by
  conv => lhs; unfold starF; rw [show n + 1 - i = (n - i) + 1 by omega]
  simp only [starG]
  congr 1
  refine joinAll_congr (fun w hw => ?_)
  obtain ⟨hw, hd⟩ := List.mem_filter.1 hw
  have h3 := hf.lo i c hi w hw
  have h4 : i < w.1 := of_decide_eq_true hd
  exact starG_fuel hf lz _ _ _ _ h3.2 (by omega) (by omega)
theorem Good.starG (hf : Good n f) (lz : Bool) : ∀ a, Good n (starG f lz a) := by
  intro a
  induction a with
  | zero => exact Good.stop
  | succ a ih =>
    have hm : ∀ i c, i ≤ n → ∀ w ∈ (f i c).filter (fun w => decide (i < w.1)), i ≤ w.1 ∧ w.1 ≤ n := fun i c hi w hw => hf.lo i c hi w (List.mem_filter.1 hw).1
    refine Good.lz (f := fun i c => Go.Proofs.Qxb6500283aGreat.joinAll ((f i c).filter (fun w => decide (i < w.1))) (fun w => Go.Proofs.Qxb6500283aGreat.starG f lz a w.1 w.2)) ⟨fun i c hi => (Good.joinAll (hm i c hi) ih).1, fun i c hi => (Good.joinAll (hm i c hi) ih).2, fun i c c' hi => ?_⟩ Good.stop lz
    exact joinAll_ind (hm i c hi) (by rw [ends_filter, ends_filter, hf.ind i c c' hi]) ih
theorem Good.star (hf : Good n f) (lz : Bool) : Good n (starF n f lz) where
  lo i c hi := (hf.starG lz _).lo i c hi
  nd i c hi := (hf.starG lz _).nd i c hi
  ind i c c' hi := (hf.starG lz _).ind i c c' hi
theorem starF_congr (hf : Good n f) (ef : EqF n f f') (lz : Bool) : EqF n (starF n f lz) (starF n f' lz) := by
  have hf' := hf.congr ef
  have key : ∀ k i c, i ≤ n → n - i ≤ k → starF n f lz i c = starF n f' lz i c := by
    intro k
    induction k with
    | zero =>
      intro i c hi hk
      rw [starF_eq hf lz hi, starF_eq hf' lz hi, ← ef i c hi]
      congr 1
      refine joinAll_congr (fun w hw => ?_)
      obtain ⟨hw, hd⟩ := List.mem_filter.1 hw
      have h3 := hf.lo i c hi w hw
      have h4 : i < w.1 := of_decide_eq_true hd
      omega
    | succ k ih =>
      intro i c hi hk
      rw [starF_eq hf lz hi, starF_eq hf' lz hi, ← ef i c hi]
      congr 1
      refine joinAll_congr (fun w hw => ?_)
      obtain ⟨hw, hd⟩ := List.mem_filter.1 hw
      have h3 := hf.lo i c hi w hw
      have h4 : i < w.1 := of_decide_eq_true hd
      exact ih _ _ h3.2 (by omega)
  exact fun i c hi => key _ i c hi (Nat.le_refl _)
theorem optF_congr (hf : Good n f) (ef : EqF n f f') (lz : Bool) : ∀ k, EqF n (optF f lz k) (optF f' lz k)
  | 0 => EqF.refl _ _
  | k + 1 => fun i c hi => by
    show lzJ lz (catF f (optF f lz k) i c) [(i, c)] = lzJ lz (catF f' (optF f' lz k) i c) [(i, c)]
    rw [catF_congr hf ef (optF_congr hf ef lz k) i c hi]
theorem mustF_congr (hf : Good n f) (ef : EqF n f f') (eg : EqF n g g') : ∀ m, EqF n (mustF f m g) (mustF f' m g')
  | 0 => eg
  | m + 1 => catF_congr hf ef (mustF_congr hf ef eg m)
/-- A sequence may be bracketed either way. -/
theorem catF_assoc (hf : Good n f) (hg : Good n g) (hh : Good n h) : EqF n (catF (catF f g) h) (catF f (catF g h)) := by
  intro i c hi
  unfold catF
  rw [joinAll_eq, joinAll_eq, joinAll_eq]
  have hG : ∀ (M : List Wy), (∀ w ∈ M, w.1 ≤ n) → ∀ S T : List Nat, (∀ x ∈ M, x.1 ∈ S → ∀ e ∈ ends (h x.1 x.2), e ∈ T) → ddS T ((ddS S M).flatMap (fun w => h w.1 w.2)) = ddS T (M.flatMap (fun w => h w.1 w.2)) := by
    intro M
    induction M with
    | nil => intro _ S T _; rfl
    | cons x M ih =>
      intro hM S T hS
      have hM' : ∀ w ∈ M, w.1 ≤ n := fun w hw => hM w (List.mem_cons_of_mem _ hw)
      simp only [ddS]
      by_cases hx : x.1 ∈ S
      · have hx' := hS x (List.mem_cons_self ..) hx
        rw [if_pos hx, ih hM' S T (fun y hy => hS y (List.mem_cons_of_mem _ hy)), List.flatMap_cons, ddS_append, ddS_all _ T (fun y hy => hx' _ (List.mem_map_of_mem hy)), List.nil_append]
        refine ddS_congr _ _ _ (fun e => ?_)
        rw [List.mem_append]
        exact ⟨.inr, fun he => he.elim (hx' e) id⟩
      · rw [if_neg hx, List.flatMap_cons, List.flatMap_cons, ddS_append, ddS_append]
        congr 1
        refine ih hM' _ _ (fun y hy hyS e he => ?_)
        rw [List.mem_append]
        rcases List.mem_cons.1 hyS with h1 | h1
        · exact .inl (by rw [hh.ind x.1 x.2 y.2 (hM x (List.mem_cons_self ..)), ← h1]; exact he)
        · exact .inr (hS y (List.mem_cons_of_mem _ hy) h1 e he)
  have hle : ∀ w ∈ (f i c).flatMap (fun w => g w.1 w.2), w.1 ≤ n := fun w hw => by
    obtain ⟨x, hx, hw⟩ := List.mem_flatMap.1 hw
    exact (hg.lo _ _ (hf.lo i c hi x hx).2 w hw).2
  rw [hG _ hle [] [] (fun _ _ h => by cases h), List.flatMap_assoc]
  have hR : ∀ (M : List Wy) (T : List Nat), ddS T (M.flatMap (fun x => (g x.1 x.2).flatMap (fun w => h w.1 w.2))) = ddS T (M.flatMap (fun w => joinAll (g w.1 w.2) (fun w => h w.1 w.2))) := by
    intro M
    induction M with
    | nil => intro T; rfl
    | cons x M ih =>
      intro T
      rw [List.flatMap_cons, List.flatMap_cons, ddS_append, ddS_append, joinAll_eq, ddS_ddS _ _ _ (fun e he => by cases he), ih]
      congr 1
      refine ddS_congr _ _ _ (fun e => ?_)
      rw [List.mem_append, List.mem_append, ends_dd, mem_ddN]
      simp
  exact hR _ _
theorem catF_stop_r (hf : Good n f) : EqF n (catF f stopF) f := fun i c hi => by
  unfold catF
  rw [joinAll_eq]
  have : (f i c).flatMap (fun w => stopF w.1 w.2) = f i c := by
    unfold stopF
    generalize f i c = l
    induction l with
    | nil => rfl
    | cons x l ih => rw [List.flatMap_cons, ih]; rfl
  rw [this]
  exact ddS_id _ _ (hf.nd i c hi) (fun _ _ e => by cases e)
theorem catF_stop_l (hg : Good n g) : EqF n (catF stopF g) g := fun i c hi => by
  unfold catF
  rw [joinAll_eq]
  simp only [stopF, List.flatMap_cons, List.flatMap_nil, List.append_nil]
  exact ddS_id _ _ (hg.nd i c hi) (fun _ _ e => by cases e)
end
end Go.Proofs.Qxb6500283aGreat
