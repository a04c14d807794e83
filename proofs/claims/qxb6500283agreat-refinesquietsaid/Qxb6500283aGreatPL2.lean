/- Code of a core tree, and what the search makes of it. -/
import Derived.Test.Qxb6500283aGreatPL1
import Derived.Test.Qxb6500283aGreatT8
namespace Go.Proofs.Qxb6500283aGreat

theorem setC_upd (c : Cp) (k : Nat) (v : Int) : setC c k v = upd c k v := by
  funext j
  simp only [setC, upd]
/-- The code of tree t lies in p from pc to pc'. -/
inductive CdAt (p : List In) : Nat → Rx → Nat → Prop
  | emp {pc : Nat} : CdAt p pc .emp pc
  | set {pc : Nat} {x : In} {P : BSet} : p[pc]? = some x → x.op = 0 → (∀ c, c < 256 → hasB x.s0 x.s1 x.s2 x.s3 c = P c) → CdAt p pc (.set P) (pc + 1)
  | bol {pc : Nat} {x : In} : p[pc]? = some x → x.op = 4 → CdAt p pc .bol (pc + 1)
  | eol {pc : Nat} {x : In} : p[pc]? = some x → x.op = 5 → CdAt p pc .eol (pc + 1)
  | cat {pc pm pc' : Nat} {a b : Rx} : CdAt p pc a pm → CdAt p pm b pc' → CdAt p pc (.cat a b) pc'
  | alt {pc pj pc' : Nat} {x j : In} {a b : Rx} : p[pc]? = some x → x.op = 1 → x.x = ((pc + 1 : Nat) : Int) → x.y = ((pj + 1 : Nat) : Int) → CdAt p (pc + 1) a pj → p[pj]? = some j → j.op = 2 → j.x = (pc' : Nat) → CdAt p (pj + 1) b pc' → CdAt p pc (.alt a b) pc'
  | star {pc pj : Nat} {x j : In} {a : Rx} {lz : Bool} : p[pc]? = some x → x.op = 1 → x.x = (((if lz then pj + 1 else pc + 1) : Nat) : Int) → x.y = (((if lz then pc + 1 else pj + 1) : Nat) : Int) → CdAt p (pc + 1) a pj → p[pj]? = some j → j.op = 2 → j.x = (pc : Nat) → CdAt p pc (.rep a 0 (-1) lz) (pj + 1)
  | grp {pc pj k : Nat} {x j : In} {a : Rx} : p[pc]? = some x → x.op = 3 → x.x = ((2 * k : Nat) : Int) → CdAt p (pc + 1) a pj → p[pj]? = some j → j.op = 3 → j.x = ((2 * k + 1 : Nat) : Int) → CdAt p pc (.grp a k) (pj + 1)
/-- No group of the tree writes slot k. -/
def NoSlot (k : Nat) : Rx → Prop
  | .cat a b => NoSlot k a ∧ NoSlot k b
  | .alt a b => NoSlot k a ∧ NoSlot k b
  | .rep a _ _ _ => NoSlot k a
  | .grp a j => NoSlot k a ∧ k ≠ 2 * j ∧ k ≠ 2 * j + 1
  | _ => True
/-- A star's body takes a byte; a group's slots are its own. -/
def RxC : Rx → Prop
  | .cat a b => RxC a ∧ RxC b
  | .alt a b => RxC a ∧ RxC b
  | .rep a _ _ _ => RxC a ∧ nulR a = false
  | .grp a j => RxC a ∧ NoSlot (2 * j) a
  | _ => True
def SetOk (n k : Nat) (f : Wf) : Prop := ∀ i c v, i ≤ n → f i (setC c k v) = (f i c).map (fun w => (w.1, setC w.2 k v))
section
variable {n k : Nat} {v : Int}
theorem ddS_map (φ : Wy → Wy) (hφ : ∀ w, (φ w).1 = w.1) (l : List Wy) : ∀ S, ddS S (l.map φ) = (ddS S l).map φ := by
  induction l with
  | nil => intro S; rfl
  | cons x l ih =>
    intro S
    simp only [List.map_cons, ddS]
    rw [hφ]
    split
    · exact ih S
    · rw [List.map_cons, ih]
theorem ends_map (φ : Wy → Wy) (hφ : ∀ w, (φ w).1 = w.1) (l : List Wy) : ends (l.map φ) = ends l := by
  simp [ends, hφ]
theorem joinL_map (φ : Wy → Wy) (hφ : ∀ w, (φ w).1 = w.1) (a b : List Wy) : joinL (a.map φ) (b.map φ) = (joinL a b).map φ := by
  unfold joinL
  rw [List.map_append, ends_map φ hφ, ddS_map φ hφ]
theorem joinAll_map (φ : Wy → Wy) (hφ : ∀ w, (φ w).1 = w.1) (l : List Wy) {g : Wy → List Wy} (hg : ∀ w ∈ l, g (φ w) = (g w).map φ) : joinAll (l.map φ) g = (joinAll l g).map φ := by
  rw [joinAll_eq, joinAll_eq, ← ddS_map φ hφ]
  congr 1
  induction l with
  | nil => rfl
  | cons x l ih =>
    rw [List.map_cons, List.flatMap_cons, List.flatMap_cons, List.map_append, hg x (List.mem_cons_self ..), ih (fun w hw => hg w (List.mem_cons_of_mem _ hw))]
theorem lzJ_map (φ : Wy → Wy) (hφ : ∀ w, (φ w).1 = w.1) (lz : Bool) (a b : List Wy) : lzJ lz (a.map φ) (b.map φ) = (lzJ lz a b).map φ := by
  unfold lzJ
  split
  · exact joinL_map φ hφ b a
  · exact joinL_map φ hφ a b
theorem SetOk.cat {f g : Wf} (gf : Good n f) (hf : SetOk n k f) (hg : SetOk n k g) : SetOk n k (catF f g) := fun i c v hi => by
  unfold catF
  rw [hf i c v hi]
  refine joinAll_map (fun w => (w.1, setC w.2 k v)) (fun _ => rfl) _ (g := fun w => g w.1 w.2) (fun w hw => ?_)
  exact hg w.1 w.2 v (gf.lo i c hi w hw).2
theorem SetOk.stop : SetOk n k stopF := fun _ _ _ _ => rfl
theorem SetOk.opt {f : Wf} (gf : Good n f) (hf : SetOk n k f) (lz : Bool) : ∀ m, SetOk n k (optF f lz m)
  | 0 => SetOk.stop
  | m + 1 => fun i c v hi => by
    show lzJ lz (catF f (optF f lz m) i (setC c k v)) [(i, setC c k v)] = _
    rw [SetOk.cat gf hf (SetOk.opt gf hf lz m) i c v hi]
    exact lzJ_map (fun w => (w.1, setC w.2 k v)) (fun _ => rfl) lz _ [(i, c)]
theorem SetOk.starG {f : Wf} (gf : Good n f) (hf : SetOk n k f) (lz : Bool) : ∀ m, SetOk n k (starG f lz m)
  | 0 => SetOk.stop
  | m + 1 => fun i c v hi => by
    have ih := SetOk.starG gf hf lz m
    have hflt : ∀ l : List Wy, (l.map (fun w => (w.1, setC w.2 k v))).filter (fun w => decide (i < w.1)) = (l.filter (fun w => decide (i < w.1))).map (fun w => (w.1, setC w.2 k v)) := fun l => by
      rw [List.filter_map]
      rfl
    show lzJ lz (joinAll ((f i (setC c k v)).filter (fun w => decide (i < w.1))) (fun w => Go.Proofs.Qxb6500283aGreat.starG f lz m w.1 w.2)) [(i, setC c k v)] = _
    rw [hf i c v hi, hflt]
    rw [joinAll_map (fun w => (w.1, setC w.2 k v)) (fun _ => rfl) _ (g := fun w => Go.Proofs.Qxb6500283aGreat.starG f lz m w.1 w.2) (fun w hw => ih w.1 w.2 v (gf.lo i c hi w (List.mem_filter.1 hw).1).2)]
    exact lzJ_map (fun w => (w.1, setC w.2 k v)) (fun _ => rfl) lz _ [(i, c)]
theorem SetOk.must {f g : Wf} (gf : Good n f) (hf : SetOk n k f) (hg : SetOk n k g) : ∀ m, SetOk n k (mustF f m g)
  | 0 => hg
  | m + 1 => SetOk.cat gf hf (SetOk.must gf hf hg m)
theorem setC_comm (c : Cp) {a b : Nat} (h : a ≠ b) (u v : Int) : setC (setC c a u) b v = setC (setC c b v) a u := by
  funext j
  simp only [setC]
  by_cases h1 : j = a
  · subst h1
    rw [if_pos rfl, if_neg h, if_pos rfl]
  · rw [if_neg h1]
    by_cases h2 : j = b
    · rw [if_pos h2, if_neg h1]
    · rw [if_neg h2, if_neg h1]
end
theorem wy_set (s : ByteArray) (k : Nat) : ∀ r, NoSlot k r → SetOk s.size k (wy s r)
  | .emp, _ => SetOk.stop
  | .set P, _ => fun i c v hi => by
    simp only [wy]
    split <;> rfl
  | .bol, _ => fun i c v hi => by
    simp only [wy]
    split <;> rfl
  | .eol, _ => fun i c v hi => by
    simp only [wy]
    split <;> rfl
  | .cat a b, h => SetOk.cat (wy_good s a) (wy_set s k a h.1) (wy_set s k b h.2)
  | .alt a b, h => fun i c v hi => by
    show joinL (wy s a i (setC c k v)) (wy s b i (setC c k v)) = _
    rw [wy_set s k a h.1 i c v hi, wy_set s k b h.2 i c v hi]
    exact joinL_map (fun w => (w.1, setC w.2 k v)) (fun _ => rfl) _ _
  | .rep a mn mx lz, h => by
    have ha := wy_set s k a h
    refine SetOk.must (wy_good s a) ha ?_ mn
    unfold restF
    split
    · exact fun i c v hi => SetOk.starG (wy_good s a) ha lz _ i c v hi
    · exact SetOk.opt (wy_good s a) ha lz _
  | .grp a j, h => fun i c v hi => by
    show grpF (wy s a) j i (setC c k v) = (grpF (wy s a) j i c).map _
    unfold grpF
    rw [wy_set s k a h.1 i c v hi, List.map_map, List.map_map]
    refine List.map_congr_left (fun w _ => ?_)
    simp only [Function.comp]
    rw [setC_comm _ h.2.1, setC_comm _ h.2.2]
/-- What cannot match the empty string takes a byte. -/
theorem wy_byte (s : ByteArray) : ∀ r, nulR r = false → ∀ i c, i ≤ s.size → ∀ w ∈ wy s r i c, i < w.1
  | .emp, h => by cases h
  | .set P, _ => fun i c hi w hw => by
    simp only [wy] at hw
    split at hw
    · simp only [List.mem_singleton] at hw; subst hw; exact Nat.lt_succ_self _
    · cases hw
  | .bol, h => by cases h
  | .eol, h => by cases h
  | .cat a b, h => fun i c hi w hw => by
    simp only [nulR, Bool.and_eq_false_iff] at h
    have ga := wy_good s a
    have gb := wy_good s b
    simp only [wy, catF] at hw
    rw [joinAll_eq] at hw
    obtain ⟨x, hx, hw⟩ := List.mem_flatMap.1 (mem_ddS hw)
    have h1 := ga.lo i c hi x hx
    have h2 := gb.lo _ _ h1.2 w hw
    rcases h with h | h
    · have := wy_byte s a h i c hi x hx; omega
    · have := wy_byte s b h _ _ h1.2 w hw; omega
  | .alt a b, h => fun i c hi w hw => by
    simp only [nulR, Bool.or_eq_false_iff] at h
    rcases mem_join hw with hw | hw
    · exact wy_byte s a h.1 i c hi w hw
    · exact wy_byte s b h.2 i c hi w hw
  | .rep a mn mx lz, h => fun i c hi w hw => by
    simp only [nulR, Bool.or_eq_false_iff, decide_eq_false_iff_not] at h
    obtain ⟨m, rfl⟩ : ∃ m, mn = m + 1 := ⟨mn - 1, by omega⟩
    have ga := wy_good s a
    have gr : Good s.size (mustF (wy s a) m (restF s.size (wy s a) lz (m + 1) mx)) := Good.must ga (ga.rest lz _ mx) m
    have hw' : w ∈ catF (wy s a) (mustF (wy s a) m (restF s.size (wy s a) lz (m + 1) mx)) i c := hw
    unfold catF at hw'
    rw [joinAll_eq] at hw'
    obtain ⟨x, hx, hw'⟩ := List.mem_flatMap.1 (mem_ddS hw')
    have h1 := ga.lo i c hi x hx
    have h2 := gr.lo _ _ h1.2 w hw'
    have := wy_byte s a h.2 i c hi x hx
    omega
  | .grp a k, h => fun i c hi w hw => by
    obtain ⟨x, hx, rfl⟩ := List.mem_map.1 hw
    exact wy_byte s a h i c hi x hx
def stL (pc : Nat) (l : List Wy) : List Sst := l.map (fun w => (pc, w.1, w.2))
section
variable {p : List In} {s : ByteArray} {r : Option ((Nat → Int) × Nat)}
/-- Duplicates may be put back. -/
theorem undd (pc : Nat) (S : List Sst) : ∀ (L : List Wy) (T : List Nat) r, (∀ e ∈ T, ∀ c, ExR p s [(pc, e, c)] none) → ExR p s (stL pc (ddS T L) ++ S) r → ExR p s (stL pc L ++ S) r
  | [], _, _, _, h => h
  | x :: L, T, r, hT, h => by
    simp only [ddS] at h
    by_cases hx : x.1 ∈ T
    · rw [if_pos hx] at h
      have := undd pc S L T r hT h
      exact ExR.app (A := [(pc, x.1, x.2)]) (hT x.1 hx x.2) this
    · rw [if_neg hx] at h
      have h' : ExR p s ([(pc, x.1, x.2)] ++ (stL pc (ddS (x.1 :: T) L) ++ S)) r := h
      rcases h'.split with ⟨y, rfl, h1⟩ | ⟨h1, h2⟩
      · exact ExR.hit (A := [(pc, x.1, x.2)]) h1
      · refine ExR.app (A := [(pc, x.1, x.2)]) h1 (undd pc S L (x.1 :: T) r (fun e he c => ?_) h2)
        rcases List.mem_cons.1 he with rfl | he
        · exact h1.dead
        · exact hT e he c
theorem stL_append (pc : Nat) (a b : List Wy) : stL pc (a ++ b) = stL pc a ++ stL pc b := by simp [stL]
theorem unjoin (pc : Nat) (S : List Sst) (a b : List Wy) (h : ExR p s (stL pc (joinL a b) ++ S) r) : ExR p s (stL pc a ++ (stL pc b ++ S)) r := by
  unfold joinL at h
  rw [stL_append, List.append_assoc] at h
  rcases h.split with ⟨y, rfl, h1⟩ | ⟨h1, h2⟩
  · exact h1.hit
  · refine h1.app (undd pc S b (ends a) r (fun e he c => ?_) h2)
    obtain ⟨x, hx, rfl⟩ := List.mem_map.1 he
    clear h2 h
    induction a with
    | nil => cases hx
    | cons y a ih =>
      have h1' : ExR p s ([(pc, y.1, y.2)] ++ stL pc a) none := h1
      rcases h1'.split with ⟨z, e, _⟩ | ⟨h3, h4⟩
      · cases e
      · rcases List.mem_cons.1 hx with rfl | hx
        · exact h3.dead
        · exact ih h4 hx (List.mem_map_of_mem hx)
/-- One after another. -/
theorem unflat {pc pc' : Nat} (S : List Sst) {g : Wy → List Wy} : ∀ (L : List Wy) r, (∀ w ∈ L, ∀ S r, ExR p s (stL pc' (g w) ++ S) r → ExR p s ((pc, w.1, w.2) :: S) r) → ExR p s (stL pc' (L.flatMap g) ++ S) r → ExR p s (stL pc L ++ S) r
  | [], _, _, h => h
  | x :: L, r, hg, h => by
    rw [List.flatMap_cons, stL_append, List.append_assoc] at h
    have h2 : ExR p s (stL pc' (g x) ++ (stL pc L ++ S)) r := h.under (fun r' h' => unflat S L r' (fun w hw => hg w (List.mem_cons_of_mem _ hw)) h')
    exact hg x (List.mem_cons_self ..) _ r h2
theorem isM_of {pc : Nat} {x : In} (h : p[pc]? = some x) (ho : x.op ≠ 6) : isM p pc = false := by
  unfold isM
  rw [h]
  simpa using ho
theorem unjmp {pc pc' : Nat} {j : In} (h : p[pc]? = some j) (ho : j.op = 2) (hx : j.x = (pc' : Nat)) (S : List Sst) : ∀ (L : List Wy) r, ExR p s (stL pc' L ++ S) r → ExR p s (stL pc L ++ S) r
  | [], _, h => h
  | w :: L, r, hh => by
    have h' : ExR p s ([(pc', w.1, w.2)] ++ (stL pc' L ++ S)) r := hh
    have h2 := h'.under (fun r' h'' => unjmp h ho hx S L r' h'')
    refine ExR.go (isM_of h (by omega)) ?_
    have e : succ p s pc w.1 w.2 = [(pc', w.1, w.2)] := by
      unfold succ
      rw [h]
      simp [ho, hx]
    rw [e]
    exact h2
end
end Go.Proofs.Qxb6500283aGreat
