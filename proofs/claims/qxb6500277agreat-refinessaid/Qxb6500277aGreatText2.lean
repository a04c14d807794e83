/- A region that draws its order, walked in two orders: a common beginning, then one of two ends. -/
import Derived.Test.Qxb6500277aGreatText
namespace Go.Proofs.Qxb6500277aGreat
open Go Go.RowKit

section
variable {P : Program} {ops : Array Oper} {Q : Exit → Act → World → Prop} {F : Act → World → Prop}

/-- Operation i may be taken now, whatever else could be. -/
def takeB (P : Program) (ops : Array Oper) (L : Array Bool) (i : Nat) : Bool :=
  (Region.ready .any ops L == [i]) ||
  ((Region.ready .any ops L).contains i && Region.free .any ops L i &&
    match ops[i]? with
    | some o => cls P o == 0 || (cls P o == 1 && calmB P ops L i)
    | none => false)
def takesB (P : Program) (ops : Array Oper) : Array Bool → List Nat → Bool
  | _, [] => true
  | L, i :: r => (Region.ready .any ops L).contains i && takeB P ops L i && takesB P ops (L.setIfInBounds i true) r
def setsL : Array Bool → List Nat → Array Bool
  | L, [] => L
  | L, i :: r => setsL (L.setIfInBounds i true) r
/-- The operations in that order, each with its wish, then K. -/
def wpC (P : Program) (ops : Array Oper) (Q : Exit → Act → World → Prop) (K : Act → World → Prop) : List Nat → Act → World → Prop
  | [], a, w => K a w
  | i :: rest, a, w => Fine P ops i a ∧ wpOp P ops Q i (wpC P ops Q K rest) a w

theorem wpAnyK_chain (hsel : Region.noSelect ops = true) (hcert : certB ops (Region.before ops) = true) (m : Nat) : ∀ (is : List Nat) (L : Array Bool) (a : Act) (w : World), takesB P ops L is = true → DC ops L →
    wpC P ops (NF F) (fun a' w' => wpAnyK P ops (NF F) m (setsL L is) a' w') is a w → wpAnyK P ops (NF F) (m + is.length) L a w
  | [], L, a, w, _, _, h => h
  | i :: r, L, a, w, hB, hdc, h => by
    simp only [takesB, Bool.and_eq_true] at hB
    obtain ⟨⟨hmem0, ht⟩, hr⟩ := hB
    have hmem : i ∈ Region.ready .any ops L := by simpa using hmem0
    obtain ⟨hf, h⟩ := h
    obtain ⟨_, o, ho, _⟩ := mem_ready.1 hmem
    have next : ∀ a' w', wpC P ops (NF F) (fun a' w' => wpAnyK P ops (NF F) m (setsL L (i :: r)) a' w') r a' w' → wpAnyK P ops (NF F) (m + r.length) (L.setIfInBounds i true) a' w' :=
      fun a' w' h' => wpAnyK_chain hsel hcert m r (L.setIfInBounds i true) a' w' hr (hdc.set hmem) h'
    simp only [takeB, Bool.or_eq_true, Bool.and_eq_true, beq_iff_eq, ho] at ht
    rcases ht with hone | ⟨⟨_, hfree⟩, hc | ⟨hc, hcalm⟩⟩
    · refine ⟨fun h0 => (by rw [hone] at h0; cases h0), fun j hj => ?_⟩
      rw [hone] at hj
      simp only [List.mem_singleton] at hj
      subst hj
      exact ⟨hf, wpOp_mono next h⟩
    · obtain ⟨v, hy, hK⟩ := yields0 ho hc hf h
      refine wpAnyK_first hcert (S := fun _ => True) (v := v) ho (Region.noSelect_spec hsel) (fun _ _ _ h => absurd h.1 (by simp)) (m + r.length) L a w (fun j oj hj hne hun hno hnd => ⟨Region.free_spec ho hfree j oj hj hne hun hno, ?_⟩) hdc hmem hf hy trivial (next _ _ hK)
      exact fun K a w _ _ h => wpOp_mono (fun _ _ h => ⟨trivial, h⟩) h
    · obtain ⟨v, hy, hK⟩ := yields1 ho hc hf h
      refine wpAnyK_first hcert (S := Grow w) (v := v) ho (Region.noSelect_spec hsel) (fun _ _ _ h => absurd h.1 (by simp)) (m + r.length) L a w (fun j oj hj hne hun hno hnd => ⟨Region.free_spec ho hfree j oj hj hne hun hno, ?_⟩) hdc hmem hf hy (Grow.refl w) (next _ _ hK)
      exact keeps_grow hj (calm_spec hcalm hj hne hun hnd) w

/-- No operation that has a wish loses what it looks at to one that comes at or behind it in that order. -/
def keepL (ops : Array Oper) : List Nat → Bool
  | [] => true
  | k :: r => (match ops[k]? with
    | some o => !needK o || (k :: r).all fun j => match (ops[j]?).bind (·.dst) with
      | some d => !(o.looksAt ops).contains d
      | none => true
    | none => true) && keepL ops r

theorem wpOp_q {G : Act → World → Prop} {i : Nat} {K : Act → World → Prop} {a : Act} {w : World} (h : wpOp P ops (NF G) i K a w) : wpOp P ops (NF F) i K a w := by
  cases hi : ops[i]? with
  | none => unfold wpOp at h ⊢; simp only [hi] at h ⊢; exact h
  | some o =>
    by_cases hw : Region.wanted o (yielded ops a.tmps) = true
    · have h' := run_of_wpOp hi hw h
      unfold wpOp
      simp only [hi, hw, if_true]
      refine .inl ?_
      unfold Oper.wp at h' ⊢
      generalize (execOp a.eval o).run P w = r at h' ⊢
      cases r with
      | ok n w1 =>
        cases n <;> simp only [Oper.upon] at h' ⊢
        case value v => exact h'
        case skip => exact h'
        case defer d => exact h'
        case enter f args =>
          refine Calls.mono h' fun e w'' he => ?_
          cases e with
          | returned u => exact he
          | panicked c => cases he.1
          | outgrown => obtain ⟨_, _, h0⟩ := he; cases h0.1
        case row row args => exact Rows.mono h' fun u w'' he => he
      | halt x w1 => cases x <;> first | exact h'.elim | (cases h'.1)
    · have hw' : Region.wanted o (yielded ops a.tmps) = false := by simpa using hw
      unfold wpOp at h ⊢
      simp only [hi, hw', Bool.false_eq_true, if_false] at h ⊢
      exact h
theorem wpC_of {G : Act → World → Prop} {t : List Nat} (hG : ∀ a w, G a w → wpOps P ops (NF fun a w => kindsB P ops a = true ∧ F a w) t a w) : ∀ (is : List Nat) (a : Act) (w : World), keepL ops (is ++ t) = true →
    wpOps P ops (NF G) is a w → wpC P ops (NF fun a w => kindsB P ops a = true ∧ F a w) G is a w
  | [], a, w, _, h => h.2
  | k :: r, a, w, hK, h => by
    simp only [List.cons_append, keepL, Bool.and_eq_true] at hK
    obtain ⟨h0, hK⟩ := hK
    have hfine : Fine P ops k a := by
      intro o ho hw
      cases hn : needK o with
      | false => exact kOK_of_not_need o _ hn
      | true =>
        obtain ⟨a1, w1, hg, hsame1⟩ := wpOps_some _ _ _ h
        obtain ⟨a', w', ⟨hkinds, _⟩, hsame2⟩ := wpOps_some _ _ _ (hG _ _ hg)
        have hsame : ∀ t', (∀ j ∈ k :: (r ++ t), ∀ o, ops[j]? = some o → o.dst ≠ some t') → a'.tmps[t']? = a.tmps[t']? := fun t' ht => (hsame2 t' fun j hj => ht j (by simp [hj])).trans (hsame1 t' fun j hj => ht j (by
          rcases List.mem_cons.1 hj with rfl | hj
          · simp
          · simp [hj]))
        simp only [ho, hn, Bool.not_true, Bool.false_or, List.all_eq_true] at h0
        have hlook : ∀ t ∈ o.looksAt ops, a'.tmps[t]? = a.tmps[t]? := fun t ht => hsame t fun j hj oj hoj hd => by
          have h2 := h0 j hj
          simp only [hoj, Option.bind_some, hd, Bool.not_eq_true', List.contains_eq_mem, decide_eq_false_iff_not] at h2
          exact h2 ht
        have hw' : Region.wanted o (yielded ops a'.tmps) = true := by
          rw [← hw]
          unfold Region.wanted
          cases hg : o.guard with
          | none => rfl
          | some gw =>
            obtain ⟨g, want⟩ := gw
            have hy : yielded ops a'.tmps g = yielded ops a.tmps g := by
              unfold yielded
              cases ht : (ops[g]?).bind (·.dst) with
              | none => rfl
              | some t =>
                simp only [Option.bind_some]
                rw [hlook t (by simp [Oper.looksAt, hg, ht])]
            simp only [hy]
        have hke : kOK P o a.eval = kOK P o a'.eval := kOK_congr o fun x hx => by
          cases x with
          | tmp t =>
            have := hlook t (List.mem_append_left _ (List.mem_filterMap.2 ⟨.tmp t, by simpa using hx, rfl⟩))
            simp only [Act.eval, Array.getD_eq_getD_getElem?, this]
          | _ => rfl
        simp only [kindsB, List.all_eq_true] at hkinds
        have h3 := hkinds o (by simpa using Array.mem_of_getElem? ho)
        simp only [hn, hw', Bool.not_true, Bool.false_or, Bool.or_false] at h3
        rw [hke]; exact h3
    rw [wpOps_cons] at h
    exact ⟨hfine, wpOp_q (wpOp_mono (fun a' w' h' => wpC_of hG r a' w' hK h') h)⟩
/-- Operations without a wish. -/
theorem wpC_plain (K : Act → World → Prop) (hK : ∀ a w, Q .normal a w → K a w) : ∀ (is : List Nat) (a : Act) (w : World), (is.all fun i => match ops[i]? with | some o => !needK o | none => true) = true →
    wpOps P ops Q is a w → wpC P ops Q K is a w
  | [], a, w, _, h => hK a w h
  | i :: r, a, w, hn, h => by
    simp only [List.all_cons, Bool.and_eq_true] at hn
    rw [wpOps_cons] at h
    refine ⟨fun o ho _ => ?_, wpOp_mono (fun a' w' h' => wpC_plain K hK r a' w' hn.2 h') h⟩
    have := hn.1
    rw [ho] at this
    exact kOK_of_not_need o _ (by simpa using this)

def pick (l : List Oper) (is : List Nat) : List Oper := is.filterMap (l[·]?)
theorem wpOps_pick (l : List Oper) : ∀ (is : List Nat), (∀ i ∈ is, i < l.length) → wpOps P l.toArray Q is = wpList P l.toArray Q (pick l is)
  | [], _ => by funext a w; simp [wpOps, wpList, pick]
  | i :: r, h => by
    have hi := h i (by simp)
    have ih := wpOps_pick l r (fun j hj => h j (by simp [hj]))
    have h0 : l.toArray[i]? = some l[i] := by simp [hi]
    have e : pick l (i :: r) = l[i] :: pick l r := by simp [pick, hi]
    funext a w
    rw [e]
    simp only [wpOps, h0, wpList, ih]

def twoB (P : Program) (ops : Array Oper) (pre t1 t2 : List Nat) : Bool :=
  Region.noSelect ops && certB ops (Region.before ops) && keepL ops (pre ++ t1) &&
  takesB P ops (Array.replicate ops.size false) pre &&
  (match t1, t2 with
  | i :: r1, j :: r2 =>
    let L := setsL (Array.replicate ops.size false) pre
    (Region.ready .any ops L == [i, j] || Region.ready .any ops L == [j, i]) && takesB P ops (L.setIfInBounds i true) r1 && takesB P ops (L.setIfInBounds j true) r2 &&
    (Region.ready .any ops (setsL (L.setIfInBounds i true) r1)).isEmpty && (Region.ready .any ops (setsL (L.setIfInBounds j true) r2)).isEmpty && r1.length == r2.length && (pre.length + (r1.length + 1) == ops.size)
  | _, _ => false) &&
  (t1.all fun i => match ops[i]? with | some o => !needK o | none => true) && (t2.all fun i => match ops[i]? with | some o => !needK o | none => true) &&
  (pre ++ t1).all (· < ops.size) && t2.all (· < ops.size)

theorem dc_none : DC ops (Array.replicate ops.size false) := by
  intro m om hm hl
  simp [Array.getD_eq_getD_getElem?, Array.getElem?_replicate] at hl
  split at hl <;> simp at hl
theorem dc_sets : ∀ (is : List Nat) (L : Array Bool), DC ops L → takesB P ops L is = true → DC ops (setsL L is)
  | [], L, h, _ => h
  | i :: r, L, h, ht => by
    simp only [takesB, Bool.and_eq_true] at ht
    exact dc_sets r _ (h.set (by simpa using ht.1.1)) ht.2
theorem wpC_mono {K K' : Act → World → Prop} (h : ∀ a w, K a w → K' a w) : ∀ (is : List Nat) (a : Act) (w : World), wpC P ops Q K is a w → wpC P ops Q K' is a w
  | [], a, w, hh => h a w hh
  | _ :: r, _, _, hh => ⟨hh.1, wpOp_mono (fun a' w' h' => wpC_mono h r a' w' h') hh.2⟩
/-- Both ends of the region. -/
structure Both (P : Program) (ops : Array Oper) (Q : Exit → Act → World → Prop) (l1 l2 : List Oper) (a : Act) (w : World) : Prop where
  one : wpList P ops Q l1 a w
  two : wpList P ops Q l2 a w
/-- A REGION THAT DRAWS, WALKED IN TWO ORDERS. -/
theorem wp_region_two {id : Nat} {l : List Oper} {a : Act} {w : World} (pre t1 t2 : List Nat) (hm : P.follows .mixedOrders = true) (hB : twoB P l.toArray pre t1 t2 = true)
    (h : wpList P l.toArray (fun e a' w' => e = .normal ∧ Both P l.toArray (fun e a' w' => e = .normal ∧ kindsB P l.toArray a' = true ∧ Q .normal a' w') (pick l t1) (pick l t2) a' w') (pick l pre) a w.drew) :
    (Code.region id l.toArray true).wp P Q a w := by
  match t1, t2, hB, h with
  | [], _, hB, _ => simp [twoB] at hB
  | _ :: _, [], hB, _ => simp [twoB] at hB
  | i :: r1, j :: r2, hB, h =>
    simp only [twoB, Bool.and_eq_true, Bool.or_eq_true, beq_iff_eq, List.isEmpty_iff] at hB
    obtain ⟨⟨⟨⟨⟨⟨⟨⟨hsel, hcert⟩, hkeep⟩, hpre⟩, ⟨⟨⟨⟨⟨hready, ht1⟩, ht2⟩, he1⟩, he2⟩, hlen⟩, hsz⟩, hn1⟩, hn2⟩, hb1⟩, hb2⟩ := hB
    have b1 : ∀ k ∈ pre ++ i :: r1, k < l.length := fun k hk => by simpa using (List.all_eq_true.1 hb1) k hk
    have b2 : ∀ k ∈ j :: r2, k < l.length := fun k hk => by simpa using (List.all_eq_true.1 hb2) k hk
    rw [← wpOps_pick l pre (fun k hk => b1 k (by simp [hk]))] at h
    have hdc := dc_sets pre _ (dc_none (ops := l.toArray)) hpre
    have mi : i ∈ Region.ready .any l.toArray (setsL (Array.replicate l.toArray.size false) pre) := by rcases hready with e | e <;> rw [e] <;> simp
    have mj : j ∈ Region.ready .any l.toArray (setsL (Array.replicate l.toArray.size false) pre) := by rcases hready with e | e <;> rw [e] <;> simp
    have h1 := wpC_of (P := P) (F := fun a' w' => Q .normal a' w') (G := fun a' w' => Both P l.toArray (NF fun a' w' => kindsB P l.toArray a' = true ∧ Q .normal a' w') (pick l (i :: r1)) (pick l (j :: r2)) a' w') (t := i :: r1) (fun a' w' h => by rw [wpOps_pick l (i :: r1) (fun k hk => b1 k (List.mem_append_right _ hk))]; exact h.one) pre a w.drew hkeep h
    have br : ∀ a' w', Both P l.toArray (NF fun a' w' => kindsB P l.toArray a' = true ∧ Q .normal a' w') (pick l (i :: r1)) (pick l (j :: r2)) a' w' →
        wpAnyK P l.toArray (NF fun a' w' => kindsB P l.toArray a' = true ∧ Q .normal a' w') (r1.length + 1) (setsL (Array.replicate l.toArray.size false) pre) a' w' := by
      rintro a' w' ⟨g1, g2⟩
      rw [← wpOps_pick l (i :: r1) (fun k hk => b1 k (List.mem_append_right _ hk))] at g1
      rw [← wpOps_pick l (j :: r2) b2] at g2
      refine ⟨fun h0 => (by rw [h0] at mi; cases mi), fun k hk => ?_⟩
      have hk' : k = i ∨ k = j := by rcases hready with e | e <;> rw [e] at hk <;> simp at hk <;> omega
      have stop : ∀ (L : Array Bool), Region.ready .any l.toArray L = [] → ∀ a' w', (NF fun a' w' => kindsB P l.toArray a' = true ∧ Q .normal a' w') .normal a' w' → wpAnyK P l.toArray (NF fun a' w' => kindsB P l.toArray a' = true ∧ Q .normal a' w') 0 L a' w' := fun L hL a' w' hq => ⟨hL, hq⟩
      rcases hk' with rfl | rfl
      · have := wpC_plain _ (stop _ he1) (k :: r1) a' w' hn1 g1
        refine ⟨this.1, wpOp_mono (fun a2 w2 h2 => ?_) this.2⟩
        have := wpAnyK_chain hsel hcert 0 r1 _ a2 w2 ht1 (hdc.set mi) h2
        simpa using this
      · have := wpC_plain _ (stop _ he2) (k :: r2) a' w' hn2 g2
        refine ⟨this.1, wpOp_mono (fun a2 w2 h2 => ?_) this.2⟩
        have := wpAnyK_chain hsel hcert 0 r2 _ a2 w2 ht2 (hdc.set mj) h2
        rw [hlen]
        simpa using this
    have h2 := wpAnyK_chain hsel hcert (r1.length + 1) pre _ a w.drew hpre dc_none (wpC_mono br pre a w.drew h1)
    have h3 := wpAny_of_K _ _ _ _ h2
    have h4 : (Code.region id l.toArray true).wp P (NF fun a' w' => kindsB P l.toArray a' = true ∧ Q .normal a' w') a w := by
      refine wp_region_any hm ?_
      have e : r1.length + 1 + pre.length = l.toArray.size := by omega
      rw [e] at h3
      exact h3
    refine wp_mono h4 ?_
    rintro e a' w' ⟨rfl, _, hq⟩
    exact hq
end
end Go.Proofs.Qxb6500277aGreat
