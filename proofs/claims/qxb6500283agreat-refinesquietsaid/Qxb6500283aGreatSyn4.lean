import Derived.Test.Qxb6500283aGreatSyn3
namespace Go.Proofs.Qxb6500283aGreat

/-! What every state keeps. -/
theorem numF_le (p : ByteArray) : ∀ f i v, i + f ≤ p.size → (numF p f i v).2 ≤ p.size ∧ i ≤ (numF p f i v).2 := by
  intro f
  induction f with
  | zero => intro i v h; simp only [numF]; omega
  | succ f ih =>
    intro i v h
    simp only [numF]
    split
    · have := ih (i + 1) (clip ((if v < 0 then 0 else v) * 10 + ((bt p i : Int) - 48))) (by omega); omega
    · simp only; omega
theorem num_le {p : ByteArray} {i : Nat} (h : i ≤ p.size) : (num p i).2 ≤ p.size ∧ i ≤ (num p i).2 := numF_le p _ i _ (by omega)
theorem isB_lt {p : ByteArray} {i c : Nat} (h : isB p i c = true) : i < p.size ∧ bt p i = c := by
  simpa [isB] using h
theorem hiOf_le {p : ByteArray} {lo : Int} {j : Nat} (h : j ≤ p.size) : (hiOf p lo j).2 ≤ p.size ∧ j ≤ (hiOf p lo j).2 := by
  unfold hiOf
  split
  · rename_i hb; have := isB_lt hb; have := num_le (p := p) (i := j + 1) (by omega); omega
  · simp only; omega
theorem brace_le {p : ByteArray} {i : Nat} {lo hi : Int} {j : Nat} (hi_ : i < p.size) (h : brace p i = some (lo, hi, j)) : j ≤ p.size ∧ i < j ∧ 0 ≤ lo ∧ lo ≤ 3 ∧ hi ≤ 3 := by
  unfold brace at h
  simp only at h
  split at h
  · rename_i hb
    cases h
    simp only [braceOk, Bool.and_eq_true, Bool.not_eq_true', decide_eq_false_iff_not] at hb
    have h1 := num_le (p := p) (i := i + 1) (by omega)
    have h2 := hiOf_le (p := p) (lo := (num p (i + 1)).1) h1.1
    have h3 := isB_lt hb.1.1.1.1
    omega
  · cases h
theorem count_le {p : ByteArray} {i : Nat} {lo hi : Int} {j : Nat} (hi_ : i < p.size) (h : count p i = some (lo, hi, j)) : j ≤ p.size ∧ i < j ∧ 0 ≤ lo ∧ lo ≤ 3 ∧ hi ≤ 3 := by
  unfold count at h
  split at h
  · cases h; omega
  split at h
  · cases h; omega
  split at h
  · cases h; omega
  · exact brace_le hi_ h
theorem lazyEnd_le {p : ByteArray} {j : Nat} (h : j ≤ p.size) : lazyEnd p j ≤ p.size ∧ j ≤ lazyEnd p j := by
  unfold lazyEnd
  split
  · rename_i hb; have := isB_lt hb; omega
  · omega
theorem bt_lt (p : ByteArray) (i : Nat) : bt p i < 256 := by
  unfold bt
  split
  · exact UInt8.toNat_lt _
  · omega
theorem hexv_lt {c h : Nat} (e : hexv c = some h) : h < 16 := by
  unfold hexv at e
  split at e
  · cases e; omega
  split at e
  · cases e; omega
  split at e
  · cases e; omega
  · cases e
theorem esc_le {p : ByteArray} {i : Nat} {m : BSet} {sg : Bool} {b j : Nat} (h : esc p i = some (m, sg, b, j)) : j ≤ p.size ∧ i + 2 ≤ j ∧ b < 256 := by
  unfold esc one at h
  by_cases h0 : p.size ≤ i + 1
  · rw [if_pos h0] at h; cases h
  rw [if_neg h0] at h
  by_cases c110 : bt p (i + 1) = 110
  · rw [if_pos c110] at h; cases h; omega
  rw [if_neg c110] at h
  by_cases c116 : bt p (i + 1) = 116
  · rw [if_pos c116] at h; cases h; omega
  rw [if_neg c116] at h
  by_cases c114 : bt p (i + 1) = 114
  · rw [if_pos c114] at h; cases h; omega
  rw [if_neg c114] at h
  by_cases c100 : bt p (i + 1) = 100
  · rw [if_pos c100] at h; cases h; omega
  rw [if_neg c100] at h
  by_cases c68 : bt p (i + 1) = 68
  · rw [if_pos c68] at h; cases h; omega
  rw [if_neg c68] at h
  by_cases c119 : bt p (i + 1) = 119
  · rw [if_pos c119] at h; cases h; omega
  rw [if_neg c119] at h
  by_cases c87 : bt p (i + 1) = 87
  · rw [if_pos c87] at h; cases h; omega
  rw [if_neg c87] at h
  by_cases c115 : bt p (i + 1) = 115
  · rw [if_pos c115] at h; cases h; omega
  rw [if_neg c115] at h
  by_cases c83 : bt p (i + 1) = 83
  · rw [if_pos c83] at h; cases h; omega
  rw [if_neg c83] at h
  by_cases c120 : bt p (i + 1) = 120
  · rw [if_pos c120] at h
    unfold xesc one at h
    by_cases h3 : i + 3 < p.size
    · rw [if_pos h3] at h
      split at h
      · rename_i h1 h2
        have := hexv_lt h1; have := hexv_lt h2
        cases h
        omega
      · cases h
    · rw [if_neg h3] at h; cases h
  rw [if_neg c120] at h
  split at h
  · cases h
  · have := bt_lt p (i + 1); cases h; omega
theorem item_le {p : ByteArray} {i : Nat} {m : BSet} {sg : Bool} {b j : Nat} (hi : i < p.size) (h : item p i = some (m, sg, b, j)) : j ≤ p.size ∧ i < j ∧ b < 256 := by
  unfold item at h
  split at h
  · have := esc_le h; omega
  · unfold one at h; have := bt_lt p i; cases h; omega
theorem dashB_lt {p : ByteArray} {j : Nat} (h : dashB p j = true) : j + 1 < p.size ∧ bt p j = 45 ∧ bt p (j + 1) ≠ 93 := by
  simpa [dashB, and_assoc] using h
theorem member_le {p : ByteArray} {i : Nat} (hi : i < p.size) : match member p i with | .error e => e.1 ≠ 0 ∧ e.2 ≤ p.size | .ok (_, j) => j ≤ p.size ∧ i < j := by
  unfold member
  split
  · rename_i heq
    split at heq
    · cases heq; simp only; omega
    · rename_i h1
      have l1 := item_le hi h1
      split at heq
      · rename_i hd
        have l2 := dashB_lt hd
        split at heq
        · cases heq; simp only; omega
        · split at heq
          · cases heq; simp only; omega
          · cases heq
      · cases heq
  · rename_i heq
    split at heq
    · cases heq
    · rename_i h1
      have l1 := item_le hi h1
      split at heq
      · rename_i hd
        have l2 := dashB_lt hd
        split at heq
        · cases heq
        · rename_i h2
          have l3 := item_le l2.1 h2
          split at heq
          · cases heq
          · cases heq; omega
      · cases heq; omega
theorem ClsR.le {p : ByteArray} {a i : Nat} {s : BSet} {r : Except Er (BSet × Nat)} (h : ClsR p a i s r) (ha : a ≤ p.size) : match r with | .error e => e.1 ≠ 0 ∧ e.2 ≤ p.size | .ok (_, j) => j ≤ p.size ∧ i < j := by
  induction h with
  | open_ _ => simp only; omega
  | shut h _ => simp only; omega
  | bad h _ hm => have := member_le h; rw [hm] at this; exact this
  | @more i s m j r h _ hm _ ih =>
    have := member_le h
    rw [hm] at this
    simp only at this
    cases r with
    | error e => exact ih
    | ok v => obtain ⟨P, k⟩ := v; simp only at ih ⊢; omega
theorem clsStart_gt (p : ByteArray) (i : Nat) : i < clsStart p i := by unfold clsStart; split <;> omega
theorem LeafR.le {p : ByteArray} {i : Nat} {r : Except Er (Int × BSet × Nat)} (h : LeafR p i r) (hi : i < p.size) : match r with | .error e => e.1 ≠ 0 ∧ e.2 ≤ p.size | .ok (k, _, j) => j ≤ p.size ∧ i < j ∧ (k = 1 ∨ k = 2 ∨ k = 3) := by
  cases h with
  | cls _ h => have h1 := h.le (by omega); have := clsStart_gt p i; simp only at h1; exact ⟨h1.1, by omega, .inl rfl⟩
  | clsE _ h => exact h.le (by omega)
  | esc _ h => have := esc_le h; exact ⟨this.1, by omega, .inl rfl⟩
  | escE => simp only; omega
  | dot => exact ⟨by omega, by omega, .inl rfl⟩
  | bgn => exact ⟨by omega, by omega, .inr (.inl rfl)⟩
  | end_ => exact ⟨by omega, by omega, .inr (.inr rfl)⟩
  | lit => exact ⟨by omega, by omega, .inl rfl⟩
structure SgOk (p : ByteArray) (s : Sg) : Prop where
  wf : WF s.ns
  len : s.ns.length ≤ 24
  g : s.g ≤ 3
  i : s.i ≤ p.size
/-- A model's answer: the node is the last one. -/
def ResOk (p : ByteArray) (r : Res) : Prop := match r with | .error e => e.1 ≠ 0 ∧ e.2 ≤ p.size | .ok (x, s) => SgOk p s ∧ x + 1 = s.ns.length
theorem addS_ok {p : ByteArray} {s : Sg} {n : Nd} (h : SgOk p s) (hn : okNd s.ns.length n) : ResOk p (addS s n) := by
  unfold addS
  split
  · exact ⟨by simp, h.i⟩
  · exact ⟨⟨h.wf.add hn, by simp; omega, h.g, h.i⟩, by simp⟩
theorem addS_grow {s s' : Sg} {n : Nd} {x : Nat} (h : addS s n = .ok (x, s')) : s'.i = s.i ∧ s'.g = s.g ∧ s'.ns = s.ns ++ [n] ∧ x = s.ns.length := by
  unfold addS at h
  split at h
  · cases h
  · cases h; exact ⟨rfl, rfl, rfl, rfl⟩
theorem okNd.leaf {k : Nat} {c : Int} {P : BSet} (h : c = 0 ∨ c = 1 ∨ c = 2 ∨ c = 3) : okNd k (leafNd c P) := .inl ⟨h, rfl, rfl⟩
theorem okNd.cat {k a b : Nat} (h : a < k) (h2 : b < k) : okNd k (catNd a b) := .inr (.inl ⟨.inl rfl, by simp [catNd]; omega⟩)
theorem okNd.alt {k a b : Nat} (h : a < k) (h2 : b < k) : okNd k (altNd a b) := .inr (.inl ⟨.inr rfl, by simp [altNd]; omega⟩)
theorem okNd.rep {k a : Nat} {lo hi : Int} {z : Bool} (h : a < k) : okNd k (repNd a lo hi z) := .inr (.inr ⟨.inl rfl, by simp [repNd]; omega⟩)
theorem okNd.grp {k a c : Nat} (h : a < k) : okNd k (grpNd a c) := .inr (.inr ⟨.inr rfl, by simp [grpNd]; omega⟩)
/-- The alternation keeps all. -/
def AltOk (p : ByteArray) (A : Sg → Res → Prop) : Prop := ∀ s r, A s r → SgOk p s → ResOk p r
theorem openS_ok {p : ByteArray} {s s1 : Sg} {c : Nat} (h : SgOk p s) (hi : s.i < p.size) (ho : openS p s = some (c, s1)) : SgOk p s1 ∧ c ≤ 3 ∧ s1.ns = s.ns ∧ s.i < s1.i := by
  unfold openS at ho
  split at ho
  · rename_i hf
    cases ho
    simp only [freeB, Bool.and_eq_true, decide_eq_true_eq] at hf
    exact ⟨⟨h.wf, h.len, h.g, by simp only; omega⟩, by omega, rfl, by simp only; omega⟩
  split at ho
  · cases ho
  · cases ho
    exact ⟨⟨h.wf, h.len, by simp only; omega, by simp only; omega⟩, by omega, rfl, by simp only; omega⟩
theorem shutS_ok {p : ByteArray} {s : Sg} {x c : Nat} (h : SgOk p s) (hi : s.i < p.size) (hx : x + 1 = s.ns.length) : ResOk p (shutS s x c) := by
  unfold shutS
  split
  · exact ⟨⟨h.wf, h.len, h.g, by simp only; omega⟩, hx⟩
  · exact addS_ok ⟨h.wf, h.len, h.g, by simp only; omega⟩ (okNd.grp (by simp only; omega))
theorem GroupR.ok {p : ByteArray} {d : Nat} {A : Sg → Res → Prop} (hA : AltOk p A) {s : Sg} {r : Res} (h : GroupR p d A s r) (hs : SgOk p s) (hi : s.i < p.size) : ResOk p r := by
  cases h with
  | deep => exact ⟨by simp, hs.i⟩
  | many => exact ⟨by simp, hs.i⟩
  | err _ ho ha => exact hA _ _ ha (openS_ok hs hi ho).1
  | open_ _ ho ha => exact ⟨by simp, hs.i⟩
  | shut _ ho ha hb =>
    obtain ⟨h1, h2⟩ := hA _ _ ha (openS_ok hs hi ho).1
    exact shutS_ok h1 (isB_lt hb).1 h2
theorem AtomR.ok {p : ByteArray} {d : Nat} {A : Sg → Res → Prop} (hA : AltOk p A) {s : Sg} {r : Res} (h : AtomR p d A s r) (hs : SgOk p s) (hi : s.i < p.size) : ResOk p r := by
  cases h with
  | group _ h => exact h.ok hA hs hi
  | sign => exact ⟨by simp, hs.i⟩
  | leafE _ _ h => exact h.le hi
  | leaf _ _ h =>
    have := h.le hi
    simp only at this
    exact addS_ok ⟨hs.wf, hs.len, hs.g, this.1⟩ (okNd.leaf (by omega))
theorem RepL.ok {p : ByteArray} {x : Nat} {s : Sg} {r : Res} (h : RepL p x s r) : SgOk p s → x + 1 = s.ns.length → ResOk p r := by
  induction h with
  | done => exact fun hs hx => ⟨hs, hx⟩
  | bad => exact fun hs hx => ⟨by simp, hs.i⟩
  | loop => exact fun hs hx => ⟨by simp, hs.i⟩
  | @big x s lo hi j e hi_ hg hc _ ha =>
    intro hs hx
    have h1 := count_le hi_ hc
    rw [← ha]
    exact addS_ok ⟨hs.wf, hs.len, hs.g, (lazyEnd_le h1.1).1⟩ (okNd.rep (by simp only; omega))
  | @more x y s s1 lo hi j r hi_ hg hc _ ha _ ih =>
    intro hs hx
    have h1 := count_le hi_ hc
    have h2 := addS_ok (n := repNd x lo hi (isB p j 63)) (s := ⟨lazyEnd p j, s.ns, s.g⟩) ⟨hs.wf, hs.len, hs.g, (lazyEnd_le h1.1).1⟩ (okNd.rep (by simp only; omega))
    rw [ha] at h2
    exact ih h2.1 h2.2
theorem RepR.fine {p : ByteArray} {d : Nat} {A : Sg → Res → Prop} (hA : AltOk p A) {s : Sg} {r : Res} (h : RepR p d A s r) (hs : SgOk p s) (hi : s.i < p.size) : ResOk p r := by
  cases h with
  | err h => exact h.ok hA hs hi
  | ok h h2 => have := h.ok hA hs hi; exact h2.ok this.1 this.2
theorem stopB_lt {p : ByteArray} {i : Nat} (h : stopB p i = false) : i < p.size := by simp [stopB] at h; exact h.1.1
theorem joinN_ok {p : ByteArray} {l : Option Nat} {x : Nat} {s : Sg} (h : SgOk p s) (hx : x + 1 = s.ns.length) (hl : ∀ k, l = some k → k < s.ns.length) : ResOk p (joinN l x s) := by
  cases l with
  | none => exact ⟨h, hx⟩
  | some k => exact addS_ok h (okNd.cat (hl k rfl) (by omega))
/-- The arena grows alone. -/
def ArGrow (r : Res) (s : Sg) : Prop := ∀ x s', r = .ok (x, s') → ∃ l, s'.ns = s.ns ++ l
theorem ArGrow.len {r : Res} {s s' : Sg} {x : Nat} (h : ArGrow r s) (e : r = .ok (x, s')) : s.ns.length ≤ s'.ns.length := by
  obtain ⟨l, hl⟩ := h x s' e
  rw [hl]; simp
theorem addS_G (s : Sg) (n : Nd) : ArGrow (addS s n) s := fun _ _ h => ⟨[n], (addS_grow h).2.2.1⟩
theorem ArGrow.then_ {r r' : Res} {s s1 : Sg} {x : Nat} (h : ArGrow r s) (e : r = .ok (x, s1)) (h2 : ArGrow r' s1) : ArGrow r' s := fun y s' e2 => by
  obtain ⟨l, hl⟩ := h _ _ e
  obtain ⟨l2, hl2⟩ := h2 _ _ e2
  exact ⟨l ++ l2, by rw [hl2, hl, List.append_assoc]⟩
theorem ArGrow.same {r : Res} {s s1 : Sg} (h : ArGrow r s1) (e : s1.ns = s.ns) : ArGrow r s := fun y s' e2 => by rw [← e]; exact h _ _ e2
theorem ArGrow.err (e : Er) (s : Sg) : ArGrow (.error e) s := fun _ _ h => by cases h
def AltG (A : Sg → Res → Prop) : Prop := ∀ s r, A s r → ArGrow r s
theorem openS_ns {p : ByteArray} {s s1 : Sg} {c : Nat} (ho : openS p s = some (c, s1)) : s1.ns = s.ns := by
  unfold openS at ho
  split at ho
  · cases ho; rfl
  split at ho
  · cases ho
  · cases ho; rfl
theorem shutS_G (s : Sg) (x c : Nat) : ArGrow (shutS s x c) s := by
  unfold shutS
  split
  · exact fun _ _ h => by cases h; exact ⟨[], by simp⟩
  · exact (addS_G _ _).same rfl
theorem GroupR.grow {p : ByteArray} {d : Nat} {A : Sg → Res → Prop} (hA : AltG A) {s : Sg} {r : Res} (h : GroupR p d A s r) : ArGrow r s := by
  cases h with
  | deep => exact .err _ _
  | many => exact .err _ _
  | err _ ho ha => exact .err _ _
  | open_ _ ho ha => exact .err _ _
  | shut _ ho ha hb => exact ((hA _ _ ha).then_ rfl (shutS_G _ _ _)).same (openS_ns ho)
theorem AtomR.grow {p : ByteArray} {d : Nat} {A : Sg → Res → Prop} (hA : AltG A) {s : Sg} {r : Res} (h : AtomR p d A s r) : ArGrow r s := by
  cases h with
  | group _ h => exact h.grow hA
  | sign => exact .err _ _
  | leafE _ _ h => exact .err _ _
  | leaf _ _ h => exact (addS_G _ _).same rfl
theorem RepL.grow {p : ByteArray} {x : Nat} {s : Sg} {r : Res} (h : RepL p x s r) : ArGrow r s := by
  induction h with
  | done => exact fun _ _ h => by cases h; exact ⟨[], by simp⟩
  | bad => exact .err _ _
  | loop => exact .err _ _
  | big => exact .err _ _
  | more _ _ _ _ ha _ ih => exact ((addS_G _ _).then_ ha ih).same rfl
theorem RepR.grow {p : ByteArray} {d : Nat} {A : Sg → Res → Prop} (hA : AltG A) {s : Sg} {r : Res} (h : RepR p d A s r) : ArGrow r s := by
  cases h with
  | err h => exact .err _ _
  | ok h h2 => exact (h.grow hA).then_ rfl h2.grow
theorem joinN_G (l : Option Nat) (x : Nat) (s : Sg) : ArGrow (joinN l x s) s := by
  cases l with
  | none => exact fun _ _ h => by cases h; exact ⟨[], by simp⟩
  | some k => exact addS_G _ _
theorem CatL.grow {p : ByteArray} {d : Nat} {A : Sg → Res → Prop} (hA : AltG A) {l : Option Nat} {s : Sg} {r : Res} (h : CatL p d A l s r) : ArGrow r s := by
  induction h with
  | stop => exact fun _ _ h => by cases h; exact ⟨[], by simp⟩
  | empty => exact addS_G _ _
  | err => exact .err _ _
  | big => exact .err _ _
  | more _ hR hJ _ ih => exact (hR.grow hA).then_ rfl ((joinN_G _ _ _).then_ hJ ih)
theorem AltL.grow {p : ByteArray} {d : Nat} {A : Sg → Res → Prop} (hA : AltG A) {l : Nat} {s : Sg} {r : Res} (h : AltL p d A l s r) : ArGrow r s := by
  induction h with
  | stop => exact fun _ _ h => by cases h; exact ⟨[], by simp⟩
  | err => exact .err _ _
  | big => exact .err _ _
  | more _ hC ha _ ih => exact ((hC.grow hA).then_ rfl ((addS_G _ _).then_ ha ih)).same rfl
theorem AltR.grow {p : ByteArray} {d : Nat} {A : Sg → Res → Prop} (hA : AltG A) : AltG (AltR p d A) := by
  intro s r h
  cases h with
  | err => exact .err _ _
  | ok hC hL => exact (hC.grow hA).then_ rfl (hL.grow hA)
theorem AltD.grow (p : ByteArray) : ∀ k, AltG (AltD p k)
  | 0 => AltR.grow (fun _ _ h => h.elim)
  | k + 1 => AltR.grow (AltD.grow p k)
theorem CatL.fine {p : ByteArray} {d : Nat} {A : Sg → Res → Prop} (hA : AltOk p A) (hG : AltG A) {l : Option Nat} {s : Sg} {r : Res} (h : CatL p d A l s r) : SgOk p s → (∀ k, l = some k → k + 1 = s.ns.length) → ResOk p r := by
  induction h with
  | stop => exact fun hs hl => ⟨hs, hl _ rfl⟩
  | empty => exact fun hs hl => addS_ok hs (okNd.leaf (.inl rfl))
  | err hb hR => exact fun hs hl => hR.fine hA hs (stopB_lt hb)
  | big hb hR hJ =>
    intro hs hl
    have h1 := hR.fine hA hs (stopB_lt hb)
    have h2 := (hR.grow hG).len rfl
    rw [← hJ]
    exact joinN_ok h1.1 h1.2 (fun k e => by have := hl k e; omega)
  | more hb hR hJ _ ih =>
    intro hs hl
    have h1 := hR.fine hA hs (stopB_lt hb)
    have h2 := (hR.grow hG).len rfl
    have h3 := joinN_ok h1.1 h1.2 (fun k e => by have := hl k e; omega)
    rw [hJ] at h3
    exact ih h3.1 (fun k e => by cases e; exact h3.2)
theorem AltL.fine {p : ByteArray} {d : Nat} {A : Sg → Res → Prop} (hA : AltOk p A) (hG : AltG A) {l : Nat} {s : Sg} {r : Res} (h : AltL p d A l s r) : SgOk p s → l + 1 = s.ns.length → ResOk p r := by
  induction h with
  | stop => exact fun hs hl => ⟨hs, hl⟩
  | err hb hC => exact fun hs hl => hC.fine hA hG ⟨hs.wf, hs.len, hs.g, by have := (isB_lt hb).1; simp only; omega⟩ (fun _ e => by cases e)
  | big hb hC ha =>
    intro hs hl
    have h1 := hC.fine hA hG ⟨hs.wf, hs.len, hs.g, by have := (isB_lt hb).1; simp only; omega⟩ (fun _ e => by cases e)
    have h2 := (hC.grow hG).len rfl
    simp only at h2
    rw [← ha]
    exact addS_ok h1.1 (okNd.alt (by omega) (by have := h1.2; omega))
  | @more l x y s s1 s2 r hb hC ha _ ih =>
    intro hs hl
    have h1 := hC.fine hA hG ⟨hs.wf, hs.len, hs.g, by have := (isB_lt hb).1; simp only; omega⟩ (fun _ e => by cases e)
    have h2 := (hC.grow hG).len rfl
    simp only at h2
    have h3 := addS_ok h1.1 (okNd.alt (a := l) (b := x) (by omega) (by have := h1.2; omega))
    rw [ha] at h3
    exact ih h3.1 h3.2
theorem AltR.fine {p : ByteArray} {d : Nat} {A : Sg → Res → Prop} (hA : AltOk p A) (hG : AltG A) : AltOk p (AltR p d A) := by
  intro s r h hs
  cases h with
  | err hC => exact hC.fine hA hG hs (fun _ e => by cases e)
  | ok hC hL =>
    have h1 := hC.fine hA hG hs (fun _ e => by cases e)
    exact hL.fine hA hG h1.1 h1.2
theorem AltD.fine (p : ByteArray) : ∀ k, AltOk p (AltD p k)
  | 0 => AltR.fine (fun _ _ h => h.elim) (fun _ _ h => h.elim)
  | k + 1 => AltR.fine (AltD.fine p k) (AltD.grow p k)
/-- What the law asks of an answer. -/
def AnsOk (p : ByteArray) (o : Ans) : Prop := match o with | .error e => e.1 ≠ 0 ∧ e.2 ≤ p.size | .ok (ns, x, g) => WF ns ∧ 1 ≤ ns.length ∧ ns.length ≤ 24 ∧ x + 1 = ns.length ∧ g ≤ 3
theorem sgOk0 (p : ByteArray) : SgOk p ⟨0, [], 0⟩ := ⟨.nil, by simp, by simp, by simp⟩
theorem ModelR.ok' {p : ByteArray} {o : Ans} (h : ModelR p o) : AnsOk p o := by
  cases h with
  | err h => exact AltD.fine p 5 _ _ h (sgOk0 p)
  | paren h hi => exact ⟨by simp, by simp only; omega⟩
  | ok h hi =>
    have := AltD.fine p 5 _ _ h (sgOk0 p)
    exact ⟨this.1.wf, by have := this.2; omega, this.1.len, this.2, this.1.g⟩

/-! The loop's state. -/
def FrOk (p : ByteArray) (n : Nat) (f : Frm) : Prop := (∀ k, f.alt = some k → k < n) ∧ (∀ k, f.cat = some k → k < n) ∧ (∀ k, f.atom = some k → k < n) ∧ f.num ≤ 3 ∧ f.at_ ≤ p.size
structure RsOk (p : ByteArray) (t : Rs) : Prop where
  s : SgOk p t.s
  f : FrOk p t.s.ns.length t.f
  r : ∀ g ∈ t.r, FrOk p t.s.ns.length g
  d : t.r.length ≤ 5
theorem FrOk.mono {p : ByteArray} {n n' : Nat} {f : Frm} (h : FrOk p n f) (hn : n ≤ n') : FrOk p n' f :=
  ⟨fun k e => by have := h.1 k e; omega, fun k e => by have := h.2.1 k e; omega, fun k e => by have := h.2.2.1 k e; omega, h.2.2.2⟩
theorem rsOk0 (p : ByteArray) : RsOk p rs0 := ⟨sgOk0 p, ⟨fun k e => (by cases e), fun k e => (by cases e), fun k e => (by cases e), Nat.zero_le _, Nat.zero_le _⟩, fun g h => (by simp [rs0] at h), by simp [rs0]⟩
end Go.Proofs.Qxb6500283aGreat
