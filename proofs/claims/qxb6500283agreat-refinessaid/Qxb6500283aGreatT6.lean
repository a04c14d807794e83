/- What the parser's nodes look like; unbounded repeats take a byte. -/
import Derived.Test.Qxb6500283aGreatS7
import Derived.Test.Qxb6500283aGreatT5
namespace Go.Proofs.Qxb6500283aGreat

def FormNd (g : Nat) (n : Nd) : Prop :=
  (∃ P, n = leafNd 1 P) ∨ n = leafNd 0 noP ∨ n = leafNd 2 noP ∨ n = leafNd 3 noP ∨ (∃ a b, n = catNd a b) ∨ (∃ a b, n = altNd a b) ∨ (∃ a lo hi z, n = repNd a lo hi z) ∨ ∃ a c, 1 ≤ c ∧ c ≤ g ∧ n = grpNd a c
theorem FormNd.mono {g g' : Nat} {n : Nd} (h : FormNd g n) (hg : g ≤ g') : FormNd g' n := by
  rcases h with h | h | h | h | h | h | h | ⟨a, c, h1, h2, h⟩
  · exact .inl h
  · exact .inr (.inl h)
  · exact .inr (.inr (.inl h))
  · exact .inr (.inr (.inr (.inl h)))
  · exact .inr (.inr (.inr (.inr (.inl h))))
  · exact .inr (.inr (.inr (.inr (.inr (.inl h)))))
  · exact .inr (.inr (.inr (.inr (.inr (.inr (.inl h))))))
  · exact .inr (.inr (.inr (.inr (.inr (.inr (.inr ⟨a, c, h1, by omega, h⟩))))))
theorem nul_app {ns : List Nd} (n : Nd) {k : Nat} (h : nul ns k = false) : nul (ns ++ [n]) k = false := by
  unfold nul at h ⊢
  have hl : k < (nulL ns).length := by
    rcases Nat.lt_or_ge k (nulL ns).length with h1 | h1
    · exact h1
    · rw [List.getD_eq_getElem?_getD, List.getElem?_eq_none h1] at h; cases h
  have e : nulL (ns ++ [n]) = nulL ns ++ [nullNd (nulL ns) n] := by
    unfold nulL
    rw [List.foldl_append]
    rfl
  rw [e, List.getD_eq_getElem?_getD, List.getElem?_append_left hl, ← List.getD_eq_getElem?_getD]
  exact h
def LoopOk (ns : List Nd) : Prop := ∀ n ∈ ns, n.kind = 6 → n.mx < 0 → nul ns n.a.toNat = false
structure St2 (s : Sg) : Prop where
  form : ∀ n ∈ s.ns, FormNd s.g n
  loop : LoopOk s.ns
def Tr (s s' : Sg) : Prop := s.g ≤ s'.g ∧ (St2 s → St2 s')
theorem Tr.refl (s : Sg) : Tr s s := ⟨Nat.le_refl _, id⟩
theorem Tr.trans {a b c : Sg} (h : Tr a b) (h' : Tr b c) : Tr a c := ⟨Nat.le_trans h.1 h'.1, fun x => h'.2 (h.2 x)⟩
theorem Tr.i {s : Sg} (j : Nat) : Tr s ⟨j, s.ns, s.g⟩ := ⟨Nat.le_refl _, fun h => ⟨h.form, h.loop⟩⟩
theorem addS_T {s s' : Sg} {n : Nd} {y : Nat} (h : addS s n = .ok (y, s')) (hn : FormNd s.g n) (hl : n.kind = 6 → n.mx < 0 → nul s.ns n.a.toNat = false) : Tr s s' := by
  obtain ⟨_, hg, hns, _⟩ := addS_grow h
  refine ⟨by omega, fun hs => ⟨fun m hm => ?_, fun m hm h6 hx => ?_⟩⟩
  · rw [hg]
    rw [hns] at hm
    rcases List.mem_append.1 hm with h1 | h1
    · exact hs.form m h1
    · rw [List.mem_singleton.1 h1]; exact hn
  · rw [hns] at hm ⊢
    rcases List.mem_append.1 hm with h1 | h1
    · exact nul_app _ (hs.loop m h1 h6 hx)
    · rw [List.mem_singleton.1 h1] at h6 hx ⊢
      exact nul_app _ (hl h6 hx)
def AltT (A : Sg → Res → Prop) : Prop := ∀ s x s', A s (.ok (x, s')) → Tr s s'
theorem no6 {k : Int} {P : BSet} (h : k ≠ 6) {Q : Prop} : (leafNd k P).kind = 6 → Q := fun e => absurd e h
theorem GroupR.tr {p : ByteArray} {d : Nat} {A : Sg → Res → Prop} (hA : AltT A) {s : Sg} {r : Res} (h : GroupR p d A s r) : ∀ x s', r = .ok (x, s') → Tr s s' := by
  intro x s' e
  cases h with
  | deep => cases e
  | many => cases e
  | err => cases e
  | open_ => cases e
  | @shut s1 s2 c y _ ho ha _ =>
    have h2 := hA _ _ _ ha
    have h1 : Tr s s1 ∧ (c = 0 ∨ (1 ≤ c ∧ c ≤ s1.g)) := by
      unfold openS at ho
      split at ho
      · cases ho; exact ⟨Tr.i _, .inl rfl⟩
      split at ho
      · cases ho
      · cases ho
        exact ⟨⟨Nat.le_succ _, fun hs => ⟨fun n hn => (hs.form n hn).mono (Nat.le_succ _), hs.loop⟩⟩, .inr ⟨by omega, Nat.le_refl _⟩⟩
    refine h1.1.trans (h2.trans ?_)
    unfold shutS at e
    split at e
    · cases e; exact Tr.i _
    · rename_i hc
      have h3 := h2.1
      refine (Tr.i (s2.i + 1)).trans (addS_T e (.inr (.inr (.inr (.inr (.inr (.inr (.inr ⟨y, c, by omega, ?_, rfl⟩))))))) (fun h => by simp [grpNd] at h))
      show c ≤ s2.g
      omega
theorem AtomR.tr {p : ByteArray} {d : Nat} {A : Sg → Res → Prop} (hA : AltT A) {s : Sg} {r : Res} (h : AtomR p d A s r) : ∀ x s', r = .ok (x, s') → Tr s s' := by
  intro x s' e
  cases h with
  | group _ hg => exact hg.tr hA _ _ e
  | sign => cases e
  | leafE => cases e
  | leaf _ _ hl =>
    refine (Tr.i _).trans (addS_T e ?_ ?_)
    · cases hl
      all_goals first | exact .inl ⟨_, rfl⟩ | exact .inr (.inr (.inl rfl)) | exact .inr (.inr (.inr (.inl rfl)))
    · cases hl <;> exact fun h => by simp [leafNd] at h
theorem RepL.tr {p : ByteArray} {x : Nat} {s : Sg} {r : Res} (h : RepL p x s r) : ∀ y s', r = .ok (y, s') → Tr s s' := by
  induction h with
  | done => intro y s' e; cases e; exact Tr.refl _
  | bad => intro y s' e; cases e
  | loop => intro y s' e; cases e
  | big => intro y s' e; cases e
  | @more x _ s _ lo hi _ _ _ _ _ hn ha _ ih =>
    intro y s' e
    refine ((Tr.i _).trans (addS_T ha (.inr (.inr (.inr (.inr (.inr (.inr (.inl ⟨_, _, _, _, rfl⟩))))))) (fun _ hx => ?_))).trans (ih _ _ e)
    have hx' : hi < 0 := hx
    cases hq : nul s.ns x with
    | false => exact hq
    | true => exact absurd ⟨hx', hq⟩ hn
theorem RepR.tr {p : ByteArray} {d : Nat} {A : Sg → Res → Prop} (hA : AltT A) {s : Sg} {r : Res} (h : RepR p d A s r) : ∀ x s', r = .ok (x, s') → Tr s s' := by
  intro x s' e
  cases h with
  | err => cases e
  | ok ha hl => exact (ha.tr hA _ _ rfl).trans (hl.tr _ _ e)
theorem CatL.tr {p : ByteArray} {d : Nat} {A : Sg → Res → Prop} (hA : AltT A) {l : Option Nat} {s : Sg} {r : Res} (h : CatL p d A l s r) : ∀ x s', r = .ok (x, s') → Tr s s' := by
  induction h with
  | stop => intro y s' e; cases e; exact Tr.refl _
  | empty => intro y s' e; exact addS_T e (.inr (.inl rfl)) (fun h => by simp [leafNd] at h)
  | err => intro y s' e; cases e
  | big => intro y s' e; cases e
  | more _ hr hj _ ih =>
    intro y s' e
    refine (hr.tr hA _ _ rfl).trans (Tr.trans ?_ (ih _ _ e))
    unfold joinN at hj
    split at hj
    · cases hj; exact Tr.refl _
    · exact addS_T hj (.inr (.inr (.inr (.inr (.inl ⟨_, _, rfl⟩))))) (fun h => by simp [catNd] at h)
theorem AltL.tr {p : ByteArray} {d : Nat} {A : Sg → Res → Prop} (hA : AltT A) {l : Nat} {s : Sg} {r : Res} (h : AltL p d A l s r) : ∀ x s', r = .ok (x, s') → Tr s s' := by
  induction h with
  | stop => intro y s' e; cases e; exact Tr.refl _
  | err => intro y s' e; cases e
  | big => intro y s' e; cases e
  | more _ hc ha _ ih =>
    intro y s' e
    exact ((Tr.i _).trans (hc.tr hA _ _ rfl)).trans ((addS_T ha (.inr (.inr (.inr (.inr (.inr (.inl ⟨_, _, rfl⟩)))))) (fun h => by simp [altNd] at h)).trans (ih _ _ e))
theorem AltR.tr {p : ByteArray} {d : Nat} {A : Sg → Res → Prop} (hA : AltT A) : AltT (AltR p d A) := by
  intro s x s' h
  cases h with
  | ok hc hl => exact (hc.tr hA _ _ rfl).trans (hl.tr hA _ _ rfl)
theorem AltD.tr (p : ByteArray) : ∀ k, AltT (AltD p k)
  | 0 => AltR.tr (fun _ _ _ h => h.elim)
  | k + 1 => AltR.tr (AltD.tr p k)
theorem ModelR.form {p : ByteArray} {ns : List Nd} {x g : Nat} (h : ModelR p (.ok (ns, x, g))) : (∀ n ∈ ns, FormNd g n) ∧ LoopOk ns := by
  cases h with
  | ok ha _ =>
    have h1 := (AltD.tr p 5 _ _ _ ha).2 ⟨fun n hn => (by cases hn), fun n hn => (by cases hn)⟩
    exact ⟨h1.form, h1.loop⟩
/-- Can a tree match the empty string? -/
def nulR : Rx → Bool
  | .emp => true
  | .set _ => false
  | .bol => true
  | .eol => true
  | .cat a b => nulR a && nulR b
  | .alt a b => nulR a || nulR b
  | .rep a mn _ _ => decide (mn = 0) || nulR a
  | .grp a _ => nulR a
theorem nul_pre (ns l : List Nd) {k : Nat} (hk : k < ns.length) : nul (ns ++ l) k = nul ns k := by
  induction l using snoc_ind with
  | h0 => rw [List.append_nil]
  | h1 l a ih =>
    rw [← List.append_assoc, ← ih]
    unfold nul
    rw [nulL_add, List.getD_eq_getElem?_getD, List.getElem?_append_left (by rw [nulL_len, List.length_append]; omega), ← List.getD_eq_getElem?_getD]
theorem nul_at {ns : List Nd} {k : Nat} {n : Nd} (h : ns[k]? = some n) : nul ns k = nullNd (nulL (ns.take k)) n := by
  obtain ⟨hk, rfl⟩ := getE h
  have e : ns = (ns.take k ++ [ns[k]]) ++ ns.drop (k + 1) := by
    rw [List.append_assoc, List.singleton_append, ← List.drop_eq_getElem_cons hk, List.take_append_drop]
  have hl : (ns.take k).length = k := by rw [List.length_take]; omega
  have h1 : nul ns k = nul (ns.take k ++ [ns[k]]) k := by
    conv => lhs; rw [e]
    exact nul_pre _ _ (by rw [List.length_append, hl]; simp)
  rw [h1]
  unfold nul
  rw [nulL_add, List.getD_eq_getElem?_getD, List.getElem?_append_right (by rw [nulL_len, hl]; omega)]
  simp [nulL_len, hl]
theorem nul_take {ns : List Nd} {k a : Nat} (hk : k ≤ ns.length) (ha : a < k) : (nulL (ns.take k)).getD a true = nul ns a := by
  have e := nul_pre (ns.take k) (ns.drop k) (k := a) (by rw [List.length_take]; omega)
  rw [List.take_append_drop] at e
  exact e.symm
theorem IsT.nul {ns : List Nd} {k : Nat} {r : Rx} (h : IsT ns k r) : nul ns k = nulR r := by
  induction h with
  | emp h e => rw [nul_at h]; simp [nullNd, e, nulR]
  | set h e => rw [nul_at h]; simp [nullNd, e, nulR]
  | bol h e => rw [nul_at h]; simp [nullNd, e, nulR]
  | eol h e => rw [nul_at h]; simp [nullNd, e, nulR]
  | cat h e e1 e2 l1 l2 _ _ ih1 ih2 =>
    have hk := (getE h).1
    rw [nul_at h]
    simp only [nullNd, e, e1, e2, Int.toNat_natCast, nul_take (Nat.le_of_lt hk) l1, nul_take (Nat.le_of_lt hk) l2, ih1, ih2, nulR]
    rfl
  | alt h e e1 e2 l1 l2 _ _ ih1 ih2 =>
    have hk := (getE h).1
    rw [nul_at h]
    simp only [nullNd, e, e1, e2, Int.toNat_natCast, nul_take (Nat.le_of_lt hk) l1, nul_take (Nat.le_of_lt hk) l2, ih1, ih2, nulR]
    rfl
  | rep h e e1 e2 l1 _ ih1 =>
    have hk := (getE h).1
    rw [nul_at h]
    simp only [nullNd, e, e1, e2, Int.toNat_natCast, nul_take (Nat.le_of_lt hk) l1, ih1, nulR]
    simp
  | grp h e e1 e2 l1 _ ih1 =>
    have hk := (getE h).1
    rw [nul_at h]
    simp only [nullNd, e, e1, Int.toNat_natCast, nul_take (Nat.le_of_lt hk) l1, ih1, nulR]
    rfl
end Go.Proofs.Qxb6500283aGreat
