import Derived.Test.Qxb6500283aGreatPmClo
namespace Go.Proofs.Qxb6500283aGreat
open Go Go.RowKit

def EmptyFrom (i : Nat) (sn : Nat → Nat → Bool) : Prop := ∀ j, i ≤ j → sn j = fun _ => false
def AnsM (p : List In) (str : ByteArray) (i : Nat) (S : List (Nat × (Nat → Int))) (r : Option ((Nat → Int) × Nat)) : Prop := ∀ sn, EmptyFrom i sn → ∃ f sn', dfs p str f (atP i S) sn = some (r, sn')
def AnsS (p : List In) (str : ByteArray) (i : Nat) (S : List (Nat × (Nat → Int))) (r : Option ((Nat → Int) × Nat)) : Prop :=
  ∀ sn, EmptyFrom i sn → ∃ f sn', dfs p str f (atP i S ++ starts (str.size - i) (i + 1)) sn = some (r, sn')

section
variable {p : List In} {str : ByteArray} {i : Nat}
theorem EmptyFrom.next {sn : Nat → Nat → Bool} (h : EmptyFrom i sn) (v : Nat → Bool) : EmptyFrom (i + 1) (upd sn i v) := fun j hj => by
  rw [upd_other _ _ _ _ (by omega)]; exact h j (by omega)
theorem AnsM.nil : AnsM p str i [] none := fun sn _ => ⟨1, sn, rfl⟩
theorem AnsM.step {S V L : List (Nat × (Nat → Int))} {mt : Option (Nat → Int)} {f : Nat} {r} (hc : cloRun p str i f S [] = some V) (hcut : cut p str i V = (L, mt)) (h : AnsM p str (i + 1) L r) : AnsM p str i S (r.or (mt.map fun c => (c, i))) := by
  intro sn he
  obtain ⟨g, sn', hd⟩ := h (upd sn i (vis V)) (he.next _)
  have e1 : (cut p str i V).1 = L := by rw [hcut]
  have e2 : (cut p str i V).2 = mt := by rw [hcut]
  obtain ⟨f', sn'', k1, _⟩ := two_phase f S [] V sn g (by simpa using hc) (by rw [he i (Nat.le_refl _)]; funext q; simp [vis]) (by rw [e1]; simpa using hd)
  rw [e2] at k1
  exact ⟨f', sn'', k1⟩
theorem AnsS.hit {S V L : List (Nat × (Nat → Int))} {c : Nat → Int} {f : Nat} {r} (hc : cloRun p str i f S [] = some V) (hcut : cut p str i V = (L, some c)) (h : AnsM p str (i + 1) L r) : AnsS p str i S (r.or (some (c, i))) := by
  intro sn he
  obtain ⟨f', sn', k⟩ := AnsM.step hc hcut h sn he
  cases hr : r.or (some (c, i)) with
  | none => cases r <;> simp at hr
  | some q =>
    simp only [Option.map_some, hr] at k
    exact ⟨f', sn', dfs_hit f' _ _ _ _ k⟩
theorem AnsS.miss {S V L : List (Nat × (Nat → Int))} {f : Nat} {r} (hi : i < str.size) (hc : cloRun p str i f S [] = some V) (hcut : cut p str i V = (L, none)) (h : AnsS p str (i + 1) (L ++ [(0, stC (i + 1))]) r) : AnsS p str i S r := by
  intro sn he
  obtain ⟨g, sn', hd⟩ := h (upd sn i (vis V)) (he.next _)
  have e1 : (cut p str i V).1 = L := by rw [hcut]
  have e2 : (cut p str i V).2 = none := by rw [hcut]
  have e3 : atP (i + 1) (L ++ [(0, stC (i + 1))]) ++ starts (str.size - (i + 1)) (i + 1 + 1) = atP (i + 1) L ++ starts (str.size - i) (i + 1) := by
    rw [show str.size - i = (str.size - (i + 1)) + 1 by omega, starts]
    simp [atP]
  rw [e3] at hd
  rcases dfs_inv g _ _ _ sn' hd with ⟨q, rfl, h3⟩ | ⟨sn1, h3, h4⟩
  · obtain ⟨f', sn'', k1, _⟩ := two_phase f S [] V sn g (by simpa using hc) (by rw [he i (Nat.le_refl _)]; funext q; simp [vis]) (by rw [e1]; simpa using h3)
    exact ⟨f', sn'', dfs_hit f' _ _ _ _ (by simpa using k1)⟩
  · obtain ⟨f', sn'', k1, k2⟩ := two_phase f S [] V sn g (by simpa using hc) (by rw [he i (Nat.le_refl _)]; funext q; simp [vis]) (by rw [e1]; simpa using h3)
    have := k2 rfl e2
    subst this
    rw [e2] at k1
    exact ⟨f' + g, sn', dfs_seq f' g _ _ _ _ (by simpa using k1) h4⟩
theorem AnsS.last {S V L : List (Nat × (Nat → Int))} {mt : Option (Nat → Int)} {f : Nat} (hi : i = str.size) (hc : cloRun p str i f S [] = some V) (hcut : cut p str i V = (L, mt)) (hL : L = []) : AnsS p str i S (mt.map fun c => (c, i)) := by
  subst hL
  intro sn he
  obtain ⟨f', sn', k⟩ := AnsM.step hc hcut AnsM.nil sn he
  rw [hi, Nat.sub_self, starts, List.append_nil]
  rw [hi] at k
  exact ⟨f', sn', by simpa using k⟩
theorem AnsS.run (hp : OkProg p) {from_ : Nat} (hf : from_ ≤ str.size) {r} (h : AnsS p str from_ [(0, stC from_)] r) : runS p str from_ = r.map endC := by
  obtain ⟨f, sn', k⟩ := h (fun _ _ => false) (fun _ _ => rfl)
  refine run_starts hp _ from_ f (fun _ _ => false) (fun _ _ h => by cases h) (by omega) (sn' := sn') ?_
  rw [show str.size + 1 - from_ = (str.size - from_) + 1 by omega]
  exact k
theorem cut_last (V : List (Nat × (Nat → Int))) (hi : str.size ≤ i) : (cut p str i V).1 = [] := by
  induction V with
  | nil => rfl
  | cons t V ih =>
    obtain ⟨pc, c⟩ := t
    simp only [cut]
    split
    · rfl
    · simp only [ih, List.append_nil]
      unfold chars
      split
      · rfl
      · rw [if_neg (by omega)]
end
end Go.Proofs.Qxb6500283aGreat
