/- Every node's group number is no less than 0. -/
import Derived.Test.Qxb6500283aGreatS3
namespace Go.Proofs.Qxb6500283aGreat


def CB (n : Nd) : Prop := 0 ≤ n.cap
def AllC (ns : List Nd) : Prop := ∀ n ∈ ns, CB n
def AltC (A : Sg → Res → Prop) : Prop := ∀ s x s', A s (.ok (x, s')) → AllC s.ns → AllC s'.ns
theorem addS_C {s s' : Sg} {n : Nd} {y : Nat} (h : addS s n = .ok (y, s')) (hs : AllC s.ns) (hn : CB n) : AllC s'.ns := by
  rw [(addS_grow h).2.2.1]
  intro m hm
  rcases List.mem_append.1 hm with h1 | h1
  · exact hs m h1
  · rw [List.mem_singleton.1 h1]; exact hn
theorem CB.of {n : Nd} (h : 0 ≤ n.cap) : CB n := h
theorem GroupR.cb {p : ByteArray} {d : Nat} {A : Sg → Res → Prop} (hA : AltC A) {s : Sg} {r : Res} (h : GroupR p d A s r) : ∀ x s', r = .ok (x, s') → AllC s.ns → AllC s'.ns := by
  intro x s' e hs
  cases h with
  | deep => cases e
  | many => cases e
  | err => cases e
  | open_ => cases e
  | shut _ ho ha _ =>
    have h1 := openS_ns ho
    have h2 := hA _ _ _ ha (by rw [h1]; exact hs)
    unfold shutS at e
    split at e
    · cases e; exact h2
    · exact addS_C e h2 (CB.of (by simp [grpNd]))
theorem AtomR.cb {p : ByteArray} {d : Nat} {A : Sg → Res → Prop} (hA : AltC A) {s : Sg} {r : Res} (h : AtomR p d A s r) : ∀ x s', r = .ok (x, s') → AllC s.ns → AllC s'.ns := by
  intro x s' e hs
  cases h with
  | group _ hg => exact hg.cb hA _ _ e hs
  | sign => cases e
  | leafE => cases e
  | leaf _ _ hl =>
    refine addS_C e hs (CB.of ?_)
    cases hl <;> simp [leafNd]
theorem RepL.cb {p : ByteArray} {x : Nat} {s : Sg} {r : Res} (h : RepL p x s r) : ∀ y s', r = .ok (y, s') → AllC s.ns → AllC s'.ns := by
  induction h with
  | done => intro y s' e hs; cases e; exact hs
  | bad => intro y s' e; cases e
  | loop => intro y s' e; cases e
  | big => intro y s' e; cases e
  | more hi _ hc _ ha _ ih =>
    intro y s' e hs
    exact ih _ _ e (addS_C ha hs (CB.of (by simp [repNd])))
theorem RepR.cb {p : ByteArray} {d : Nat} {A : Sg → Res → Prop} (hA : AltC A) {s : Sg} {r : Res} (h : RepR p d A s r) : ∀ x s', r = .ok (x, s') → AllC s.ns → AllC s'.ns := by
  intro x s' e hs
  cases h with
  | err => cases e
  | ok ha hl => exact hl.cb _ _ e (ha.cb hA _ _ rfl hs)
theorem CatL.cb {p : ByteArray} {d : Nat} {A : Sg → Res → Prop} (hA : AltC A) {l : Option Nat} {s : Sg} {r : Res} (h : CatL p d A l s r) : ∀ x s', r = .ok (x, s') → AllC s.ns → AllC s'.ns := by
  induction h with
  | stop => intro y s' e hs; cases e; exact hs
  | empty => intro y s' e hs; exact addS_C e hs (CB.of (by simp [leafNd]))
  | err => intro y s' e; cases e
  | big => intro y s' e; cases e
  | more _ hr hj _ ih =>
    intro y s' e hs
    have h1 := hr.cb hA _ _ rfl hs
    refine ih _ _ e ?_
    unfold joinN at hj
    split at hj
    · cases hj; exact h1
    · exact addS_C hj h1 (CB.of (by simp [catNd]))
theorem AltL.cb {p : ByteArray} {d : Nat} {A : Sg → Res → Prop} (hA : AltC A) {l : Nat} {s : Sg} {r : Res} (h : AltL p d A l s r) : ∀ x s', r = .ok (x, s') → AllC s.ns → AllC s'.ns := by
  induction h with
  | stop => intro y s' e hs; cases e; exact hs
  | err => intro y s' e; cases e
  | big => intro y s' e; cases e
  | more _ hc ha _ ih =>
    intro y s' e hs
    exact ih _ _ e (addS_C ha (hc.cb hA _ _ rfl hs) (CB.of (by simp [altNd])))
theorem AltR.cb {p : ByteArray} {d : Nat} {A : Sg → Res → Prop} (hA : AltC A) : AltC (AltR p d A) := by
  intro s x s' h hs
  cases h with
  | ok hc hl => exact hl.cb hA _ _ rfl (hc.cb hA _ _ rfl hs)
theorem AltD.cb (p : ByteArray) : ∀ k, AltC (AltD p k)
  | 0 => AltR.cb (fun _ _ _ h => h.elim)
  | k + 1 => AltR.cb (AltD.cb p k)
theorem ModelR.cb {p : ByteArray} {ns : List Nd} {x g : Nat} (h : ModelR p (.ok (ns, x, g))) : ∀ k (h : k < ns.length), CB ns[k] := by
  cases h with
  | ok ha _ =>
    have h1 := AltD.cb p 5 _ _ _ ha (fun n hn => by cases hn)
    exact fun k hk => h1 _ (List.getElem_mem hk)

end Go.Proofs.Qxb6500283aGreat
