/- Operations that look at nothing (Ins), that only read (Reads), that only make new blocks (Grows): what their runs have in common in different worlds. -/
import Derived.WalkKit
namespace Go.Proofs.Qxb6500277aGreat
open Go Go.RowKit

def Dies {α : Type} (P : Program) : Sem α → Prop
  | .halt _ => True
  | .program k => Dies P (k P)
  | .choose _ k => ∀ n, Dies P (k n)
  | .mark _ k => Dies P k
  | _ => False
def Ins {α : Type} (P : Program) (ok : α → Prop) : Sem α → Prop
  | .pure a => ok a
  | .halt _ => True
  | .program k => Ins P ok (k P)
  | .choose _ k => ∀ n, Dies P (k n)
  | .mark _ k => Ins P ok k
  | _ => False
def Reads {α : Type} (P : Program) (ok : α → Prop) : Sem α → Prop
  | .pure a => ok a
  | .halt _ => True
  | .load _ _ k => ∀ v, Reads P ok (k v)
  | .program k => Reads P ok (k P)
  | .choose _ k => ∀ n, Dies P (k n)
  | .mark _ k => Reads P ok k
  | _ => False
def Grows {α : Type} (P : Program) (ok : α → Prop) : Sem α → Prop
  | .pure a => ok a
  | .halt _ => True
  | .new _ k => ∀ r, Grows P ok (k r)
  | .program k => Grows P ok (k P)
  | .choose _ k => ∀ n, Dies P (k n)
  | .mark _ k => Grows P ok k
  | _ => False

/-- The blocks of w lie in w' as they were. -/
def Grow (w w' : World) : Prop := ∀ b, b < w.heap.size → w'.heap[b]? = w.heap[b]?
theorem Grow.refl (w : World) : Grow w w := fun _ _ => rfl
theorem Grow.le {w w' : World} (h : Grow w w') : w.heap.size ≤ w'.heap.size := by
  rcases Nat.eq_zero_or_pos w.heap.size with h0 | h0
  · omega
  · have := h (w.heap.size - 1) (by omega)
    rw [Array.getElem?_eq_getElem (xs := w.heap) (by omega)] at this
    have := (Array.getElem?_eq_some_iff.1 this).1
    omega
theorem Grow.trans {a b c : World} (h : Grow a b) (k : Grow b c) : Grow a c := fun i hi =>
  (k i (Nat.lt_of_lt_of_le hi h.le)).trans (h i hi)

theorem dies_run {α : Type} {P : Program} : ∀ (s : Sem α) (w w1 : World) (n : α), Dies P s → s.run P w ≠ .ok n w1
  | .halt _, w, w1, n, _ => by simp [Sem.run]
  | .program k, w, w1, n, h => by simp only [Sem.run]; exact dies_run (k P) w w1 n h
  | .choose q k, w, w1, n, h => by
      simp only [Sem.run]
      split
      · exact dies_run (k 0) w w1 n (h 0)
      · exact dies_run _ _ w1 n (h _)
  | .mark _ k, w, w1, n, h => by simp only [Sem.run]; exact dies_run k w w1 n h
  | .pure _, _, _, _, h => h.elim
  | .load .., _, _, _, h => h.elim
  | .store .., _, _, _, h => h.elim
  | .new .., _, _, _, h => h.elim
  | .shape .., _, _, _, h => h.elim
  | .freeze .., _, _, _, h => h.elim
  | .frozen .., _, _, _, h => h.elim
  | .getObj .., _, _, _, h => h.elim
  | .setObj .., _, _, _, h => h.elim
  | .sys .., _, _, _, h => h.elim

theorem ins_run {α : Type} {P : Program} {ok : α → Prop} : ∀ (s : Sem α) (w w1 : World) (n : α), Ins P ok s → s.run P w = .ok n w1 → w1 = w ∧ ok n ∧ ∀ w', s.run P w' = .ok n w'
  | .pure a, w, w1, n, h, hr => by simp only [Sem.run, Result.ok.injEq] at hr; obtain ⟨rfl, rfl⟩ := hr; exact ⟨rfl, h, fun _ => rfl⟩
  | .halt _, w, w1, n, _, hr => by simp [Sem.run] at hr
  | .program k, w, w1, n, h, hr => by simp only [Sem.run] at hr ⊢; exact ins_run (k P) w w1 n h hr
  | .choose q k, w, w1, n, h, hr => by
      simp only [Sem.run] at hr
      split at hr
      · exact absurd hr (dies_run (k 0) w w1 n (h 0))
      · exact absurd hr (dies_run _ _ w1 n (h _))
  | .mark _ k, w, w1, n, h, hr => by simp only [Sem.run] at hr ⊢; exact ins_run k w w1 n h hr
  | .load .., _, _, _, h, _ => h.elim
  | .store .., _, _, _, h, _ => h.elim
  | .new .., _, _, _, h, _ => h.elim
  | .shape .., _, _, _, h, _ => h.elim
  | .freeze .., _, _, _, h, _ => h.elim
  | .frozen .., _, _, _, h, _ => h.elim
  | .getObj .., _, _, _, h, _ => h.elim
  | .setObj .., _, _, _, h, _ => h.elim
  | .sys .., _, _, _, h, _ => h.elim

theorem grows_run {α : Type} {P : Program} {ok : α → Prop} : ∀ (s : Sem α) (w w1 : World) (n : α), Grows P ok s → s.run P w = .ok n w1 → Grow w w1 ∧ ok n
  | .pure a, w, w1, n, h, hr => by simp only [Sem.run, Result.ok.injEq] at hr; obtain ⟨rfl, rfl⟩ := hr; exact ⟨Grow.refl _, h⟩
  | .halt _, w, w1, n, _, hr => by simp [Sem.run] at hr
  | .program k, w, w1, n, h, hr => by simp only [Sem.run] at hr; exact grows_run (k P) w w1 n h hr
  | .new o k, w, w1, n, h, hr => by
      simp only [Sem.run] at hr
      obtain ⟨h1, h2⟩ := grows_run (k _) _ w1 n (h _) hr
      refine ⟨Grow.trans (fun b hb => ?_) h1, h2⟩
      exact Below.heap_alloc w o b hb
  | .choose q k, w, w1, n, h, hr => by
      simp only [Sem.run] at hr
      split at hr
      · exact absurd hr (dies_run (k 0) w w1 n (h 0))
      · exact absurd hr (dies_run _ _ w1 n (h _))
  | .mark _ k, w, w1, n, h, hr => by simp only [Sem.run] at hr; exact grows_run k w w1 n h hr
  | .load .., _, _, _, h, _ => h.elim
  | .store .., _, _, _, h, _ => h.elim
  | .shape .., _, _, _, h, _ => h.elim
  | .freeze .., _, _, _, h, _ => h.elim
  | .frozen .., _, _, _, h, _ => h.elim
  | .getObj .., _, _, _, h, _ => h.elim
  | .setObj .., _, _, _, h, _ => h.elim
  | .sys .., _, _, _, h, _ => h.elim

theorem seen_grow {P : Program} {w w' : World} (hg : Grow w w') {at_ k : Addr} {u : TypeId} {b : Bool} {r} (h : World.seen P w at_ u k b = .ok r) : World.seen P w' at_ u k b = .ok r := by
  by_cases hb : at_.block < w.heap.size
  · unfold World.seen at h ⊢; rw [hg _ hb]; exact h
  · exfalso
    unfold World.seen at h
    rw [Array.getElem?_eq_none (Nat.le_of_not_lt hb)] at h
    simp only [bind, Except.bind] at h
    split at h
    · cases h
    · split at h
      · split at h
        · split at h <;> cases h
        · cases h
      · cases h

theorem farLoad_grow {P : Program} {w w' : World} (hg : Grow w w') {a : Addr} {b : Bool} {r : Value × List Addr} (h : World.farLoad P w a b = .ok r) : World.farLoad P w' a b = .ok r := by
  have ha : a.block < w.heap.size := by
    rcases Nat.lt_or_ge a.block w.heap.size with h' | h'
    · exact h'
    · unfold World.farLoad at h; rw [Array.getElem?_eq_none h'] at h; cases h
  unfold World.farLoad at h ⊢
  rw [hg _ ha]
  split
  · rename_i at_ u heq
    rw [heq] at h
    simp only at h
    have key : ∀ x, w.viewLoad P at_ u a b = .ok x → w'.viewLoad P at_ u a b = .ok x := by
      intro x hx
      unfold World.viewLoad at hx ⊢
      cases hs : World.seen P w at_ u a b with
      | error e => rw [hs] at hx; cases hx
      | ok y => rw [seen_grow hg hs]; rw [hs] at hx; exact hx
    cases hv : w.viewLoad P at_ u a b with
    | error e => rw [hv] at h; cases h
    | ok x => rw [key x hv]; rw [hv] at h; exact h
  · rename_i hne
    split at h
    · rename_i at_ u heq; exact absurd heq (hne at_ u)
    · cases h

theorem reads_run {α : Type} {P : Program} {ok : α → Prop} : ∀ (s : Sem α) (w w1 : World) (n : α), Reads P ok s → s.run P w = .ok n w1 → w1 = w ∧ ok n ∧ ∀ w', Grow w w' → s.run P w' = .ok n w'
  | .pure a, w, w1, n, h, hr => by simp only [Sem.run, Result.ok.injEq] at hr; obtain ⟨rfl, rfl⟩ := hr; exact ⟨rfl, h, fun _ _ => rfl⟩
  | .halt _, w, w1, n, _, hr => by simp [Sem.run] at hr
  | .program k, w, w1, n, h, hr => by simp only [Sem.run] at hr ⊢; exact reads_run (k P) w w1 n h hr
  | .load m a k, w, w1, n, h, hr => by
      simp only [Sem.run] at hr ⊢
      cases hc : w.cell? a with
      | some v =>
        rw [hc] at hr
        obtain ⟨h1, h2, h3⟩ := reads_run (k v) w w1 n (h v) hr
        refine ⟨h1, h2, fun w' hg => ?_⟩
        rw [World.cell?_of_block (w := w) (hg a.block (World.block_lt_of_cell? w a hc)), hc]
        exact h3 w' hg
      | none =>
        rw [hc] at hr
        simp only at hr
        cases hf : World.farLoad P w a (m == .atomic) with
        | error e => rw [hf] at hr; cases hr
        | ok r =>
          obtain ⟨v, l⟩ := r
          rw [hf] at hr
          obtain ⟨h1, h2, h3⟩ := reads_run (k v) w w1 n (h v) hr
          refine ⟨h1, h2, fun w' hg => ?_⟩
          have ha : a.block < w.heap.size := by
            rcases Nat.lt_or_ge a.block w.heap.size with h' | h'
            · exact h'
            · unfold World.farLoad at hf; rw [Array.getElem?_eq_none h'] at hf; cases hf
          rw [World.cell?_of_block (w := w) (hg a.block ha), hc]
          simp only
          rw [farLoad_grow hg hf]
          exact h3 w' hg
  | .choose q k, w, w1, n, h, hr => by
      simp only [Sem.run] at hr
      split at hr
      · exact absurd hr (dies_run (k 0) w w1 n (h 0))
      · exact absurd hr (dies_run _ _ w1 n (h _))
  | .mark _ k, w, w1, n, h, hr => by simp only [Sem.run] at hr ⊢; exact reads_run k w w1 n h hr
  | .store .., _, _, _, h, _ => h.elim
  | .new .., _, _, _, h, _ => h.elim
  | .shape .., _, _, _, h, _ => h.elim
  | .freeze .., _, _, _, h, _ => h.elim
  | .frozen .., _, _, _, h, _ => h.elim
  | .getObj .., _, _, _, h, _ => h.elim
  | .setObj .., _, _, _, h, _ => h.elim
  | .sys .., _, _, _, h, _ => h.elim

theorem dies_bind {α β : Type} {P : Program} {f : α → Sem β} : ∀ (s : Sem α), Dies P s → Dies P (s.bind f)
  | .halt _, _ => trivial
  | .program k, h => dies_bind (k P) h
  | .choose _ k, h => fun n => dies_bind (k n) (h n)
  | .mark _ k, h => dies_bind k h
  | .pure _, h => h.elim
  | .load .., h => h.elim
  | .store .., h => h.elim
  | .new .., h => h.elim
  | .shape .., h => h.elim
  | .freeze .., h => h.elim
  | .frozen .., h => h.elim
  | .getObj .., h => h.elim
  | .setObj .., h => h.elim
  | .sys .., h => h.elim
theorem ins_bind {α β : Type} {P : Program} {ok : α → Prop} {ok' : β → Prop} {f : α → Sem β} : ∀ (s : Sem α), Ins P ok s → (∀ a, ok a → Ins P ok' (f a)) → Ins P ok' (s.bind f)
  | .pure a, h, hf => hf a h
  | .halt _, _, _ => trivial
  | .program k, h, hf => ins_bind (k P) h hf
  | .choose _ k, h, _ => fun n => dies_bind (k n) (h n)
  | .mark _ k, h, hf => ins_bind k h hf
  | .load .., h, _ => h.elim
  | .store .., h, _ => h.elim
  | .new .., h, _ => h.elim
  | .shape .., h, _ => h.elim
  | .freeze .., h, _ => h.elim
  | .frozen .., h, _ => h.elim
  | .getObj .., h, _ => h.elim
  | .setObj .., h, _ => h.elim
  | .sys .., h, _ => h.elim
theorem reads_bind {α β : Type} {P : Program} {ok : α → Prop} {ok' : β → Prop} {f : α → Sem β} : ∀ (s : Sem α), Reads P ok s → (∀ a, ok a → Reads P ok' (f a)) → Reads P ok' (s.bind f)
  | .pure a, h, hf => hf a h
  | .halt _, _, _ => trivial
  | .program k, h, hf => reads_bind (k P) h hf
  | .load _ _ k, h, hf => fun v => reads_bind (k v) (h v) hf
  | .choose _ k, h, _ => fun n => dies_bind (k n) (h n)
  | .mark _ k, h, hf => reads_bind k h hf
  | .store .., h, _ => h.elim
  | .new .., h, _ => h.elim
  | .shape .., h, _ => h.elim
  | .freeze .., h, _ => h.elim
  | .frozen .., h, _ => h.elim
  | .getObj .., h, _ => h.elim
  | .setObj .., h, _ => h.elim
  | .sys .., h, _ => h.elim
theorem grows_bind {α β : Type} {P : Program} {ok : α → Prop} {ok' : β → Prop} {f : α → Sem β} : ∀ (s : Sem α), Grows P ok s → (∀ a, ok a → Grows P ok' (f a)) → Grows P ok' (s.bind f)
  | .pure a, h, hf => hf a h
  | .halt _, _, _ => trivial
  | .program k, h, hf => grows_bind (k P) h hf
  | .new _ k, h, hf => fun r => grows_bind (k r) (h r) hf
  | .choose _ k, h, _ => fun n => dies_bind (k n) (h n)
  | .mark _ k, h, hf => grows_bind k h hf
  | .load .., h, _ => h.elim
  | .store .., h, _ => h.elim
  | .shape .., h, _ => h.elim
  | .freeze .., h, _ => h.elim
  | .frozen .., h, _ => h.elim
  | .getObj .., h, _ => h.elim
  | .setObj .., h, _ => h.elim
  | .sys .., h, _ => h.elim
end Go.Proofs.Qxb6500277aGreat
