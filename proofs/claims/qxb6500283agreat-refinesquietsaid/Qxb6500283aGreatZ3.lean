/- recall, whole. -/
import Derived.Test.Qxb6500283aGreatZ2
namespace Go.Proofs.Qxb6500283aGreat
open Go Go.RowKit

/-- A cell of the memo, used or not. -/
inductive EntOk (w : World) : Ent → Prop
  | no : EntOk w ent0
  | us {p : ByteArray} {n : Ent} : p.size ≤ 128 → EntU w p n → EntOk w n
theorem EntU.pat {w : World} {p : ByteArray} {n : Ent} (h : EntU w p n) : n.used = true ∧ n.pat = p := by
  cases h <;> exact ⟨rfl, rfl⟩
theorem EntU.frame {S : Nat → Prop} {w w' : World} {p : ByteArray} {n : Ent} (h : EntU w p n) (k : Fr S w w') (hS : ∀ b, n.ca = some ⟨b, 0, none⟩ → ¬ S b) : EntU w' p n := by
  cases h with
  | err h1 h2 => exact .err h1 h2
  | ok h1 h2 h3 h4 h5 h6 h7 h8 => exact .ok h1 h2 h3 h4 h5 h6 (h7.frame k (hS _ rfl)) h8
theorem EntOk.frame {S : Nat → Prop} {w w' : World} {n : Ent} (h : EntOk w n) (k : Fr S w w') (hS : ∀ b, n.ca = some ⟨b, 0, none⟩ → ¬ S b) : EntOk w' n := by
  cases h with
  | no => exact .no
  | us h1 h2 => exact .us h1 (h2.frame k hS)
theorem EntOk.used {w : World} {n : Ent} (h : EntOk w n) (hu : n.used = true) : n.pat.size ≤ 128 ∧ EntU w n.pat n := by
  cases h with
  | no => cases hu
  | us h1 h2 => rw [h2.pat.2]; exact ⟨h1, h2⟩
theorem EntOk.lt {w : World} {n : Ent} (h : EntOk w n) (b : Nat) (e : n.ca = some ⟨b, 0, none⟩) : b < w.heap.size := by
  cases h with
  | no => cases e
  | us h1 h2 =>
    cases h2 with
    | err _ _ => cases e
    | ok _ _ _ _ _ _ h7 _ => cases e; exact h7.lt
/-- The memo: its cells, the last pattern first. O: the blocks that the memo's lists do not touch. -/
structure EMem (O : Nat → Prop) (w : World) (e sm x pk df : Nat) (a b : Ent) : Prop where
  blk : Blk w e 13 (eCell sm pk df a b)
  sim : SAny w sm x
  oa : EntOk w a
  ob : EntOk w b
  ord : b.used = true → a.used = true ∧ a.pat ≠ b.pat
  own : O e ∧ O x ∧ ∀ c, SAt sm c → O c
  farA : ∀ c, a.ca = some ⟨c, 0, none⟩ → ¬ O c
  farB : ∀ c, b.ca = some ⟨c, 0, none⟩ → ¬ O c
  old : ∀ c, O c → c < w.heap.size
  xe : x ≠ e
  se : ¬ SAt sm e
theorem recall_any {O : Nat → Prop} {w : World} {e sm x pk df : Nat} {a b : Ent} (h : EMem O w e sm x pk df a b) (p : ByteArray) (hp : p.size ≤ 128) :
    Calls Tryz.prog 55 #[.pointer (some ⟨e, 0, none⟩), .string p] w fun v w' => v = .returned (.tuple #[]) ∧ ∃ n m, EntU w' p n ∧ EMem O w' e sm x pk df n m ∧ Fr (fun b => b = e ∨ b = x ∨ SAt sm b) w w' := by
  by_cases h1 : a.used = true ∧ a.pat = p
  · obtain ⟨hu, rfl⟩ := h1
    refine (recall_first h.blk hu).mono ?_
    rintro v w' ⟨rfl, rfl⟩
    exact ⟨rfl, a, b, (h.oa.used hu).2, h, Fr.refl _ _⟩
  · by_cases h2 : b.used = true ∧ b.pat = p
    · obtain ⟨hu, rfl⟩ := h2
      refine (recall_second h.blk hu (fun hu2 => (h.ord hu).2)).mono ?_
      rintro v w' ⟨rfl, hB, f⟩
      have hfa : ∀ c, a.ca = some ⟨c, 0, none⟩ → ¬ c = e := fun c hc he => h.farA c hc (he ▸ h.own.1)
      have hfb : ∀ c, b.ca = some ⟨c, 0, none⟩ → ¬ c = e := fun c hc he => h.farB c hc (he ▸ h.own.1)
      refine ⟨rfl, b, a, ((h.ob.used hu).2).frame f hfb, ⟨hB, h.sim.frame f h.xe (fun c hc he => h.se (he ▸ hc)), h.ob.frame f hfb, h.oa.frame f hfa, fun _ => ⟨hu, fun he => (h.ord hu).2 he.symm⟩, h.own, h.farB, h.farA, fun c hc => by have := h.old c hc; have := f.size; omega, h.xe, h.se⟩, f.mono (fun _ _ h => .inl h)⟩
    · refine (recall_new h.blk h.sim h.xe h.se p (fun hu he => h1 ⟨hu, he⟩) (fun hu he => h2 ⟨hu, he⟩)).mono ?_
      rintro v w' ⟨rfl, n, hn, hc, hB, hA, f⟩
      have hfa : ∀ c, a.ca = some ⟨c, 0, none⟩ → ¬ (c = e ∨ c = x ∨ SAt sm c) := fun c hc he => h.farA c hc (by
        rcases he with rfl | rfl | he
        · exact h.own.1
        · exact h.own.2.1
        · exact h.own.2.2 c he)
      refine ⟨rfl, n, a, hn, ⟨hB, hA, .us hp hn, h.oa.frame f hfa, fun hu => ⟨hn.pat.1, fun he => h1 ⟨hu, by rw [← he, hn.pat.2]⟩⟩, h.own, fun c hc2 ho => ?_, h.farA, fun c hc => by have := h.old c hc; have := f.size; omega, h.xe, h.se⟩, f⟩
      have := hc c hc2
      have := h.old c ho
      omega
end Go.Proofs.Qxb6500283aGreat
