/- The engine's memory, whole: the memo, the lock-step machine, the automaton. -/
import Derived.Test.Qxb6500283aGreatZ5
import Derived.Test.Qxb6500283aGreatDfDN
namespace Go.Proofs.Qxb6500283aGreat
open Go Go.RowKit

theorem EMem.frame {O S : Nat → Prop} {w w' : World} {e sm x pk df : Nat} {a b : Ent} (h : EMem O w e sm x pk df a b) (k : Fr S w w') (h1 : ∀ c, c = e ∨ c = x ∨ SAt sm c → ¬ S c) (h2 : ∀ c, S c → O c ∨ w.heap.size ≤ c) : EMem O w' e sm x pk df a b := by
  have ha : ∀ c, a.ca = some ⟨c, 0, none⟩ → ¬ S c := fun c hc hs => (h2 c hs).elim (h.farA c hc) (fun hl => by have := h.oa.lt c hc; omega)
  have hb : ∀ c, b.ca = some ⟨c, 0, none⟩ → ¬ S c := fun c hc hs => (h2 c hs).elim (h.farB c hc) (fun hl => by have := h.ob.lt c hc; omega)
  exact ⟨h.blk.frame k (h1 e (.inl rfl)), h.sim.frame k (h1 x (.inr (.inl rfl))) (fun c hc => h1 c (.inr (.inr hc))), h.oa.frame k ha, h.ob.frame k hb, h.ord, h.own, h.farA, h.farB, fun c hc => by have := h.old c hc; have := k.size; omega, h.xe, h.se⟩
theorem EMem.dom {O O' : Nat → Prop} {w : World} {e sm x pk df : Nat} {a b : Ent} (h : EMem O w e sm x pk df a b) (h1 : ∀ c, (c = e ∨ c = x ∨ SAt sm c) → O' c) (ha : ∀ c, a.ca = some ⟨c, 0, none⟩ → ¬ O' c) (hb : ∀ c, b.ca = some ⟨c, 0, none⟩ → ¬ O' c) (ho : ∀ c, O' c → c < w.heap.size) : EMem O' w e sm x pk df a b :=
  ⟨h.blk, h.sim, h.oa, h.ob, h.ord, ⟨h1 e (.inl rfl), h1 x (.inr (.inl rfl)), fun c hc => h1 c (.inr (.inr hc))⟩, ha, hb, ho, h.xe, h.se⟩
/-- The engine's own blocks, but for its lists. -/
def EO (e sm x pk df c : Nat) : Prop := c = e ∨ c = x ∨ SAt sm c ∨ pOwn pk c ∨ mOwn df c
/-- X: blocks that are none of the engine's. -/
structure Eng (X : Nat → Prop) (w : World) (e sm x pk df : Nat) (a b : Ent) (G : Nat) : Prop where
  mem : EMem (fun c => X c ∨ EO e sm x pk df c) w e sm x pk df a b
  pr : ∃ st, PRep w pk st ∧ CInv st
  di : ∃ kv K ds, DInv w df kv K ds ∧ (∀ c n k, kv = .slice (some ⟨c, 0, none⟩) n k → ¬ (X c ∨ EO e sm x pk df c)) ∧ ds.built ≤ G ∧ ds.flushes ≤ G ∧ ds.worked ≤ G
  xf : ∀ c, X c → ¬ EO e sm x pk df c
  ap : x < sm ∧ sm + 5 < pk ∧ pk + 7 ≤ df ∧ df + 3 ≤ e
section
variable {X : Nat → Prop} {w : World} {e sm x pk df : Nat} {a b : Ent} {G : Nat}
theorem Eng.lt (h : Eng X w e sm x pk df a b G) {c : Nat} (hc : EO e sm x pk df c) : c < w.heap.size := h.mem.old c (.inr hc)
theorem Eng.xlt (h : Eng X w e sm x pk df a b G) {c : Nat} (hc : X c) : c < w.heap.size := h.mem.old c (.inl hc)
theorem Eng.step {S X' : Nat → Prop} {w' : World} (h : Eng X w e sm x pk df a b G) (k : Fr S w w') (hS : ∀ c, S c → X c ∨ w.heap.size ≤ c) (hX : ∀ c, X' c → X c ∨ (w.heap.size ≤ c ∧ c < w'.heap.size)) : Eng X' w' e sm x pk df a b G := by
  have hE : ∀ c, EO e sm x pk df c → ¬ S c := fun c hc hs => (hS c hs).elim (fun hx => h.xf c hx hc) (fun hl => by have := h.lt hc; omega)
  have hz := k.size
  have far : ∀ c, c < w.heap.size → ¬ (X c ∨ EO e sm x pk df c) → ¬ (X' c ∨ EO e sm x pk df c) := fun c hl hn hh => by
    rcases hh with hh | hh
    · rcases hX c hh with h1 | h1
      · exact hn (.inl h1)
      · omega
    · exact hn (.inr hh)
  have m1 := h.mem.frame k (fun c hc => hE c (by unfold EO; rcases hc with hc | hc | hc <;> simp [hc])) (fun c hc => (hS c hc).elim (fun h => .inl (.inl h)) .inr)
  refine ⟨m1.dom (fun c hc => .inr (by unfold EO; rcases hc with hc | hc | hc <;> simp [hc])) (fun c hc => far c (h.mem.oa.lt c hc) (h.mem.farA c hc)) (fun c hc => far c (h.mem.ob.lt c hc) (h.mem.farB c hc)) ?_, ?_, ?_, ?_, h.ap⟩
  · rintro c (hc | hc)
    · rcases hX c hc with h1 | h1
      · have := h.xlt h1; omega
      · exact h1.2
    · have := h.lt hc; omega
  · obtain ⟨st, h1, h2⟩ := h.pr
    exact ⟨st, h1.frame k (fun c hc => hE c (by unfold EO; simp [hc])), h2⟩
  · obtain ⟨kv, K, ds, h1, h2, h3⟩ := h.di
    have hk : ∀ c n q, kv = .slice (some ⟨c, 0, none⟩) n q → c < w.heap.size := fun c n q hc => h1.kv.lt hc
    refine ⟨kv, K, ds, h1.far k (fun c hc => hE c (by unfold EO; simp [hc])) (fun c n q hc hs => ?_), fun c n q hc => far c (hk c n q hc) (h2 c n q hc), h3⟩
    rcases hS c hs with h4 | h4
    · exact h2 c n q hc (.inl h4)
    · have := hk c n q hc; omega
  · intro c hc hE
    rcases hX c hc with h1 | h1
    · exact h.xf c h1 hE
    · have := h.lt hE; omega
theorem Eng.sub {X' : Nat → Prop} (h : Eng X w e sm x pk df a b G) (hX : ∀ c, X' c → X c) : Eng X' w e sm x pk df a b G :=
  h.step (Fr.refl (fun _ => False) w) (fun _ h => h.elim) (fun c hc => .inl (hX c hc))
theorem Eng.same {w' : World} (h : Eng X w e sm x pk df a b G) (k : Fr (fun _ => False) w w') : Eng X w' e sm x pk df a b G :=
  h.step k (fun _ h => h.elim) (fun _ hc => .inl hc)
theorem Eng.pike {w' : World} {st : PS} (h : Eng X w e sm x pk df a b G) (k : Fr (pOwn pk) w w') (h1 : PRep w' pk st) (h2 : CInv st) : Eng X w' e sm x pk df a b G := by
  obtain ⟨a1, a2, a3, a4⟩ := h.ap
  refine ⟨h.mem.frame k (fun c hc hp => ?_) (fun c hc => .inl (.inr (by unfold EO; simp [hc]))), ⟨st, h1, h2⟩, ?_, h.xf, h.ap⟩
  · unfold pOwn at hp; unfold SAt at hc; omega
  · obtain ⟨kv, K, ds, b1, b2, b3⟩ := h.di
    exact ⟨kv, K, ds, b1.far k (fun c hc hp => by unfold pOwn at hp; unfold mOwn at hc; omega) (fun c n q hc hs => b2 c n q hc (.inr (by unfold EO; simp [hs]))), b2, b3⟩
theorem Eng.dfa {w' : World} {kv : Value} {K : List In} {ds : DS} {G' : Nat} (h : Eng X w e sm x pk df a b G) (k : Fr (mOwn df) w w') (h1 : DInv w' df kv K ds) (hk : ∀ c n q, kv = .slice (some ⟨c, 0, none⟩) n q → ¬ (X c ∨ EO e sm x pk df c)) (hg : ds.built ≤ G' ∧ ds.flushes ≤ G' ∧ ds.worked ≤ G') : Eng X w' e sm x pk df a b G' := by
  obtain ⟨a1, a2, a3, a4⟩ := h.ap
  refine ⟨h.mem.frame k (fun c hc hp => ?_) (fun c hc => .inl (.inr (by unfold EO; simp [hc]))), ?_, ⟨kv, K, ds, h1, hk, hg⟩, h.xf, h.ap⟩
  · unfold mOwn at hp; unfold SAt at hc; omega
  · obtain ⟨st, b1, b2⟩ := h.pr
    exact ⟨st, b1.frame k (fun c hc hp => by unfold pOwn at hc; unfold mOwn at hp; omega), b2⟩
theorem Eng.le {G' : Nat} (h : Eng X w e sm x pk df a b G) (hg : G ≤ G') : Eng X w e sm x pk df a b G' := by
  obtain ⟨kv, K, ds, b1, b2, b3, b4, b5⟩ := h.di
  exact ⟨h.mem, h.pr, ⟨kv, K, ds, b1, b2, by omega, by omega, by omega⟩, h.xf, h.ap⟩
theorem recallG (h : Eng X w e sm x pk df a b G) (p : ByteArray) (hp : p.size ≤ 128) :
    Calls Tryz.prog 55 #[.pointer (some ⟨e, 0, none⟩), .string p] w fun v w' => v = .returned (.tuple #[]) ∧ ∃ n m, EntU w' p n ∧ Eng X w' e sm x pk df n m G ∧ Fr (EO e sm x pk df) w w' := by
  refine (recall_any h.mem p hp).mono ?_
  rintro v w' ⟨rfl, n, m, hn, hm, f⟩
  obtain ⟨a1, a2, a3, a4⟩ := h.ap
  refine ⟨rfl, n, m, hn, ⟨hm, ?_, ?_, h.xf, h.ap⟩, f.mono (fun c _ hc => by unfold EO; rcases hc with hc | hc | hc <;> simp [hc])⟩
  · obtain ⟨st, b1, b2⟩ := h.pr
    exact ⟨st, b1.frame f (fun c hc hp => by unfold pOwn at hc; unfold SAt at hp; omega), b2⟩
  · obtain ⟨kv, K, ds, b1, b2, b3⟩ := h.di
    exact ⟨kv, K, ds, b1.far f (fun c hc hp => by unfold mOwn at hc; unfold SAt at hp; omega) (fun c n q hc hs => b2 c n q hc (.inr (by unfold EO; rcases hs with hs | hs | hs <;> simp [hs]))), b2, b3⟩
end
/-- What the definition answers: error, place, match. -/
inductive Sol (p s : ByteArray) (fr : Int) : Int → Int → Option Cp → Prop
  | long : 128 < p.size ∨ 256 < s.size → Sol p s fr 12 0 none
  | err {o : Ans} {e : Er} : p.size ≤ 128 → s.size ≤ 256 → ModelL p o → coreO o = .error e → Sol p s fr e.1 (e.2 : Nat) none
  | ok {ns : List Nd} {y g : Nat} {r : Rx} : p.size ≤ 128 → s.size ≤ 256 → ModelL p (.ok (ns, y, g)) → (zz ns y).2 ≤ 31 → IsT ns y r → RxW r → Sol p s fr (lfE s fr) 0 (lfO s fr (wy s r))
theorem Sol.det {p s : ByteArray} {fr e q e' q' : Int} {o o' : Option Cp} (h : Sol p s fr e q o) (h' : Sol p s fr e' q' o') : e = e' ∧ q = q' ∧ o = o' := by
  cases h with
  | long h1 =>
    cases h' with
    | long => exact ⟨rfl, rfl, rfl⟩
    | err h2 h3 => omega
    | ok h2 h3 => omega
  | err h1 h2 h3 h4 =>
    cases h' with
    | long => omega
    | err k1 k2 k3 k4 =>
      obtain rfl := h3.det k3
      rw [h4] at k4
      injection k4 with k4
      subst k4
      exact ⟨rfl, rfl, rfl⟩
    | ok k1 k2 k3 k4 =>
      obtain rfl := h3.det k3
      simp only [coreO] at h4
      rw [if_neg (by omega)] at h4
      cases h4
  | ok h1 h2 h3 h4 h5 h6 =>
    cases h' with
    | long => omega
    | err k1 k2 k3 k4 =>
      obtain rfl := h3.det k3
      simp only [coreO] at k4
      rw [if_neg (by omega)] at k4
      cases k4
    | ok k1 k2 k3 k4 k5 k6 =>
      have e1 := h3.det k3
      injection e1 with e1
      injection e1 with e1 e2
      injection e2 with e2 e3
      subst e1 e2 e3
      obtain rfl := h5.det _ k5
      exact ⟨rfl, rfl, rfl⟩
end Go.Proofs.Qxb6500283aGreat
