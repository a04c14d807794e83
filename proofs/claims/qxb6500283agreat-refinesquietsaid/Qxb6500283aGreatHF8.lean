/- The template's meaning, plain; the model's badAt. -/
import Derived.Test.Qxb6500283aGreatHF7
namespace Go.Proofs.Qxb6500283aGreat
open Go Go.RowKit

inductive Out (t : ByteArray) : Nat → Int → Prop
  | ok : Out t t.size (-1)
  | bad {i : Nat} : BadAt t i → Out t i (i : Nat)
  | lit {i : Nat} {r : Int} (h : i < t.size) : t[i].toNat ≠ 36 → Out t (i + 1) r → Out t i r
  | esc {i : Nat} {r : Int} (h : i + 1 < t.size) : t[i].toNat = 36 → (t[i + 1].toNat = 36 ∨ (48 ≤ t[i + 1].toNat ∧ t[i + 1].toNat ≤ 51)) → Out t (i + 2) r → Out t i r
theorem Out.det {t : ByteArray} {i : Nat} {r r' : Int} (h : Out t i r) (h' : Out t i r') : r = r' := by
  induction h generalizing r' with
  | ok =>
    cases h' with
    | ok => rfl
    | bad hb => obtain ⟨hlt, _⟩ := hb; omega
    | lit hl => omega
    | esc hl => omega
  | bad hb =>
    obtain ⟨hlt, h36, hx⟩ := hb
    cases h' with
    | ok => omega
    | bad => rfl
    | lit hl h1 => exact absurd h36 h1
    | esc hl h1 h2 => have := hx hl; omega
  | lit hl h1 _ ih =>
    cases h' with
    | ok => omega
    | bad hb => obtain ⟨_, h36, _⟩ := hb; exact absurd h36 h1
    | lit _ _ h3 => exact ih h3
    | esc _ h2 _ _ => exact absurd h2 h1
  | esc hl h1 h2 _ ih =>
    cases h' with
    | ok => omega
    | bad hb => obtain ⟨_, _, hx⟩ := hb; have := hx hl; omega
    | lit _ h3 _ => exact absurd h1 h3
    | esc _ _ _ h3 => exact ih h3
theorem Toks.out {t : ByteArray} {i : Nat} {ps : List Pc} (h : Toks t i ps) : ∀ r, Out t i r → Out t 0 r := by
  induction h with
  | nil => exact fun r h => h
  | step h1 h2 ih =>
    intro r hr
    refine ih r ?_
    cases h2 with
    | lit a b c => exact .lit a b hr
    | dol a b c d => exact .esc a b (.inl c) hr
    | grp a b c d => exact .esc a b (.inr ⟨c, d⟩) hr
theorem CompT.out {t : ByteArray} {r : Int} {ps : List Pc} (h : CompT t r ps) : Out t 0 r := by
  cases h with
  | ok h => exact h.out _ .ok
  | bad h hb => exact h.out _ (.bad hb)
/-- What the template gives from place i on. -/
def capBy (s : ByteArray) (c : Nat → Int) (g : Nat) : List UInt8 := if c (2 * g) < 0 then [] else bytes s (c (2 * g)).toNat (c (2 * g + 1) - c (2 * g)).toNat
inductive Suf (t s : ByteArray) (c : Nat → Int) : Nat → List UInt8 → Prop
  | ok : Suf t s c t.size []
  | lit {i : Nat} {l : List UInt8} (h : i < t.size) : t[i].toNat ≠ 36 → Suf t s c (i + 1) l → Suf t s c i (t[i] :: l)
  | dol {i : Nat} {l : List UInt8} (h : i + 1 < t.size) : t[i].toNat = 36 → t[i + 1].toNat = 36 → Suf t s c (i + 2) l → Suf t s c i (t[i + 1] :: l)
  | grp {i : Nat} {l : List UInt8} (h : i + 1 < t.size) : t[i].toNat = 36 → 48 ≤ t[i + 1].toNat → t[i + 1].toNat ≤ 51 → Suf t s c (i + 2) l → Suf t s c i (capBy s c (t[i + 1].toNat - 48) ++ l)
theorem Suf.det {t s : ByteArray} {c : Nat → Int} {i : Nat} {l l' : List UInt8} (h : Suf t s c i l) (h' : Suf t s c i l') : l = l' := by
  induction h generalizing l' with
  | ok =>
    cases h' with
    | ok => rfl
    | lit hl => omega
    | dol hl => omega
    | grp hl => omega
  | lit hl h1 _ ih =>
    cases h' with
    | ok => omega
    | lit _ _ h3 => rw [ih h3]
    | dol _ h2 => exact absurd h2 h1
    | grp _ h2 => exact absurd h2 h1
  | dol hl h1 h2 _ ih =>
    cases h' with
    | ok => omega
    | lit _ h3 => exact absurd h1 h3
    | dol _ _ _ h3 => rw [ih h3]
    | grp _ _ h3 => omega
  | grp hl h1 h2 h3 _ ih =>
    cases h' with
    | ok => omega
    | lit _ h4 => exact absurd h1 h4
    | dol _ _ h4 => omega
    | grp _ _ _ _ h4 => rw [ih h4]
theorem bytes_add (t : ByteArray) (lo n m : Nat) : bytes t lo (n + m) = bytes t lo n ++ bytes t (lo + n) m := by
  unfold bytes
  rw [List.range_add, List.map_append, List.map_map]
  congr 1
  apply List.map_congr_left
  intro k _
  simp [Nat.add_assoc]
theorem bytes_one (t : ByteArray) (i : Nat) (h : i < t.size) : bytes t i 1 = [t[i]] := by
  have : t.data.getD i 0 = t[i] := by
    rw [Array.getD_eq_getD_getElem?, Array.getElem?_eq_getElem (by exact h)]
    rfl
  have e : bytes t i 1 = [t.data.getD (i + 0) 0] := rfl
  rw [e, Nat.add_zero, this]
/-- What compile's pieces keep. -/
structure PsOk (i : Nat) (ps : List Pc) : Prop where
  ok : ∀ p ∈ ps, PcOk p ∧ (p.g < 0 → p.hi ≤ i)
  ap : ∀ qs p q rs, ps = qs ++ p :: q :: rs → ¬ (p.g < 0 ∧ q.g < 0 ∧ p.hi = q.lo)
theorem PsOk.push {i : Nat} {ps : List Pc} (h : PsOk i ps) (q : Pc) (j : Nat) (hj : i ≤ j) (hq : PcOk q ∧ (q.g < 0 → q.hi ≤ j)) (hx : ∀ qs p, ps = qs ++ [p] → ¬ (p.g < 0 ∧ q.g < 0 ∧ p.hi = q.lo)) : PsOk j (ps ++ [q]) := by
  refine ⟨fun p hp => ?_, fun qs p q' rs e => ?_⟩
  · rcases List.mem_append.1 hp with hp | hp
    · exact ⟨(h.ok p hp).1, fun hg => Nat.le_trans ((h.ok p hp).2 hg) hj⟩
    · simp at hp; subst hp; exact hq
  · rcases List.eq_nil_or_concat rs with rfl | ⟨rs', z, rfl⟩
    · have e2 : ps ++ [q] = (qs ++ [p]) ++ [q'] := by rw [e]; simp
      obtain ⟨e3, e4⟩ := List.append_inj' e2 rfl
      simp at e4
      subst e4
      exact hx qs p e3
    · rw [List.concat_eq_append] at e
      have e2 : ps ++ [q] = (qs ++ p :: q' :: rs') ++ [z] := by rw [e]; simp
      obtain ⟨e3, _⟩ := List.append_inj' e2 rfl
      exact h.ap qs p q' rs' e3
theorem PsOk.ext {i : Nat} {qs : List Pc} {p : Pc} (h : PsOk i (qs ++ [p])) (hi j : Nat) (hj : i ≤ j) (hg : p.g < 0) (hlo : p.lo < hi) (hhi : hi ≤ j) (h32 : hi ≤ 32) : PsOk j (qs ++ [⟨p.lo, hi, p.g⟩]) := by
  have hp := h.ok p (by simp)
  refine ⟨fun q hq => ?_, fun xs a b bs e => ?_⟩
  · rcases List.mem_append.1 hq with hq | hq
    · exact ⟨(h.ok q (by simp [hq])).1, fun hg => Nat.le_trans ((h.ok q (by simp [hq])).2 hg) hj⟩
    · simp at hq
      subst hq
      exact ⟨⟨fun _ => ⟨(hp.1.run hg).1, hlo, h32⟩, fun h0 => by simp at h0; omega⟩, fun _ => hhi⟩
  · rcases List.eq_nil_or_concat bs with rfl | ⟨bs', z, rfl⟩
    · have e2 : qs ++ [(⟨p.lo, hi, p.g⟩ : Pc)] = (xs ++ [a]) ++ [b] := by rw [e]; simp
      obtain ⟨e3, e4⟩ := List.append_inj' e2 rfl
      simp at e4
      subst e4
      have := h.ap xs a p [] (by rw [e3]; simp)
      simpa using this
    · rw [List.concat_eq_append] at e
      have e2 : qs ++ [(⟨p.lo, hi, p.g⟩ : Pc)] = (xs ++ a :: b :: bs') ++ [z] := by rw [e]; simp
      obtain ⟨e3, _⟩ := List.append_inj' e2 rfl
      exact h.ap xs a b (bs' ++ [p]) (by rw [e3]; simp)
theorem Lit.ok {lo hi i j : Nat} {ps ps' : List Pc} (h : Lit lo hi ps ps') (hp : PsOk i ps) (hij : i ≤ j) (h1 : lo < hi) (h2 : hi ≤ j) (h3 : hi ≤ 32) : PsOk j ps' := by
  cases h with
  | new hx => exact hp.push _ j hij ⟨⟨fun _ => ⟨rfl, h1, h3⟩, fun h0 => by simp at h0⟩, fun _ => h2⟩ (fun qs p e hh => hx qs p e ⟨hh.1, hh.2.2⟩)
  | @ext qs p hg he =>
    have := (hp.ok p (by simp)).1.run hg
    exact hp.ext hi j hij hg (by omega) h2 h3
theorem Toks.ok {t : ByteArray} (ht : t.size ≤ 32) {i : Nat} {ps : List Pc} (h : Toks t i ps) : PsOk i ps := by
  induction h with
  | nil => exact ⟨fun p hp => by simp at hp, fun qs p q rs e => by simp at e⟩
  | step h1 h2 ih =>
    cases h2 with
    | lit a b c => exact c.ok ih (by omega) (by omega) (Nat.le_refl _) (by omega)
    | dol a b c d => exact d.ok ih (by omega) (by omega) (Nat.le_refl _) (by omega)
    | grp a b c d => exact ih.push _ _ (by omega) ⟨⟨fun h0 => by simp at h0; omega, fun _ => ⟨by simp; omega, rfl, rfl⟩⟩, fun h0 => by simp at h0; omega⟩ (fun qs p e hh => by have := hh.2.1; simp at this; omega)
theorem Lit.flat {lo hi i : Nat} {ps ps' : List Pc} (h : Lit lo hi ps ps') (hp : PsOk i ps) (h1 : lo ≤ hi) (t s : ByteArray) (c : Nat → Int) : ps'.flatMap (pcB t s c) = ps.flatMap (pcB t s c) ++ bytes t lo (hi - lo) := by
  cases h with
  | new hx =>
    rw [List.flatMap_append]
    simp [pcB]
  | @ext qs p hg he =>
    have := (hp.ok p (by simp)).1.run hg
    rw [List.flatMap_append, List.flatMap_append]
    simp only [List.flatMap_cons, List.flatMap_nil, List.append_nil, List.append_assoc]
    congr 1
    unfold pcB
    rw [if_pos hg, if_pos hg]
    have e : hi - p.lo = (p.hi - p.lo) + (hi - lo) := by omega
    rw [e, bytes_add, show p.lo + (p.hi - p.lo) = lo by omega]
theorem Toks.suf {t : ByteArray} (ht : t.size ≤ 32) (s : ByteArray) (c : Nat → Int) {i : Nat} {ps : List Pc} (h : Toks t i ps) : ∀ l, Suf t s c i l → Suf t s c 0 (ps.flatMap (pcB t s c) ++ l) := by
  induction h with
  | nil => exact fun l h => h
  | step h1 h2 ih =>
    intro l hl
    have hok := h1.ok ht
    cases h2 with
    | lit a b d =>
      rw [d.flat hok (by omega) t s c, List.append_assoc]
      refine ih _ ?_
      rw [show ∀ x : Nat, x + 1 - x = 1 from fun x => by omega, bytes_one t _ a]
      exact .lit a b hl
    | dol a b d e =>
      rw [e.flat hok (by omega) t s c, List.append_assoc]
      refine ih _ ?_
      rw [show ∀ x : Nat, x + 2 - (x + 1) = 1 from fun x => by omega, bytes_one t _ a]
      exact .dol a b d hl
    | grp a b d e =>
      rw [List.flatMap_append, List.append_assoc]
      refine ih _ ?_
      have hg := Suf.grp (s := s) (c := c) a b d e hl
      have e2 : [(⟨0, 0, (t[_ + 1].toNat : Int) - 48⟩ : Pc)].flatMap (pcB t s c) = capBy s c (t[_ + 1].toNat - 48) := by
        have hn : ((t[_ + 1].toNat : Int) - 48).toNat = t[_ + 1].toNat - 48 := by omega
        simp only [List.flatMap_cons, List.flatMap_nil, List.append_nil, pcB, capBy, wdP]
        rw [if_neg (by omega), if_neg (by omega), hn]
        split
        · simp [bytes]
        · rfl
      rw [e2]
      exact hg
end Go.Proofs.Qxb6500283aGreat
