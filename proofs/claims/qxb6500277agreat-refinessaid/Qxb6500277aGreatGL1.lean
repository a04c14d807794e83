/- Both engines' answers are one. -/
import Derived.Test.Qxb6500277aGreatGE25
import Derived.Test.Qxb6500277aGreatGP21
namespace Go.Proofs.Qxb6500277aGreat
open Go Go.RowKit

/-- How the interpreter ends. -/
def MEnd (P : Pg) (m : Nat) (fuel en rt fu : Int) (L : List Int) : Prop :=
  (en = 21 ∧ ∃ t, EvI P (bodyI P (.inv m []) (s00 fuel)) (.ok rt t) ∧ fu = t.fuel ∧ L = t.out) ∨ (en ≠ 0 ∧ rt = 0 ∧ ∃ t, EvI P (bodyI P (.inv m []) (s00 fuel)) (.stop en t) ∧ fu = t.fuel ∧ L = t.out)
def MAns (src : ByteArray) (I : List Int) (fuel er po en rt fu : Int) (L : List Int) : Prop :=
  (4096 < src.size ∧ er = 31 ∧ po = 4096 ∧ en = 0 ∧ rt = 0 ∧ fu = fuel ∧ L = []) ∨
  (src.size ≤ 4096 ∧ 128 < I.length ∧ er = 32 ∧ po = 128 ∧ en = 0 ∧ rt = 0 ∧ fu = fuel ∧ L = []) ∨
  (src.size ≤ 4096 ∧ I.length ≤ 128 ∧ GBad src er po ∧ en = 0 ∧ rt = 0 ∧ fu = fuel ∧ L = []) ∨
  (src.size ≤ 4096 ∧ I.length ≤ 128 ∧ ∃ X s m, GOk src X s m ∧ er = 0 ∧ po = 0 ∧ MEnd (mkP X s (treeOf src) I) m fuel en rt fu L)
/-- A text's answer is one. -/
theorem GBad.det {src : ByteArray} {er po er' po' : Int} (h : GBad src er po) (h' : GBad src er' po') : er = er' ∧ po = po' := by
  obtain ⟨ns, root, ty, rf, rs, main, K, _⟩ := h
  obtain ⟨ns', root', ty', rf', rs', main', K', _⟩ := h'
  have q := K.det K'
  exact ⟨q.2.2.2.2.2.2.1.symm, q.2.2.2.2.2.2.2.symm⟩
theorem GOk.ka {src : ByteArray} {X : Cx} {s : Ck} {m : Nat} (h : GOk src X s m) : KA src (flFs 0 (treeOf src)) (hdF 0 (treeOf src)) s.ty s.rf (X.fs.zip s.lim) m 0 0 :=
  .inr ⟨h.1, by rw [h.2]; exact ⟨rfl, rfl, rfl, rfl, rfl, rfl, rfl, rfl⟩⟩
theorem GOk.bad {src : ByteArray} {X : Cx} {s : Ck} {m : Nat} {er po : Int} (h : GOk src X s m) (h' : GBad src er po) : False := by
  obtain ⟨ns', root', ty', rf', rs', main', K', ne⟩ := h'
  exact ne (h.ka.det K').2.2.2.2.2.2.1
theorem GOk.det {src : ByteArray} {X X' : Cx} {s s' : Ck} {m m' : Nat} (h : GOk src X s m) (h' : GOk src X' s' m') : X = X' ∧ s = s' ∧ m = m' := by
  have := h.2.symm.trans h'.2
  injection this with a b c
  exact ⟨a, b, c⟩
/-- BOTH ENGINES ANSWER THE SAME. -/
theorem ans_same {src : ByteArray} {I : List Int} {fuel er po en rt fu er' po' en' rt' fu' : Int} {L L' : List Int} (h : GAns src I fuel er po en rt fu L) (h' : MAns src I fuel er' po' en' rt' fu' L') : er = er' ∧ po = po' ∧ en = en' ∧ rt = rt' ∧ fu = fu' ∧ L = L' := by
  rcases h with ⟨a, rfl, rfl, rfl, rfl, rfl, rfl⟩ | ⟨a, b, rfl, rfl, rfl, rfl, rfl, rfl⟩ | ⟨a, b, c, rfl, rfl, rfl, rfl⟩ | ⟨a, b, X, s, m, k, hO, hr, rfl, rfl, e1, e2, e3, e4⟩
  · rcases h' with ⟨a', rfl, rfl, rfl, rfl, rfl, rfl⟩ | ⟨a', _⟩ | ⟨a', _⟩ | ⟨a', _⟩
    · exact ⟨rfl, rfl, rfl, rfl, rfl, rfl⟩
    all_goals omega
  · rcases h' with ⟨a', _⟩ | ⟨a', b', rfl, rfl, rfl, rfl, rfl, rfl⟩ | ⟨a', b', _⟩ | ⟨a', b', _⟩
    · omega
    · exact ⟨rfl, rfl, rfl, rfl, rfl, rfl⟩
    all_goals omega
  · rcases h' with ⟨a', _⟩ | ⟨a', b', _⟩ | ⟨a', b', c', rfl, rfl, rfl, rfl⟩ | ⟨a', b', X, s, m, hO, _⟩
    · omega
    · omega
    · exact ⟨(c.det c').1, (c.det c').2, rfl, rfl, rfl, rfl⟩
    · exact (hO.bad c).elim
  · rcases h' with ⟨a', _⟩ | ⟨a', b', _⟩ | ⟨a', b', c', _⟩ | ⟨a', b', X', s', m', hO', rfl, rfl, hE⟩
    · omega
    · omega
    · exact (hO.bad c').elim
    · obtain ⟨rfl, rfl, rfl⟩ := hO.det hO'
      have K := (src_chk hO.1 hO.2).ok I
      rcases hE with ⟨rfl, t, ⟨N, hN⟩, rfl, rfl⟩ | ⟨ne, rfl, t, ⟨N, hN⟩, rfl, rfl⟩
      · have q := run_same K (hN N (Nat.le_refl _)) hr
        exact ⟨rfl, rfl, e1.trans q.1, e2.trans q.2.1, e3.trans q.2.2.2, e4.trans q.2.2.1⟩
      · have q := run_same K (hN N (Nat.le_refl _)) hr ne
        exact ⟨rfl, rfl, e1.trans q.1, e2.trans q.2.1, e3.trans q.2.2.2, e4.trans q.2.2.1⟩
end Go.Proofs.Qxb6500277aGreat
