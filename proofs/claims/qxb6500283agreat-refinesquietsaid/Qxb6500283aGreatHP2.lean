/- Replace, plain: what the output is. -/
import Derived.Test.Qxb6500283aGreatHG5
import Derived.Test.Qxb6500283aGreatHF12
import Derived.Test.Qxb6500283aGreatHF9
namespace Go.Proofs.Qxb6500283aGreat
open Go Go.RowKit

inductive RepS (t s : ByteArray) : List Cp → Nat → List UInt8 → Prop
  | nil {last : Nat} : RepS t s [] last (bytes s last (s.size - last))
  | cons {c : Cp} {r : List Cp} {last : Nat} {l l' : List UInt8} : Suf t s c 0 l → RepS t s r (c 1).toNat l' → RepS t s (c :: r) last (bytes s last ((c 0).toNat - last) ++ l ++ l')
theorem RepS.det {t s : ByteArray} : ∀ {cs : List Cp} {last : Nat} {l l' : List UInt8}, RepS t s cs last l → RepS t s cs last l' → l = l'
  | [], _, _, _, .nil, .nil => rfl
  | c :: r, _, _, _, .cons h1 h2, .cons k1 k2 => by rw [h1.det k1, RepS.det h2 k2]
theorem out_rep {t s : ByteArray} (ht : t.size ≤ 32) {ps : List Pc} (h : Toks t t.size ps) : ∀ (cs : List Cp) (last : Nat), RepS t s cs last (outFrom t s ps cs last)
  | [], last => .nil
  | c :: r, last => by
    have h1 := h.suf ht s c [] .ok
    rw [List.append_nil] at h1
    exact .cons h1 (out_rep ht h r _)
/-- What Replace answers. -/
inductive FRep (p s t : ByteArray) : Int → Int → ByteArray → Prop
  | long : 128 < p.size ∨ 256 < s.size ∨ 32 < t.size → FRep p s t 12 0 ⟨#[]⟩
  | pat {er q : Int} {o : Option Cp} : p.size ≤ 128 → s.size ≤ 256 → t.size ≤ 32 → er ≠ 0 → Sol p s 0 er q o → FRep p s t er q ⟨#[]⟩
  | tmp {q0 q : Int} {o : Option Cp} : p.size ≤ 128 → s.size ≤ 256 → t.size ≤ 32 → Sol p s 0 0 q0 o → Out t 0 q → 0 ≤ q → FRep p s t 11 q ⟨#[]⟩
  | ok {cs : List Cp} {x : ByteArray} : p.size ≤ 128 → s.size ≤ 256 → t.size ≤ 32 → All p s 0 cs → Out t 0 (-1) → RepS t s cs 0 x.data.toList → FRep p s t 0 0 x
theorem ba_ext {x y : ByteArray} (h : x.data.toList = y.data.toList) : x = y := by
  cases x with | mk a => cases y with | mk b =>
  have : a = b := Array.toList_inj.1 h
  rw [this]
theorem FRep.det {p s t : ByteArray} {er q er' q' : Int} {x x' : ByteArray} (h : FRep p s t er q x) (h' : FRep p s t er' q' x') : er = er' ∧ q = q' ∧ x = x' := by
  cases h with
  | long h1 =>
    cases h' with
    | long => exact ⟨rfl, rfl, rfl⟩
    | pat => omega
    | tmp => omega
    | ok => omega
  | pat h1 h2 h3 h4 h5 =>
    cases h' with
    | long => omega
    | pat k1 k2 k3 k4 k5 => have := h5.det k5; exact ⟨this.1, this.2.1, rfl⟩
    | tmp k1 k2 k3 k4 => exact absurd (h5.det k4).1 h4
    | ok k1 k2 k3 k4 => obtain ⟨_, _, k⟩ := k4.sol; exact absurd (h5.det k).1 h4
  | tmp h1 h2 h3 h4 h5 h6 =>
    cases h' with
    | long => omega
    | pat k1 k2 k3 k4 k5 => exact absurd (h4.det k5).1.symm k4
    | tmp k1 k2 k3 k4 k5 => exact ⟨rfl, h5.det k5, rfl⟩
    | ok k1 k2 k3 k4 k5 => have := h5.det k5; omega
  | ok h1 h2 h3 h4 h5 h6 =>
    cases h' with
    | long => omega
    | pat k1 k2 k3 k4 k5 => obtain ⟨_, _, k⟩ := h4.sol; exact absurd (k.det k5).1.symm k4
    | tmp k1 k2 k3 k4 k5 => have := h5.det k5; omega
    | ok k1 k2 k3 k4 k5 k6 => have := h4.det k4; subst this; exact ⟨rfl, rfl, ba_ext (h6.det k6)⟩
theorem size_bound {ps : List Pc} (hok : ∀ p ∈ ps, PcOk p) (hl : ps.length ≤ 32) {N : Nat} (hN : N ≤ 256) : ∀ {cs : List Cp} {last : Nat}, Asc N cs last → sizeFrom N ps cs last ≤ N - last + cs.length * 8192
  | [], last, _ => by simp [sizeFrom]
  | c :: r, last, h => by
    obtain ⟨y1, y2, y3, y4, y5⟩ := h
    have h1 := size_bound hok hl hN y5
    have h2 := pw_le (N := 256) (by omega) (y4.up hN) ps hok
    have h3 : ps.length * 256 ≤ 8192 := by omega
    simp only [sizeFrom, List.length_cons]
    omega
theorem PsOk.up {i j : Nat} {ps : List Pc} (h : PsOk i ps) (hj : i ≤ j) : PsOk j ps := ⟨fun p hp => ⟨(h.ok p hp).1, fun hg => Nat.le_trans ((h.ok p hp).2 hg) hj⟩, h.ap⟩
theorem CompT.psok {t : ByteArray} (ht : t.size ≤ 32) {r : Int} {ps : List Pc} (h : CompT t r ps) : PsOk 32 ps := by
  cases h with
  | ok h => exact (h.ok ht).up ht
  | bad h hb => exact (h.ok ht).up (by have := h.len; omega)
theorem CompT.toks {t : ByteArray} {r : Int} {ps : List Pc} (h : CompT t r ps) (hr : r < 0) : r = -1 ∧ Toks t t.size ps := by
  cases h with
  | ok h => exact ⟨rfl, h⟩
  | bad h hb => omega
end Go.Proofs.Qxb6500283aGreat
