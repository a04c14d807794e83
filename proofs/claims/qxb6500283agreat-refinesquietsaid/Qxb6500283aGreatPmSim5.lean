import Derived.Test.Qxb6500283aGreatPmSim4
namespace Go.Proofs.Qxb6500283aGreat
open Go Go.RowKit

section
variable {p : List In} {str : ByteArray}
theorem nchar_le (hp : OkProg p) {W : Nat} {s : PS} {V : List (Nat × (Nat → Int))} (hl : LInv s.f W p.length) (h : LRel p W s V) : nchar p V + 1 ≤ p.length := by
  have hnd : (V.map Prod.fst).Nodup := by rw [← h.vs]; exact hl.nodup
  have hlt : ∀ a ∈ V.map Prod.fst, a < p.length := by rw [← h.vs]; exact hl.lt
  have hpos := hp.pos
  have := pigeonK (p.length - 1) ((V.filter fun t => match p[t.1]? with | none => false | some x => decide (x.op = 0)).map Prod.fst) ((List.filter_sublist.map Prod.fst).nodup hnd) (fun a ha => by
    obtain ⟨t, ht, rfl⟩ := List.mem_map.1 ha
    obtain ⟨h1, h2⟩ := List.mem_filter.1 ht
    have h3 := hlt t.1 (List.mem_map.2 ⟨t, h1, rfl⟩)
    have hx : p[t.1]? = some p[t.1] := by simp [h3]
    rw [hx] at h2
    have h4 := hp.all _ h3
    unfold okIn at h4
    simp only [decide_eq_true_eq] at h2
    omega)
  rw [List.length_map] at this
  have e : nchar p V = (V.filter fun t => match p[t.1]? with | none => false | some x => decide (x.op = 0)).length := rfl
  rw [← e] at this
  omega
theorem nW_le {W : Nat} {s : PS} {V : List (Nat × (Nat → Int))} (hl : LInv s.f W p.length) (h : LRel p W s V) : (V.length : Int) = s.f (W * 130 + 128) ∧ V.length ≤ p.length := by
  have := h.len
  have := hl.n0
  have := hl.n1
  omega
theorem cloRun_ne {i f : Nat} {S V' : List (Nat × (Nat → Int))} {t : Nat × (Nat → Int)} (h : cloRun p str i f (S ++ [t]) [] = some V') : V' ≠ [] := by
  cases f with
  | zero => simp [cloRun] at h
  | succ f =>
    cases hS : S ++ [t] with
    | nil => simp at hS
    | cons a S' =>
      obtain ⟨pc, c⟩ := a
      rw [hS, cloRun, if_neg (by simp [vis])] at h
      obtain ⟨N, hN⟩ := cloRun_ext f _ _ h
      rw [hN]; simp
theorem LRel.empty {W : Nat} {s : PS} (h : s.f (W * 130 + 128) = 0) : LRel p W s [] := ⟨by simp [listOf, h], (fun t ht => by cases ht), (fun idx hi => by cases hi)⟩
end
end Go.Proofs.Qxb6500283aGreat
