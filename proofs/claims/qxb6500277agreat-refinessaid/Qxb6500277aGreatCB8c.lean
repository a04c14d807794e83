/- The real checker: the records copied out. -/
import Derived.Test.Qxb6500277aGreatCB8b
namespace Go.Proofs.Qxb6500277aGreat
open Go Go.RowKit

theorem FrP.push {g g' : Nat → Value} {rs : List FR} {i : Nat} (h : FrP g (rs.take i)) (hi : i < rs.length) (e : ∀ o, o < 7 → g' (i * 7 + o) = frC rs[i] o) (hs : ∀ k, k < i * 7 ∨ i * 7 + 7 ≤ k → g' k = g k) : FrP g' (rs.take (i + 1)) := by
  intro j hj o ho
  have hl : (rs.take (i + 1)).length = i + 1 := by simp; omega
  have hl2 : (rs.take i).length = i := by simp; omega
  rw [hl] at hj
  rw [List.getElem_take]
  by_cases ej : j = i
  · subst ej; exact e o ho
  · rw [hs _ (by omega)]
    have := h j (by rw [hl2]; omega) o ho
    rw [List.getElem_take] at this
    exact this
theorem zip_at {X : Cx} {s : Ck} (hl : s.lim.length = X.fs.length) {i : Nat} (hi : i < X.fs.length) : ∃ h : i < (X.fs.zip s.lim).length, (X.fs.zip s.lim)[i] = (fAt X.fs i, lAt s.lim i) := by
  refine ⟨by simp [hl, hi], ?_⟩
  rw [List.getElem_zip]
  unfold fAt lAt
  simp [List.getD_eq_getElem?_getD, hi, hl]
def zFunc : Value := .agg #[.int .i64 0, .int .i64 0, .int .i64 0, .int .i64 0, .int .i64 0, .int .i64 0, .string ⟨#[]⟩]
theorem CkR.post {w w' w'' : World} {c p : Nat} {Op : Nat → Prop} {src : ByteArray} {e : Ending} (h : CkR w c p Op src e w') (k : Fr (fun _ => False) w' w'') : CkR w c p Op src e w'' := by
  obtain ⟨Op', v, t, r, f, ns, root, ty, rf, rs, main, err, pos, h1, h2, h3, h4, h5, h6, h7, h8, h9⟩ := h
  exact ⟨Op', v, t, r, f, ns, root, ty, rf, rs, main, err, pos, h1, h2.frame k (fun _ _ h => h), h3, h4.frame k (fun h => h), h5, h6.trans k (fun _ _ h => h.elim), h7.frame k (fun _ _ h => h), h8, h9⟩
end Go.Proofs.Qxb6500277aGreat
