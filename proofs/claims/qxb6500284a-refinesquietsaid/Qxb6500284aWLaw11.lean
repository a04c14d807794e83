import Derived.Test.Qxb6500284aWLaw10
import Derived.Test.Qxb6500284aApp
namespace Go.Proofs.Qxb6500284a
open Go Go.RowKit

theorem LawInv.frame {w w' : World} {base x m d : Nat} {s : PS} {D : DD} {p : List In} {N : Nat} (hL : LawInv w base x m d s D p N) (k : Fr (fun _ => False) w w') : LawInv w' base x m d s D p N := by
  have hs := k.size
  obtain ⟨c, hc1, hc2⟩ := hL.mb
  obtain ⟨f, hf⟩ := hL.bf
  exact ⟨hL.rep.frame k (by simp), hL.ci, hL.st, ⟨c, hc1.frame k (by simp), hc2⟩, hL.db.frame k (by simp), hL.code.frame k (by simp), hL.len, hL.cb, fun j hj => (hL.old j hj).frame k (by simp),
    fun j hj b n c e => ⟨(hL.ob j hj b n c e).1, Nat.lt_of_lt_of_le (hL.ob j hj b n c e).2.1 hs, (hL.ob j hj b n c e).2.2⟩, ⟨f, hf.frame k (by simp)⟩, hL.sub, hL.n, hL.lay, Nat.le_trans hL.bs hs⟩
theorem LawInv.more {w : World} {base x m d : Nat} {s : PS} {D : DD} {p : List In} {N N' : Nat} (hL : LawInv w base x m d s D p N) (h : N ≤ N') : LawInv w base x m d s D p N' := by
  obtain ⟨c, hc1, hc2⟩ := hL.mb
  obtain ⟨M, hM1, hM2⟩ := hL.n
  exact { hL with mb := ⟨c, hc1, by omega⟩, n := ⟨M, hM1, by omega⟩ }
/-- The desk turns, nothing else. -/
theorem LawInv.desk {w w' : World} {base x m d : Nat} {s : PS} {D D' : DD} {p p' : List In} {N : Nat} (hL : LawInv w base x m d s D p N) (k : Fr (fun b => b = d ∨ ∃ n c, D.cv = .slice (some ⟨b, 0, none⟩) n c) w w')
    (hd : Blk w' d 9 (dcell D')) (h1 : D'.lid = D.lid) (h2 : D'.o = D.o) (h3 : D'.n = D.n) (h4 : D'.bb = D.bb) (hsub : D'.sub.size ≤ 257) (hcode : CodeAt w' D'.cv p') (hlen : p'.length ≤ 65)
    (hcb : ∀ b n c, D'.cv = .slice (some ⟨b, 0, none⟩) n c → w.heap.size ≤ b ∨ ∃ n' c', D.cv = .slice (some ⟨b, 0, none⟩) n' c') :
    LawInv w' base x m d s D' p' N ∧ Fr (fun b => x ≤ b) w w' := by
  have hs := k.size
  obtain ⟨l1, l2, l3, l4⟩ := hL.lay
  have hbs := hL.bs
  obtain ⟨c, hc1, hc2⟩ := hL.mb
  obtain ⟨f, hf⟩ := hL.bf
  have low : ∀ b, b < base → b ≠ d → ¬ (b = d ∨ ∃ n c, D.cv = .slice (some ⟨b, 0, none⟩) n c) := by
    rintro b hb hne (e | ⟨n, c, e⟩)
    · exact hne e
    · have := hL.cb b n c e; omega
  have hold : ∀ j, j < 4 → ∀ b n c, D.o j = .slice (some ⟨b, 0, none⟩) n c → ¬ (b = d ∨ ∃ n c, D.cv = .slice (some ⟨b, 0, none⟩) n c) := by
    intro j hj b n c e
    obtain ⟨o1, o2, o3⟩ := hL.ob j hj b n c e
    rintro (e' | ⟨n', c', e'⟩)
    · omega
    · exact o3 n' c' e'
  refine ⟨⟨hL.rep.frame k (fun b hb => low b (by unfold pOwn at hb; omega) (by unfold pOwn at hb; omega)), hL.ci, by rw [h1]; exact hL.st, ⟨c, hc1.frame k (low m (by omega) (by omega)), hc2⟩, hd, hcode, hlen, ?_, ?_, ?_,
    ⟨f, by rw [h4]; exact hf.frame k (low _ (by omega) (by omega))⟩, hsub, by rw [h3]; exact hL.n, by rw [h4]; exact ⟨l1, l2, l3, l4⟩, by omega⟩, ?_⟩
  · intro b n c e
    rcases hcb b n c e with h | ⟨n', c', e'⟩
    · omega
    · exact hL.cb b n' c' e'
  · intro j hj
    rw [h2]
    exact (hL.old j hj).frame k (hold j hj)
  · intro j hj b n c e
    rw [h2] at e
    obtain ⟨o1, o2, o3⟩ := hL.ob j hj b n c e
    refine ⟨o1, by omega, fun n' c' e' => ?_⟩
    rcases hcb b n' c' e' with h | ⟨n2, c2, e2⟩
    · omega
    · exact o3 n2 c2 e2
  · refine k.mono ?_
    rintro b hb (e | ⟨n, c, e⟩)
    · omega
    · have := hL.cb b n c e; omega

theorem dcell_cv (D : DD) (v : Value) : ∀ o, o < 9 → upd (dcell D) 0 v o = dcell { D with cv := v } o := by
  intro o ho
  rcases (show o = 0 ∨ o = 1 ∨ o = 2 ∨ o = 3 ∨ o = 4 ∨ o = 5 ∨ o = 6 ∨ o = 7 ∨ o = 8 by omega) with rfl | rfl | rfl | rfl | rfl | rfl | rfl | rfl | rfl <;> simp [dcell, upd]
theorem dcell_sub (D : DD) (t : ByteArray) : ∀ o, o < 9 → upd (dcell D) 1 (.string t) o = dcell { D with sub := t } o := by
  intro o ho
  rcases (show o = 0 ∨ o = 1 ∨ o = 2 ∨ o = 3 ∨ o = 4 ∨ o = 5 ∨ o = 6 ∨ o = 7 ∨ o = 8 by omega) with rfl | rfl | rfl | rfl | rfl | rfl | rfl | rfl | rfl <;> simp [dcell, upd]
end Go.Proofs.Qxb6500284a
