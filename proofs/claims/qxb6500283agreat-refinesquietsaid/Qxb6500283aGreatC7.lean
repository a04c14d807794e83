/- The model's atom. -/
import Derived.Test.Qxb6500283aGreatC4
namespace Go.Proofs.Qxb6500283aGreat
open Go Go.RowKit

theorem MErr.mono {w : World} {r : Nat} {p : ByteArray} {e : Er} {B B' : Nat} (h : MErr w r p e B) (hB : B ≤ B') : MErr w r p e B' := by
  obtain ⟨g, nv, G, iv, hb, hL, hi, he⟩ := h
  exact ⟨g, nv, G, iv, hb, hL, by omega, he⟩
theorem MPost.wide {w w' : World} {r : Nat} {p : ByteArray} {res : Res} {B B' : Nat} {v : Ending} (h : MPost w r p res B v w') (hB : B ≤ B') : MPost w r p res B' v w' := by
  obtain ⟨f, h⟩ := h
  refine ⟨f, ?_⟩
  cases res with
  | error e => exact ⟨h.1, h.2.mono hB⟩
  | ok x => exact h
theorem MPost.pre {w0 w w' : World} {r : Nat} {p : ByteArray} {res : Res} {B : Nat} {v : Ending} (h : MPost w r p res B v w') (k : Fr (fun b => r ≤ b) w0 w) : MPost w0 r p res B v w' := ⟨k.trans h.1 (fun _ _ h => h), h.2⟩
theorem MPost.int {w w' : World} {r : Nat} {p : ByteArray} {res : Res} {B : Nat} {v : Ending} (h : MPost w r p res B v w') : ∃ u : Int, v = .returned (.int .i64 u) := by
  obtain ⟨_, h⟩ := h
  cases res with
  | error e => exact h.1
  | ok x => exact ⟨_, h.1⟩
theorem MMem.frame {w w' : World} {r : Nat} {p : ByteArray} {s : Sg} (h : MMem w r p s) (k : Fr (fun _ => False) w w') : MMem w' r p s := by
  obtain ⟨g, nv, q, hb, hL, hN, hnr⟩ := h
  exact ⟨g, nv, q, hb.frame k (fun h => h), hL, hN.frame k (fun _ _ _ _ h => h), hnr⟩
theorem MMem.setI {w : World} {r : Nat} {p : ByteArray} {s : Sg} (h : MMem w r p s) (j : Nat) : MMem (w.setCell ⟨r, 1, none⟩ (.int .i64 (j : Nat))) r p ⟨j, s.ns, s.g⟩ := by
  obtain ⟨g, nv, q, hb, hL, hN, hnr⟩ := h
  exact ⟨_, nv, q, hb.set 1 _, hL.setI _, hN.far hnr ((Fr.refl (fun b => b = r) w).setC r 1 _ (fun _ => rfl)), hnr⟩
theorem MMem.cells {w : World} {r : Nat} {p : ByteArray} {s : Sg} (h : MMem w r p s) : w.cell? ⟨r, 0, none⟩ = some (.string p) ∧ w.cell? ⟨r, 1, none⟩ = some (.int .i64 (s.i : Nat)) ∧ w.cell? ⟨r, 4, none⟩ = some (.int .i64 0) ∧ (∀ o, w.frozen? ⟨r, o, none⟩ = false) ∧ r < w.heap.size := by
  obtain ⟨g, nv, q, hb, hL, hN, hnr⟩ := h
  refine ⟨?_, ?_, ?_, hb.frozen, hb.lt⟩
  · rw [hb.cell (by omega), hL.p0]
  · rw [hb.cell (by omega), hL.i1]
  · rw [hb.cell (by omega), hL.e4]
end Go.Proofs.Qxb6500283aGreat
