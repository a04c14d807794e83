import Derived.Test.Qxb6500277aGreatRows
import Derived.Test.Qxb6500277aGreatGL7
import Derived.ProofKit
import Derived.Deep.Slices
namespace Go.Proofs.Qxb6500277aGreat
open Go.ChangeShapes Go.WideShapes Go.ChangeAt Go.RowKit Go.Deep

theorem Tryz.own : ownKnob Tryz.prog.godebug = none := by kernel_rfl
theorem Tryz.laidOut : laidOutB Tryz.prog = true := by kernel_rfl
theorem Tryz.cells45 : Tryz.prog.cellsOf 45 = 6 := by kernel_rfl
theorem Tryz.cells3 : Tryz.prog.cellsOf 3 = 1 := by kernel_rfl
theorem Tryz.cells9 : Tryz.prog.cellsOf 9 = 1 := by kernel_rfl

section
variable {H : Type} {enc : TypeId × Value → H} {W : World}
set_option maxRecDepth 100000 in
theorem op_of {n : Nat} {cs : List Value} {x : DataW H × List MemPlace} (h : DataW.trod enc Tryz.prog W 0 (fun _ => true) true n 45 cs = some x) :
    ∃ kind A B C S T, (-9223372036854775808 ≤ A ∧ A ≤ 9223372036854775807) ∧ cs = [.int .i64 kind, .int .i64 A, .int .i64 B, .int .i64 C, .string S, .string T] := by
  obtain ⟨xs, k, hk, hxy, hcl, hxl, hf⟩ := DataW.trod_struct Tryz.underlying45 h
  rw [Tryz.cells45] at hcl
  match xs, hxl, cs, hcl with
  | [y0, y1, y2, y3, y4, y5], _, [v0, v1, v2, v3, v4, v5], _ =>
    have g0 := hf 0 _ rfl
    have g1 := hf 1 _ rfl
    have g2 := hf 2 _ rfl
    have g3 := hf 3 _ rfl
    have g4 := hf 4 _ rfl
    have g5 := hf 5 _ rfl
    simp [Tryz.cells3, Tryz.cells9] at g0 g1 g2 g3 g4 g5
    obtain ⟨z0, e0, _⟩ := DataW.trod_int Tryz.underlying3 g0
    obtain ⟨z1, e1, _, w1⟩ := DataW.trod_int Tryz.underlying3 g1
    obtain ⟨z2, e2, _⟩ := DataW.trod_int Tryz.underlying3 g2
    obtain ⟨z3, e3, _⟩ := DataW.trod_int Tryz.underlying3 g3
    obtain ⟨z4, e4, _⟩ := DataW.trod_string Tryz.underlying9 g4
    obtain ⟨z5, e5, _⟩ := DataW.trod_string Tryz.underlying9 g5
    simp only [List.cons.injEq, and_true] at e0 e1 e2 e3 e4 e5
    subst e0 e1 e2 e3 e4 e5
    refine ⟨_, _, _, _, _, _, ?_, rfl⟩
    have w2 := w1
    simp only [Lit.wf, Bool.and_eq_true, decide_eq_true_eq] at w2
    exact w2

theorem scr_of {a0 : Option Addr} {len cap fuel : Nat} {x : DataW H × List MemPlace} (hf : DataW.trod enc Tryz.prog W 0 (fun _ => true) true fuel 22 (Value.slice a0 len cap).cells.toList = some x) : ScrAt W a0 len := by
  rcases open_slice Tryz.underlying22 hf with ⟨hcs, hx⟩ | ⟨a, len', cap', m, n, D, Pl, hcs, _, hl, hm, hmm, hx, hall⟩
  · simp [Value.cells] at hcs
    exact .inl hcs.2.1
  · simp [Value.cells] at hcs
    obtain ⟨rfl, rfl, rfl⟩ := hcs
    simp only [if_true] at hmm
    subst hmm
    by_cases h0 : len = 0
    · exact .inl h0
    rw [Tryz.cells45] at hall
    have each : ∀ i, i < len → ∃ kind A B C S T, (-9223372036854775808 ≤ A ∧ A ≤ 9223372036854775807) ∧ (∀ j, j < 6 → W.cell? ((a.add (i * 6)).add j) = [.int .i64 kind, .int .i64 A, .int .i64 B, .int .i64 C, .string S, .string T][j]?) := fun i hi => by
      obtain ⟨cs', h1, h2⟩ := hall i (by omega)
      obtain ⟨kind, A, B, C, S, T, hA, rfl⟩ := op_of h2
      obtain ⟨_, hlen, hcell⟩ := World.cells?_some h1
      exact ⟨kind, A, B, C, S, T, hA, fun j hj => hcell j hj⟩
    obtain ⟨b, off, spot⟩ := a
    have hspot : spot = none := by
      obtain ⟨kind, A, B, C, S, T, _, hc⟩ := each 0 (by omega)
      simpa [Addr.add] using World.cell?_spot (hc 0 (by omega))
    subst hspot
    have hbl : b < W.heap.size := by
      obtain ⟨kind, A, B, C, S, T, _, hc⟩ := each 0 (by omega)
      have := hc 0 (by omega)
      simp [Addr.add, World.cell?] at this
      by_cases hb : b < W.heap.size
      · exact hb
      · simp [hb] at this
    refine .inr ⟨b, off, rfl, hbl, fun i hi => ?_⟩
    obtain ⟨kind, A, B, C, S, T, hA, hc⟩ := each i hi
    have e0 := hc 0 (by omega)
    have e1 := hc 1 (by omega)
    have e2 := hc 2 (by omega)
    have e3 := hc 3 (by omega)
    have e4 := hc 4 (by omega)
    have e5 := hc 5 (by omega)
    simp only [Addr.add_lit, Nat.add_zero] at e0 e1 e2 e3 e4 e5
    exact ⟨kind, A, B, C, S, T, hA, e0, e1, e2, e3, e4, e5⟩
end
end Go.Proofs.Qxb6500277aGreat
