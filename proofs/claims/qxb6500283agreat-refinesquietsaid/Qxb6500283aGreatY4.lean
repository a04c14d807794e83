/- push. -/
import Derived.Test.Qxb6500283aGreatY3
namespace Go.Proofs.Qxb6500283aGreat
open Go Go.RowKit

set_option maxRecDepth 100000 in
set_option maxHeartbeats 4000000 in
theorem pushB_any {D : Nat → Prop} {w : World} {r : Nat} {nv : Value} {code : List In} {todo : List Wk} (k a b : Nat) (hM : BMem D w r nv code todo) (hlen : todo.length ≤ 300) (hD : ∀ b, w.heap.size ≤ b → D b) :
    Calls Tryz.prog 87 #[.pointer (some ⟨r, 0, none⟩), .int .i64 (k : Nat), .int .i64 (a : Nat), .int .i64 (b : Nat)] w fun v w' => v = .returned (.tuple #[]) ∧ BMem D w' r nv code (todo ++ [⟨k, a, b⟩]) ∧ Fr D w w' := by
  obtain ⟨dr, cv, tv, hb, hC, hT, hcr, htr, hct⟩ := hM
  obtain ⟨ta, tcap, htv⟩ : ∃ a c, tv = .slice a todo.length c := by
    obtain ⟨a, c, e, _⟩ := hT.sl
    exact ⟨a, c, e⟩
  subst htv
  have c1 := hb.cell (o := 2) (by omega)
  simp only [bCell] at c1
  have z := hb.frozen
  have hrl := hb.lt
  have F1 := (Fr.refl (fun _ => False) w).alloc (.cells #[.int .i64 (k : Nat), .int .i64 (a : Nat), .int .i64 (b : Nat)] 181)
  have hb1 := hb.frame F1 (fun h => h)
  have hC1 := hC.frame F1 (fun _ _ _ _ h => h)
  have hT1 := hT.frame F1 (fun _ _ _ _ h => h)
  have hp1 := KPAt.one w ⟨k, a, b⟩
  go_enter Tryz.func87, Tryz.ntmps87
  go_wp2_with (at_builtin; refine wpList_appendWk (by rfl) _ _ (by rfl) (.slice ta todo.length tcap) todo ⟨k, a, b⟩ (w.heap.size) 1 (by rfl) (by rfl) hT1 hp1 (by omega) ?_; intro v' w8 hc hb8 f8; obtain ⟨va, vcap, rfl, hsl8⟩ := hc.sl; have hrb := hb1.frame f8 (fun ⟨n, c, e⟩ => by have := (htr _ _ _ e).2; omega); have d1 := hrb.cell (o := 2) (by omega); have z8 := hrb.frozen)
  have hvr : ∀ b' n c, Value.slice va (todo ++ [(⟨k, a, b⟩ : Wk)]).length vcap = .slice (some ⟨b', 0, none⟩) n c → D b' ∧ r < b' := fun b' n c e => by
    rcases hb8 b' n c e with h | ⟨n', c', h⟩
    · simp only [World.size_alloc] at h; exact ⟨hD b' (by omega), by omega⟩
    · exact htr b' n' c' h
  have hvt : ∀ b' n c n' c', cv = .slice (some ⟨b', 0, none⟩) n c → Value.slice va (todo ++ [(⟨k, a, b⟩ : Wk)]).length vcap = .slice (some ⟨b', 0, none⟩) n' c' → False := fun b' n c n' c' e' e => by
    rcases hb8 b' n' c' e with h | ⟨n'', c'', h⟩
    · simp only [World.size_alloc] at h; have := hC.lt b' n c e'; omega
    · exact hct b' _ _ _ _ e' h
  have k9 := (Fr.refl (fun b => b = r) w8).setC r 2 (.slice va (todo ++ [(⟨k, a, b⟩ : Wk)]).length vcap) (fun _ => rfl)
  have hc2 := hc.frame k9 (fun b n c e h => by have := (hvr b n c e).2; omega)
  have hC2 := (hC1.frame f8 (fun b n c e ⟨n', c', h⟩ => hct b _ _ _ _ e h)).frame k9 (fun b n c e h => by have := (hcr b n c e).2; omega)
  have hrb2 := (hrb.set 2 (.slice va (todo ++ [(⟨k, a, b⟩ : Wk)]).length vcap)).congr (bCell2 _ _ _ _)
  rw [one_appendK] at hc2 hvr hvt hC2 hrb2
  go_wp2_with fail
  go_end0
  refine ⟨rfl, ⟨dr, cv, _, hrb2, hC2, hc2, hcr, hvr, hvt⟩, ?_⟩
  exact ((F1.mono (fun _ _ h => h.elim)).trans f8 (fun b hb ⟨n, c, e⟩ => (htr b n c e).1)).setC r 2 _ (fun _ => dr)
end Go.Proofs.Qxb6500283aGreat
