import Derived.Test.Qxb6500277aGreatW8
import Derived.Deep.LoopGhost
namespace Go.Proofs.Qxb6500277aGreat
open Go Go.RowKit

/-- A list of tokens handed out: a block of its own, with just the tokens. -/
def TokAt (w : World) (b : Nat) (ts : List Tok) : Prop := Blk w b (ts.length * 4) (bufF ts)

set_option maxRecDepth 100000 in
set_option maxHeartbeats 4000000 in
theorem answer_any {w : World} {x bb : Nat} {r : R} (h : LRep w x bb r) :
    Calls Tryz.prog 146 #[.pointer (some ⟨x, 0, none⟩)] w fun e w' => e = .returned (.slice (some ⟨w.heap.size, 0, none⟩) r.toks.length r.toks.length) ∧ Fr (fun _ => False) w w' ∧ TokAt w' w.heap.size r.toks := by
  obtain ⟨all, hA⟩ := h
  have c0 : w.cell? ⟨x, 0, none⟩ = some (.slice (some ⟨bb, 0, none⟩) all.length all.length) := hA.main.cell (by omega)
  have c1 : w.cell? ⟨x, 1, none⟩ = some (.int .i64 r.toks.length) := hA.main.cell (by omega)
  have hle := hA.le
  have hhi := hA.hi
  have hxl := hA.main.lt
  have hbl := hA.buf.lt
  go_enter Tryz.func146, Tryz.ntmps146
  go_wp2_with (first
    | (refine wpList_makeB (by rfl) 97 _ _ (by rfl) 182 4 40 (.agg #[.int .i64 0, .int .i64 0, .int .i64 0, .string ⟨#[]⟩]) r.toks.length (by rfl) (by rfl) Tryz.underlying97 (by kernel_rfl) (by kernel_rfl) (by kernel_rfl) (by omega) (by omega) ?_
       intro w2 f2 s2 hb2
       have h2 := hA.frame f2 (by simp) (by simp)
       have d0 : w2.cell? ⟨x, 0, none⟩ = some (.slice (some ⟨bb, 0, none⟩) all.length all.length) := h2.main.cell (by omega)
       have d1 : w2.cell? ⟨x, 1, none⟩ = some (.int .i64 r.toks.length) := h2.main.cell (by omega)))
  refine wp_region_text (by kernel_rfl) (by kernel_rfl) ?_
  go_wp2_with (first
    | (refine wpList_copyA (by rfl) _ _ 97 97 (by rfl) 182 4 w.heap.size 0 r.toks.length r.toks.length bb 0 r.toks.length all.length (r.toks.length * 4) (all.length * 4) r.toks.length _ (bufF all) (by rfl) (by rfl) Tryz.underlying97 (by kernel_rfl) (by show _ = min _ _; omega) hb2.drew h2.buf.drew (by omega) (by omega) (fun j _ => bufF_one _ _) ?_
       intro w3 f3 hb3))
  refine ⟨by kernel_rfl, ?_⟩
  go_wp2_with fail
  go_ret
  refine ⟨rfl, (f2.drew).trans (f3.mono (S' := fun b => b = w.heap.size) (fun _ _ h => h)) (fun b hb e => by omega), ?_⟩
  refine hb3.congr fun o ho => ?_
  rw [lay_in _ _ _ _ (Nat.zero_le _) (by rw [rowOf_length]; omega)]
  simp only [rowOf, Nat.zero_add, Nat.sub_zero, List.getElem_map, List.getElem_range, bufF, List.getD_eq_getElem?_getD]
  have ht := hA.take
  have : r.toks[o / 4]? = all[o / 4]? := by
    have e := List.getElem?_take (l := all) (i := r.toks.length) (j := o / 4)
    rw [ht, if_pos (by omega)] at e
    exact e
  rw [this]
end Go.Proofs.Qxb6500277aGreat
