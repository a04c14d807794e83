import Derived.Test.Qxb6500283aGreatPkInsn
namespace Go.Proofs.Qxb6500283aGreat
open Go Go.RowKit

def SlAt (w : World) (v : Value) (p : List In) : Prop := ∃ a cap, v = .slice a p.length cap ∧ (p = [] ∨ ∃ b, a = some ⟨b, 0, none⟩ ∧ PAt w b p)
theorem SlAt.frame {S : Nat → Prop} {w w' : World} {v : Value} {p : List In} (h : SlAt w v p) (k : Fr S w w') (hb : ∀ b n c, v = .slice (some ⟨b, 0, none⟩) n c → ¬ S b) : SlAt w' v p := by
  obtain ⟨a, cap, rfl, h⟩ := h
  refine ⟨a, cap, rfl, ?_⟩
  rcases h with h | ⟨b, rfl, h⟩
  · exact .inl h
  · exact .inr ⟨b, rfl, h.frame k (hb b _ _ rfl)⟩


def Holds7 (f : Nat → Value) (p : List In) : Prop := ∀ i (h : i < p.length) j, j < 7 → f (i * 7 + j) = inCell p[i] j
def CodeAt (w : World) (v : Value) (p : List In) : Prop :=
  (v = .slice none 0 0 ∧ p = []) ∨ ∃ b cap f, v = .slice (some ⟨b, 0, none⟩) p.length cap ∧ p.length ≤ cap ∧ Blk w b (cap * 7) f ∧ Holds7 f p
theorem Holds7.at {w : World} {b m : Nat} {f : Nat → Value} {p : List In} (h : Holds7 f p) (hb : Blk w b m f) (hm : p.length * 7 ≤ m) : PAt w b p := fun i hi j hj => by
  rw [hb.cell (by omega), h i hi j hj]
theorem CodeAt.sl {w : World} {v : Value} {p : List In} (h : CodeAt w v p) : SlAt w v p := by
  rcases h with ⟨rfl, rfl⟩ | ⟨b, cap, f, rfl, hc, hb, hf⟩
  · exact ⟨none, 0, rfl, .inl rfl⟩
  · exact ⟨_, cap, rfl, .inr ⟨b, rfl, hf.at hb (by omega)⟩⟩
theorem CodeAt.frame {S : Nat → Prop} {w w' : World} {v : Value} {p : List In} (h : CodeAt w v p) (k : Fr S w w') (hb : ∀ b n c, v = .slice (some ⟨b, 0, none⟩) n c → ¬ S b) : CodeAt w' v p := by
  rcases h with h | ⟨b, cap, f, rfl, hc, hbk, hf⟩
  · exact .inl h
  · exact .inr ⟨b, cap, f, rfl, hc, hbk.frame k (hb b _ _ rfl), hf⟩
theorem inCell_one (i : In) (j : Nat) : (inCell i j).oneCell' = true := by unfold inCell; split <;> rfl
theorem Holds7.one {f : Nat → Value} {p : List In} (h : Holds7 f p) (k : Nat) (hk : k < p.length * 7) : (f k).oneCell' = true := by
  have := h (k / 7) (by omega) (k % 7) (by omega)
  rw [show k / 7 * 7 + k % 7 = k by omega] at this
  rw [this]; exact inCell_one _ _
theorem Holds7.lay {g f : Nat → Value} {p : List In} (h : Holds7 f p) (n : Nat) (hn : n = p.length * 7) : Holds7 (lay g 0 (rowOf f 0 n)) p := by
  intro i hi j hj
  rw [lay_in _ _ _ _ (by omega) (by rw [rowOf_length]; omega)]
  simp only [rowOf, List.getElem_map, List.getElem_range, Nat.sub_zero, Nat.zero_add]
  exact h i hi j hj

set_option maxHeartbeats 1000000 in
theorem copyProg_any {w : World} {v : Value} {p : List In} (h : CodeAt w v p) (hlen : p.length ≤ 65) :
    Calls Tryz.prog 90 #[v] w fun e w' => e = .returned (.slice (some ⟨w.heap.size, 0, none⟩) p.length p.length) ∧ Fr (fun _ => False) w w' ∧ w.heap.size < w'.heap.size ∧ ∃ f, Blk w' w.heap.size (p.length * 7) f ∧ Holds7 f p := by
  rcases h with ⟨rfl, rfl⟩ | ⟨b, cap, f, rfl, hc, hb, hf⟩
  · go_enter Tryz.func90, Tryz.ntmps90
    go_wp2_with (first | (refine wpList_makeB (by rfl) 117 _ _ (by rfl) 185 7 56 (inV ⟨0, 0, 0, 0, 0, 0, 0⟩) 0 (by rfl) (by rfl) Tryz.underlying117 (by kernel_rfl) (by kernel_rfl) (by kernel_rfl) (by omega) (by omega) ?_; intro w3 f3 z3 b3) | refine wpList_copyNil (by rfl) _ _ 117 117 (by rfl) 185 7 _ _ _ _ (by rfl) (by rfl) Tryz.underlying117 (by kernel_rfl) ?_)
    go_wp2_with fail
    go_ret
    exact ⟨rfl, f3, by omega, _, b3, fun i hi => by simp at hi⟩
  · go_enter Tryz.func90, Tryz.ntmps90
    go_wp2_with (first | (refine wpList_makeB (by rfl) 117 _ _ (by rfl) 185 7 56 (inV ⟨0, 0, 0, 0, 0, 0, 0⟩) p.length (by rfl) (by rfl) Tryz.underlying117 (by kernel_rfl) (by kernel_rfl) (by kernel_rfl) (by omega) (by omega) ?_; intro w3 f3 z3 b3; have hb3 := hb.frame f3 (by simp)) | (refine wpList_copyA (by rfl) _ _ 117 117 (by rfl) 185 7 w.heap.size 0 p.length p.length b 0 p.length cap (p.length * 7) (cap * 7) p.length _ f (by rfl) (by rfl) Tryz.underlying117 (by kernel_rfl) (by simp) b3 hb3 (by omega) (by omega) (fun j hj => by rw [Nat.zero_add]; exact hf.one j hj) ?_; intro w4 f4 b4))
    go_wp2_with fail
    go_ret
    have := f4.size
    exact ⟨rfl, f3.trans f4 (fun i hi e => by omega), by omega, _, b4, hf.lay _ rfl⟩
end Go.Proofs.Qxb6500283aGreat
