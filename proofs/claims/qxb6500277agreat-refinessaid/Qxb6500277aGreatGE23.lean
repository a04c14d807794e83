/- The code generator: image. -/
import Derived.Test.Qxb6500277aGreatGE22
import Derived.Test.Qxb6500277aGreatMake
namespace Go.Proofs.Qxb6500277aGreat
open Go Go.RowKit

/-- Bytes without spare capacity, in a block of their own. -/
def BFr (w : World) (b : Nat) (v : Value) (C : List Nat) : Prop := v = .slice (some ⟨b, 0, none⟩) C.length C.length ∧ ∃ f, Blk w b C.length f ∧ ∀ i, i < C.length → f i = .int .u8 (byteAt C i)
theorem BFr.frame {w w' : World} {b : Nat} {v : Value} {C : List Nat} {F : Nat → Prop} (h : BFr w b v C) (k : Fr F w w') (hF : ¬ F b) : BFr w' b v C := by
  obtain ⟨h1, f, h2, h3⟩ := h
  exact ⟨h1, f, h2.frame k hF, h3⟩
theorem BFr.rd {w : World} {b : Nat} {v : Value} {C : List Nat} (h : BFr w b v C) : BRd w v C := by
  obtain ⟨h1, f, h2, h3⟩ := h
  exact .inr ⟨b, C.length, h1, Nat.le_refl _, h2.lt, fun i hi => by rw [h2.cell hi, h3 i hi]⟩
theorem BFr.bk {w : World} {b : Nat} {v : Value} {C : List Nat} (h : BFr w b v C) : ∀ x, isB v x → x = b := fun x hx => by rw [h.1] at hx; exact isB_one hx
set_option maxRecDepth 100000 in
set_option maxHeartbeats 1000000 in
theorem imageG {w : World} {g : Nat} {P : Nat → Prop} {hd : Nat → Value} {B : Gb} (h : GX w g P hd B) (h0 : 0 < B.code.length) (hl : B.code.length ≤ 40000) : Calls Tryz.prog 47 #[.pointer (some ⟨g, 0, none⟩)] w fun e w' => ∃ v, e = .returned v ∧ BFr w' w.heap.size v B.code ∧ Fr (fun _ => False) w w' := by
  obtain ⟨cv, hv, xv, ev, col, H⟩ := h
  have c12 := H.cl (o := 12) (by omega)
  have hlt := H.glt
  have hz := H.blk.frozen
  rcases H.code with ⟨_, e⟩ | ⟨cb, cap, f, ecv, hcap, hbk, hf⟩
  · rw [e] at h0; simp at h0
  · have e12 : gC hd cv hv xv ev 12 = .slice (some ⟨cb, 0, none⟩) B.code.length cap := ecv
    rw [e12] at c12
    have hone : ∀ j, j < B.code.length * 1 → (f (0 + j)).oneCell' = true := fun j hj => by rw [Nat.zero_add, hf j (by omega)]; rfl
    have hcl := hbk.lt
    generalize hn : B.code.length = n at *
    have HH : Hid (True ∧ _) := ⟨trivial, And.intro H (And.intro hf hn)⟩
    clear H e12 ecv hf hn
    go_enter Tryz.func47, Tryz.ntmps47
    go_wp2_with (first
      | (refine wpList_makeB (w := w) (by rfl) 70 _ _ (by rfl) 5 1 1 (.int .u8 0) n (by rfl) (by rfl) Tryz.underlying70 (by kernel_rfl) (by kernel_rfl) (by kernel_rfl) (by omega) (by omega) ?_
         intro w1 F1 s1 B1
         have c12' : w1.cell? ⟨g, 12, none⟩ = some (.slice (some ⟨cb, 0, none⟩) n cap) := by rw [F1.cell (p := ⟨g, 12, none⟩) hlt (fun h => h)]; exact c12
         have hbk1 := hbk.frame F1 (fun h => h)
         have hlt1 : g < w1.heap.size := by omega
         have HF1 : Hid (True ∧ _) := ⟨trivial, F1⟩
         clear c12 hbk F1)
      | (refine wpList_copyA (w := w1) (by rfl) _ _ 70 70 (by rfl) 5 1 w.heap.size 0 n n cb 0 n cap (n * 1) cap n _ f (by rfl) (by rfl) Tryz.underlying70 (by kernel_rfl) (Nat.min_self _).symm B1 hbk1 (by omega) (by omega) hone ?_
         intro w2 F2 B2))
    go_ret
    have F1 := HF1.out.2
    obtain ⟨_, H, hf, hn⟩ := HH.out
    rw [Nat.mul_one] at B2
    refine ⟨_, rfl, ⟨by rw [hn]; rfl, _, by rw [hn]; exact B2, fun i hi => ?_⟩, ?_⟩
    · rw [hn] at hi
      rw [lay_in _ 0 _ i (by omega) (by rw [rowOf_length]; omega)]
      have := rowOf_get f 0 n (i - 0) (by omega)
      rw [List.getElem?_eq_getElem (by rw [rowOf_length]; omega)] at this
      injection this with this
      rw [this]
      simp only [Nat.zero_add, Nat.sub_zero]
      exact hf i (by omega)
    · exact F1.trans F2 (fun b hb e => by omega)
end Go.Proofs.Qxb6500277aGreat
