/- A region that draws its order, walked in two orders, every operation with its wish. -/
import Derived.Test.Qxb6500277aGreatText3
namespace Go.Proofs.Qxb6500277aGreat
open Go Go.RowKit

section
variable {P : Program} {Q : Exit → Act → World → Prop}
def twoKB (P : Program) (ops : Array Oper) (pre t1 t2 : List Nat) : Bool :=
  Region.noSelect ops && certB ops (Region.before ops) && keepL ops (pre ++ t1) &&
  takesB P ops (Array.replicate ops.size false) pre &&
  (match t1, t2 with
  | i :: r1, j :: r2 =>
    let L := setsL (Array.replicate ops.size false) pre
    (Region.ready .any ops L == [i, j] || Region.ready .any ops L == [j, i]) && takesB P ops (L.setIfInBounds i true) r1 && takesB P ops (L.setIfInBounds j true) r2 &&
    (Region.ready .any ops (setsL (L.setIfInBounds i true) r1)).isEmpty && (Region.ready .any ops (setsL (L.setIfInBounds j true) r2)).isEmpty && r1.length == r2.length && (pre.length + (r1.length + 1) == ops.size)
  | _, _ => false) &&
  keepL ops (t1 ++ []) && keepL ops (t2 ++ []) &&
  (pre ++ t1).all (· < ops.size) && t2.all (· < ops.size)
/-- A REGION THAT DRAWS, WALKED IN TWO ORDERS. -/
theorem wp_region_twoK {id : Nat} {l : List Oper} {a : Act} {w : World} (pre t1 t2 : List Nat) (hm : P.follows .mixedOrders = true) (hB : twoKB P l.toArray pre t1 t2 = true)
    (h : wpList P l.toArray (fun e a' w' => e = .normal ∧ Both P l.toArray (fun e a' w' => e = .normal ∧ kindsB P l.toArray a' = true ∧ Q .normal a' w') (pick l t1) (pick l t2) a' w') (pick l pre) a w.drew) :
    (Code.region id l.toArray true).wp P Q a w := by
  match t1, t2, hB, h with
  | [], _, hB, _ => simp [twoKB] at hB
  | _ :: _, [], hB, _ => simp [twoKB] at hB
  | i :: r1, j :: r2, hB, h =>
    simp only [twoKB, Bool.and_eq_true, Bool.or_eq_true, beq_iff_eq, List.isEmpty_iff] at hB
    obtain ⟨⟨⟨⟨⟨⟨⟨⟨hsel, hcert⟩, hkeep⟩, hpre⟩, ⟨⟨⟨⟨⟨hready, ht1⟩, ht2⟩, he1⟩, he2⟩, hlen⟩, hsz⟩, hn1⟩, hn2⟩, hb1⟩, hb2⟩ := hB
    have b1 : ∀ k ∈ pre ++ i :: r1, k < l.length := fun k hk => by simpa using (List.all_eq_true.1 hb1) k hk
    have b2 : ∀ k ∈ j :: r2, k < l.length := fun k hk => by simpa using (List.all_eq_true.1 hb2) k hk
    rw [← wpOps_pick l pre (fun k hk => b1 k (by simp [hk]))] at h
    have hdc := dc_sets pre _ (dc_none (ops := l.toArray)) hpre
    have mi : i ∈ Region.ready .any l.toArray (setsL (Array.replicate l.toArray.size false) pre) := by rcases hready with e | e <;> rw [e] <;> simp
    have mj : j ∈ Region.ready .any l.toArray (setsL (Array.replicate l.toArray.size false) pre) := by rcases hready with e | e <;> rw [e] <;> simp
    have h1 := wpC_of (P := P) (F := fun a' w' => Q .normal a' w') (G := fun a' w' => Both P l.toArray (NF fun a' w' => kindsB P l.toArray a' = true ∧ Q .normal a' w') (pick l (i :: r1)) (pick l (j :: r2)) a' w') (t := i :: r1) (fun a' w' h => by rw [wpOps_pick l (i :: r1) (fun k hk => b1 k (List.mem_append_right _ hk))]; exact h.one) pre a w.drew hkeep h
    have br : ∀ a' w', Both P l.toArray (NF fun a' w' => kindsB P l.toArray a' = true ∧ Q .normal a' w') (pick l (i :: r1)) (pick l (j :: r2)) a' w' →
        wpAnyK P l.toArray (NF fun a' w' => kindsB P l.toArray a' = true ∧ Q .normal a' w') (r1.length + 1) (setsL (Array.replicate l.toArray.size false) pre) a' w' := by
      rintro a' w' ⟨g1, g2⟩
      rw [← wpOps_pick l (i :: r1) (fun k hk => b1 k (List.mem_append_right _ hk))] at g1
      rw [← wpOps_pick l (j :: r2) b2] at g2
      refine ⟨fun h0 => (by rw [h0] at mi; cases mi), fun k hk => ?_⟩
      have hk' : k = i ∨ k = j := by rcases hready with e | e <;> rw [e] at hk <;> simp at hk <;> omega
      rcases hk' with rfl | rfl
      · have := wpC_mono (K' := fun a' w' => wpAnyK P l.toArray (NF fun a' w' => kindsB P l.toArray a' = true ∧ Q .normal a' w') 0 (setsL ((setsL (Array.replicate l.toArray.size false) pre).setIfInBounds k true) r1) a' w') (fun a2 w2 hq => ⟨he1, rfl, hq⟩) (k :: r1) a' w' (wpC_of (P := P) (F := fun a' w' => Q .normal a' w') (G := fun a' w' => kindsB P l.toArray a' = true ∧ Q .normal a' w') (t := []) (fun a2 w2 h => ⟨rfl, h⟩) (k :: r1) a' w' hn1 g1)
        refine ⟨this.1, wpOp_mono (fun a2 w2 h2 => ?_) this.2⟩
        have := wpAnyK_chain hsel hcert 0 r1 _ a2 w2 ht1 (hdc.set mi) h2
        simpa using this
      · have := wpC_mono (K' := fun a' w' => wpAnyK P l.toArray (NF fun a' w' => kindsB P l.toArray a' = true ∧ Q .normal a' w') 0 (setsL ((setsL (Array.replicate l.toArray.size false) pre).setIfInBounds k true) r2) a' w') (fun a2 w2 hq => ⟨he2, rfl, hq⟩) (k :: r2) a' w' (wpC_of (P := P) (F := fun a' w' => Q .normal a' w') (G := fun a' w' => kindsB P l.toArray a' = true ∧ Q .normal a' w') (t := []) (fun a2 w2 h => ⟨rfl, h⟩) (k :: r2) a' w' hn2 g2)
        refine ⟨this.1, wpOp_mono (fun a2 w2 h2 => ?_) this.2⟩
        have := wpAnyK_chain hsel hcert 0 r2 _ a2 w2 ht2 (hdc.set mj) h2
        rw [hlen]
        simpa using this
    have h2 := wpAnyK_chain hsel hcert (r1.length + 1) pre _ a w.drew hpre dc_none (wpC_mono br pre a w.drew h1)
    have h3 := wpAny_of_K _ _ _ _ h2
    have h4 : (Code.region id l.toArray true).wp P (NF fun a' w' => kindsB P l.toArray a' = true ∧ Q .normal a' w') a w := by
      refine wp_region_any hm ?_
      have e : r1.length + 1 + pre.length = l.toArray.size := by omega
      rw [e] at h3
      exact h3
    refine wp_mono h4 ?_
    rintro e a' w' ⟨rfl, _, hq⟩
    exact hq
end
end Go.Proofs.Qxb6500277aGreat
