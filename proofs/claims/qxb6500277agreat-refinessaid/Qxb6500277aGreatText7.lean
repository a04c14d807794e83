/- A region that draws its order, walked along a tree of orders. -/
import Derived.Test.Qxb6500277aGreatText6
namespace Go.Proofs.Qxb6500277aGreat
open Go Go.RowKit

inductive Ot where
  | fin : Ot
  | run (is : List Nat) (t : Ot) : Ot
  | fork (i : Nat) (t1 : Ot) (j : Nat) (t2 : Ot) : Ot
  | fork3 (i : Nat) (t1 : Ot) (j : Nat) (t2 : Ot) (k : Nat) (t3 : Ot) : Ot
def Ot.path : Ot → List Nat
  | .fin => []
  | .run is t => is ++ t.path
  | .fork i t1 _ _ => i :: t1.path
  | .fork3 i t1 _ _ _ _ => i :: t1.path
def Ot.len : Ot → Nat
  | .fin => 0
  | .run is t => t.len + is.length
  | .fork _ t1 _ _ => t1.len + 1
  | .fork3 _ t1 _ _ _ _ => t1.len + 1
section
variable {P : Program} {ops : Array Oper} {Q : Exit → Act → World → Prop} {F G : Act → World → Prop}
def treeB (P : Program) (ops : Array Oper) : Ot → Array Bool → Bool
  | .fin, L => (Region.ready .any ops L).isEmpty
  | .run is t, L => takesB P ops L is && is.all (· < ops.size) && keepL ops (is ++ t.path) && treeB P ops t (setsL L is)
  | .fork i t1 j t2, L => (Region.ready .any ops L == [i, j] || Region.ready .any ops L == [j, i]) && (decide (i < ops.size) && decide (j < ops.size)) && keepL ops ([i] ++ t1.path) && keepL ops ([j] ++ t2.path) && t1.len == t2.len && treeB P ops t1 (L.setIfInBounds i true) && treeB P ops t2 (L.setIfInBounds j true)
  | .fork3 i t1 j t2 k t3, L => (Region.ready .any ops L).contains i && (Region.ready .any ops L).contains j && (Region.ready .any ops L).contains k && (Region.ready .any ops L).all (fun x => x == i || x == j || x == k) && keepL ops ([i] ++ t1.path) && keepL ops ([j] ++ t2.path) && keepL ops ([k] ++ t3.path) && t1.len == t2.len && t1.len == t3.len && treeB P ops t1 (L.setIfInBounds i true) && treeB P ops t2 (L.setIfInBounds j true) && treeB P ops t3 (L.setIfInBounds k true)
def wpT (P : Program) (ops : Array Oper) (F : Act → World → Prop) : Ot → Act → World → Prop
  | .fin, a, w => F a w
  | .run is t, a, w => wpOps P ops (NF (wpT P ops F t)) is a w
  | .fork i t1 j t2, a, w => wpOps P ops (NF (wpT P ops F t1)) [i] a w ∧ wpOps P ops (NF (wpT P ops F t2)) [j] a w
  | .fork3 i t1 j t2 k t3, a, w => wpOps P ops (NF (wpT P ops F t1)) [i] a w ∧ wpOps P ops (NF (wpT P ops F t2)) [j] a w ∧ wpOps P ops (NF (wpT P ops F t3)) [k] a w
theorem wpOps_apT {js : List Nat} (hG : ∀ a w, G a w → wpOps P ops (NF F) js a w) : ∀ (is : List Nat) (a : Act) (w : World), wpOps P ops (NF G) is a w → wpOps P ops (NF F) (is ++ js) a w
  | [], a, w, h => hG a w h.2
  | i :: r, a, w, h => by
    rw [wpOps_cons] at h
    rw [List.cons_append, wpOps_cons]
    exact wpOp_mono (fun a' w' h' => wpOps_apT hG r a' w' h') (wpOp_q h)
theorem wpT_path : ∀ (t : Ot) (a : Act) (w : World), wpT P ops F t a w → wpOps P ops (NF F) t.path a w
  | .fin, _, _, h => ⟨rfl, h⟩
  | .run is t, a, w, h => wpOps_apT (fun a w h => wpT_path t a w h) is a w h
  | .fork i t1 _ _, a, w, h => wpOps_apT (js := t1.path) (fun a w h => wpT_path t1 a w h) [i] a w h.1
  | .fork3 i t1 _ _ _ _, a, w, h => wpOps_apT (js := t1.path) (fun a w h => wpT_path t1 a w h) [i] a w h.1
theorem tree_any (hsel : Region.noSelect ops = true) (hcert : certB ops (Region.before ops) = true) : ∀ (t : Ot) (L : Array Bool) (a : Act) (w : World), treeB P ops t L = true → DC ops L →
    wpT P ops (fun a w => kindsB P ops a = true ∧ F a w) t a w → wpAnyK P ops (NF fun a w => kindsB P ops a = true ∧ F a w) t.len L a w
  | .fin, L, a, w, hB, _, h => ⟨by simpa [treeB] using hB, rfl, h⟩
  | .run is t, L, a, w, hB, hdc, h => by
    simp only [treeB, Bool.and_eq_true] at hB
    obtain ⟨⟨⟨h1, _⟩, h3⟩, h4⟩ := hB
    have c := wpC_of (P := P) (F := F) (t := t.path) (fun a w h => wpT_path t a w h) is a w h3 h
    exact wpAnyK_chain hsel hcert t.len is L a w h1 hdc (wpC_mono (fun a' w' h' => tree_any hsel hcert t _ a' w' h4 (dc_sets is L hdc h1) h') is a w c)
  | .fork i t1 j t2, L, a, w, hB, hdc, h => by
    simp only [treeB, Bool.and_eq_true, Bool.or_eq_true, beq_iff_eq] at hB
    obtain ⟨⟨⟨⟨⟨⟨hr, _⟩, k1⟩, k2⟩, hl⟩, b1⟩, b2⟩ := hB
    have mi : i ∈ Region.ready .any ops L := by rcases hr with e | e <;> rw [e] <;> simp
    have mj : j ∈ Region.ready .any ops L := by rcases hr with e | e <;> rw [e] <;> simp
    refine ⟨fun h0 => (by rw [h0] at mi; cases mi), fun k hk => ?_⟩
    have hk' : k = i ∨ k = j := by rcases hr with e | e <;> rw [e] at hk <;> simp at hk <;> omega
    rcases hk' with rfl | rfl
    · have c := wpC_of (P := P) (F := F) (t := t1.path) (fun a w h => wpT_path t1 a w h) [k] a w k1 h.1
      exact ⟨c.1, wpOp_mono (fun a2 w2 h2 => tree_any hsel hcert t1 _ a2 w2 b1 (hdc.set mi) h2) c.2⟩
    · have c := wpC_of (P := P) (F := F) (t := t2.path) (fun a w h => wpT_path t2 a w h) [k] a w k2 h.2
      refine ⟨c.1, wpOp_mono (fun a2 w2 h2 => ?_) c.2⟩
      have := tree_any hsel hcert t2 _ a2 w2 b2 (hdc.set mj) h2
      rw [hl]
      exact this
  | .fork3 i t1 j t2 k t3, L, a, w, hB, hdc, h => by
    simp only [treeB, Bool.and_eq_true, beq_iff_eq] at hB
    obtain ⟨⟨⟨⟨⟨⟨⟨⟨⟨⟨⟨mi0, mj0⟩, mk0⟩, hall⟩, k1⟩, k2⟩, k3⟩, hl⟩, hl3⟩, b1⟩, b2⟩, b3⟩ := hB
    have mi : i ∈ Region.ready .any ops L := by simpa using mi0
    have mj : j ∈ Region.ready .any ops L := by simpa using mj0
    have mk : k ∈ Region.ready .any ops L := by simpa using mk0
    refine ⟨fun h0 => (by rw [h0] at mi; cases mi), fun q hq => ?_⟩
    have hq' : q = i ∨ q = j ∨ q = k := by
      have := (List.all_eq_true.1 hall) q hq
      simp only [Bool.or_eq_true, beq_iff_eq] at this
      omega
    rcases hq' with rfl | rfl | rfl
    · have c := wpC_of (P := P) (F := F) (t := t1.path) (fun a w h => wpT_path t1 a w h) [q] a w k1 h.1
      exact ⟨c.1, wpOp_mono (fun a2 w2 h2 => tree_any hsel hcert t1 _ a2 w2 b1 (hdc.set mi) h2) c.2⟩
    · have c := wpC_of (P := P) (F := F) (t := t2.path) (fun a w h => wpT_path t2 a w h) [q] a w k2 h.2.1
      refine ⟨c.1, wpOp_mono (fun a2 w2 h2 => ?_) c.2⟩
      have := tree_any hsel hcert t2 _ a2 w2 b2 (hdc.set mj) h2
      rw [hl]
      exact this
    · have c := wpC_of (P := P) (F := F) (t := t3.path) (fun a w h => wpT_path t3 a w h) [q] a w k3 h.2.2
      refine ⟨c.1, wpOp_mono (fun a2 w2 h2 => ?_) c.2⟩
      have := tree_any hsel hcert t3 _ a2 w2 b3 (hdc.set mk) h2
      rw [hl3]
      exact this
structure Fork3 (A B C : Prop) : Prop where
  one : A
  two : B
  three : C
structure Fork (A B : Prop) : Prop where
  one : A
  two : B
/-- A stop for the walk. -/
structure Nx (A : Prop) : Prop where
  go : A
/-- For the walk. -/
def wpTL (P : Program) (l : List Oper) (F : Act → World → Prop) : Ot → Act → World → Prop
  | .fin, a, w => F a w
  | .run is t, a, w => wpList P l.toArray (fun e a' w' => e = .normal ∧ Nx (wpTL P l F t a' w')) (pick l is) a w
  | .fork i t1 j t2, a, w => Fork (wpList P l.toArray (fun e a' w' => e = .normal ∧ Nx (wpTL P l F t1 a' w')) (pick l [i]) a w) (wpList P l.toArray (fun e a' w' => e = .normal ∧ Nx (wpTL P l F t2 a' w')) (pick l [j]) a w)
  | .fork3 i t1 j t2 k t3, a, w => Fork3 (wpList P l.toArray (fun e a' w' => e = .normal ∧ Nx (wpTL P l F t1 a' w')) (pick l [i]) a w) (wpList P l.toArray (fun e a' w' => e = .normal ∧ Nx (wpTL P l F t2 a' w')) (pick l [j]) a w) (wpList P l.toArray (fun e a' w' => e = .normal ∧ Nx (wpTL P l F t3 a' w')) (pick l [k]) a w)
def nfB (n : Nat) : Ot → Bool
  | .fin => true
  | .run is t => is.all (· < n) && nfB n t
  | .fork i t1 j t2 => decide (i < n) && decide (j < n) && nfB n t1 && nfB n t2
  | .fork3 i t1 j t2 k t3 => decide (i < n) && decide (j < n) && decide (k < n) && nfB n t1 && nfB n t2 && nfB n t3
theorem wpT_of {l : List Oper} : ∀ (t : Ot) (a : Act) (w : World), nfB l.length t = true → wpTL P l F t a w → wpT P l.toArray F t a w
  | .fin, _, _, _, h => h
  | .run is t, a, w, hn, h => by
    simp only [nfB, Bool.and_eq_true] at hn
    have b : ∀ k ∈ is, k < l.length := fun k hk => by simpa using (List.all_eq_true.1 hn.1) k hk
    simp only [wpTL] at h
    rw [← wpOps_pick l is b] at h
    have := wpOps_apT (js := []) (F := wpT P l.toArray F t) (G := fun a w => Nx (wpTL P l F t a w)) (fun a w h => ⟨rfl, wpT_of t a w hn.2 h.go⟩) is a w h
    rw [List.append_nil] at this
    exact this
  | .fork i t1 j t2, a, w, hn, h => by
    simp only [nfB, Bool.and_eq_true, decide_eq_true_eq] at hn
    obtain ⟨⟨⟨hi, hj⟩, n1⟩, n2⟩ := hn
    simp only [wpTL] at h
    obtain ⟨g1, g2⟩ := h
    rw [← wpOps_pick l [i] (fun k hk => by simp at hk; omega)] at g1
    rw [← wpOps_pick l [j] (fun k hk => by simp at hk; omega)] at g2
    exact ⟨by simpa using wpOps_apT (js := []) (F := wpT P l.toArray F t1) (G := fun a w => Nx (wpTL P l F t1 a w)) (fun a w h => ⟨rfl, wpT_of t1 a w n1 h.go⟩) [i] a w g1, by simpa using wpOps_apT (js := []) (F := wpT P l.toArray F t2) (G := fun a w => Nx (wpTL P l F t2 a w)) (fun a w h => ⟨rfl, wpT_of t2 a w n2 h.go⟩) [j] a w g2⟩
  | .fork3 i t1 j t2 k t3, a, w, hn, h => by
    simp only [nfB, Bool.and_eq_true, decide_eq_true_eq] at hn
    obtain ⟨⟨⟨⟨⟨hi, hj⟩, hk⟩, n1⟩, n2⟩, n3⟩ := hn
    simp only [wpTL] at h
    obtain ⟨g1, g2, g3⟩ := h
    rw [← wpOps_pick l [i] (fun k hk => by simp at hk; omega)] at g1
    rw [← wpOps_pick l [j] (fun k hk => by simp at hk; omega)] at g2
    rw [← wpOps_pick l [k] (fun k hk => by simp at hk; omega)] at g3
    exact ⟨by simpa using wpOps_apT (js := []) (F := wpT P l.toArray F t1) (G := fun a w => Nx (wpTL P l F t1 a w)) (fun a w h => ⟨rfl, wpT_of t1 a w n1 h.go⟩) [i] a w g1, by simpa using wpOps_apT (js := []) (F := wpT P l.toArray F t2) (G := fun a w => Nx (wpTL P l F t2 a w)) (fun a w h => ⟨rfl, wpT_of t2 a w n2 h.go⟩) [j] a w g2, by simpa using wpOps_apT (js := []) (F := wpT P l.toArray F t3) (G := fun a w => Nx (wpTL P l F t3 a w)) (fun a w h => ⟨rfl, wpT_of t3 a w n3 h.go⟩) [k] a w g3⟩
def otB (P : Program) (ops : Array Oper) (t : Ot) : Bool := Region.noSelect ops && certB ops (Region.before ops) && treeB P ops t (Array.replicate ops.size false) && t.len == ops.size && nfB ops.size t
/-- A REGION THAT DRAWS, WALKED ALONG A TREE OF ORDERS. -/
theorem wp_region_tree {id : Nat} {l : List Oper} {a : Act} {w : World} (t : Ot) (hm : P.follows .mixedOrders = true) (hB : otB P l.toArray t = true)
    (h : wpTL P l (fun a' w' => kindsB P l.toArray a' = true ∧ Q .normal a' w') t a w.drew) : (Code.region id l.toArray true).wp P Q a w := by
  simp only [otB, Bool.and_eq_true, beq_iff_eq] at hB
  obtain ⟨⟨⟨⟨hsel, hcert⟩, ht⟩, hsz⟩, hn⟩ := hB
  have h2 := tree_any (F := fun a' w' => Q .normal a' w') hsel hcert t _ a w.drew ht dc_none (wpT_of t a w.drew (by simpa using hn) h)
  have h3 := wpAny_of_K _ _ _ _ h2
  have h4 : (Code.region id l.toArray true).wp P (NF fun a' w' => kindsB P l.toArray a' = true ∧ Q .normal a' w') a w := by
    refine wp_region_any hm ?_
    rw [hsz] at h3
    exact h3
  refine wp_mono h4 ?_
  rintro e a' w' ⟨rfl, _, hq⟩
  exact hq
end
end Go.Proofs.Qxb6500277aGreat
