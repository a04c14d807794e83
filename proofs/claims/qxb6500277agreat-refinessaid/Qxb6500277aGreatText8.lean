/- A region that draws its order: four ways at the first choice. -/
import Derived.Test.Qxb6500277aGreatText7
namespace Go.Proofs.Qxb6500277aGreat
open Go Go.RowKit
structure Fork4 (A B C D : Prop) : Prop where
  one : A
  two : B
  three : C
  four : D
section
variable {P : Program} {ops : Array Oper} {Q : Exit → Act → World → Prop} {F G : Act → World → Prop}
def four0 (P : Program) (ops : Array Oper) (i : Nat) (t1 : Ot) (j : Nat) (t2 : Ot) (k : Nat) (t3 : Ot) (q : Nat) (t4 : Ot) (L : Array Bool) : Bool :=
  ((Region.ready .any ops L).contains i && (Region.ready .any ops L).contains j && (Region.ready .any ops L).contains k && (Region.ready .any ops L).contains q && (Region.ready .any ops L).all (fun x => x == i || x == j || x == k || x == q)) && (keepL ops ([i] ++ t1.path) && keepL ops ([j] ++ t2.path) && keepL ops ([k] ++ t3.path) && keepL ops ([q] ++ t4.path)) && (t1.len == t2.len && t1.len == t3.len && t1.len == t4.len) && (treeB P ops t1 (L.setIfInBounds i true) && treeB P ops t2 (L.setIfInBounds j true) && treeB P ops t3 (L.setIfInBounds k true) && treeB P ops t4 (L.setIfInBounds q true))
def wp4 (P : Program) (ops : Array Oper) (F : Act → World → Prop) (i : Nat) (t1 : Ot) (j : Nat) (t2 : Ot) (k : Nat) (t3 : Ot) (q : Nat) (t4 : Ot) (a : Act) (w : World) : Prop :=
  wpOps P ops (NF (wpT P ops F t1)) [i] a w ∧ wpOps P ops (NF (wpT P ops F t2)) [j] a w ∧ wpOps P ops (NF (wpT P ops F t3)) [k] a w ∧ wpOps P ops (NF (wpT P ops F t4)) [q] a w
theorem four_any (hsel : Region.noSelect ops = true) (hcert : certB ops (Region.before ops) = true) {i j k q : Nat} {t1 t2 t3 t4 : Ot} (L : Array Bool) (a : Act) (w : World) (hB : four0 P ops i t1 j t2 k t3 q t4 L = true) (hdc : DC ops L)
    (h : wp4 P ops (fun a w => kindsB P ops a = true ∧ F a w) i t1 j t2 k t3 q t4 a w) : wpAnyK P ops (NF fun a w => kindsB P ops a = true ∧ F a w) (t1.len + 1) L a w := by
  simp only [four0, Bool.and_eq_true, beq_iff_eq] at hB
  obtain ⟨⟨⟨⟨⟨⟨⟨mi0, mj0⟩, mk0⟩, mq0⟩, hall⟩, ⟨⟨⟨k1, k2⟩, k3⟩, k4⟩⟩, ⟨⟨hl2, hl3⟩, hl4⟩⟩, ⟨⟨⟨b1, b2⟩, b3⟩, b4⟩⟩ := hB
  have mi : i ∈ Region.ready .any ops L := by simpa using mi0
  have mj : j ∈ Region.ready .any ops L := by simpa using mj0
  have mk : k ∈ Region.ready .any ops L := by simpa using mk0
  have mq : q ∈ Region.ready .any ops L := by simpa using mq0
  refine ⟨fun h0 => (by rw [h0] at mi; cases mi), fun x hx => ?_⟩
  have hx' : x = i ∨ x = j ∨ x = k ∨ x = q := by
    have := (List.all_eq_true.1 hall) x hx
    simp only [Bool.or_eq_true, beq_iff_eq] at this
    omega
  rcases hx' with rfl | rfl | rfl | rfl
  · have c := wpC_of (P := P) (F := F) (t := t1.path) (fun a w h => wpT_path t1 a w h) [x] a w k1 h.1
    exact ⟨c.1, wpOp_mono (fun a2 w2 h2 => tree_any hsel hcert t1 _ a2 w2 b1 (hdc.set mi) h2) c.2⟩
  · have c := wpC_of (P := P) (F := F) (t := t2.path) (fun a w h => wpT_path t2 a w h) [x] a w k2 h.2.1
    refine ⟨c.1, wpOp_mono (fun a2 w2 h2 => ?_) c.2⟩
    have := tree_any hsel hcert t2 _ a2 w2 b2 (hdc.set mj) h2
    rw [hl2]
    exact this
  · have c := wpC_of (P := P) (F := F) (t := t3.path) (fun a w h => wpT_path t3 a w h) [x] a w k3 h.2.2.1
    refine ⟨c.1, wpOp_mono (fun a2 w2 h2 => ?_) c.2⟩
    have := tree_any hsel hcert t3 _ a2 w2 b3 (hdc.set mk) h2
    rw [hl3]
    exact this
  · have c := wpC_of (P := P) (F := F) (t := t4.path) (fun a w h => wpT_path t4 a w h) [x] a w k4 h.2.2.2
    refine ⟨c.1, wpOp_mono (fun a2 w2 h2 => ?_) c.2⟩
    have := tree_any hsel hcert t4 _ a2 w2 b4 (hdc.set mq) h2
    rw [hl4]
    exact this
def fourB (P : Program) (ops : Array Oper) (pre : List Nat) (i : Nat) (t1 : Ot) (j : Nat) (t2 : Ot) (k : Nat) (t3 : Ot) (q : Nat) (t4 : Ot) : Bool :=
  Region.noSelect ops && certB ops (Region.before ops) && (takesB P ops (Array.replicate ops.size false) pre && keepL ops (pre ++ (i :: t1.path)) && four0 P ops i t1 j t2 k t3 q t4 (setsL (Array.replicate ops.size false) pre)) && (t1.len + 1 + pre.length == ops.size) && (pre.all (· < ops.size) && (decide (i < ops.size) && decide (j < ops.size) && decide (k < ops.size) && decide (q < ops.size)) && (nfB ops.size t1 && nfB ops.size t2 && nfB ops.size t3 && nfB ops.size t4))
theorem wp1_of {l : List Oper} {i : Nat} {t : Ot} {a : Act} {w : World} (hi : i < l.length) (n : nfB l.length t = true) (g : wpList P l.toArray (fun e a' w' => e = .normal ∧ Nx (wpTL P l F t a' w')) (pick l [i]) a w) : wpOps P l.toArray (NF (wpT P l.toArray F t)) [i] a w := by
  rw [← wpOps_pick l [i] (fun k hk => by simp at hk; omega)] at g
  simpa using wpOps_apT (js := []) (F := wpT P l.toArray F t) (G := fun a w => Nx (wpTL P l F t a w)) (fun a w h => ⟨rfl, wpT_of t a w n h.go⟩) [i] a w g
/-- A REGION THAT DRAWS, WITH FOUR FIRST CHOICES BEHIND A PREFIX. -/
theorem wp_region_four {id : Nat} {l : List Oper} {a : Act} {w : World} (pre : List Nat) (i : Nat) (t1 : Ot) (j : Nat) (t2 : Ot) (k : Nat) (t3 : Ot) (q : Nat) (t4 : Ot) (hm : P.follows .mixedOrders = true) (hB : fourB P l.toArray pre i t1 j t2 k t3 q t4 = true)
    (h : wpList P l.toArray (fun e a' w' => e = .normal ∧ Nx (Fork4 (wpList P l.toArray (fun e a' w' => e = .normal ∧ Nx (wpTL P l (fun a' w' => kindsB P l.toArray a' = true ∧ Q .normal a' w') t1 a' w')) (pick l [i]) a' w') (wpList P l.toArray (fun e a' w' => e = .normal ∧ Nx (wpTL P l (fun a' w' => kindsB P l.toArray a' = true ∧ Q .normal a' w') t2 a' w')) (pick l [j]) a' w') (wpList P l.toArray (fun e a' w' => e = .normal ∧ Nx (wpTL P l (fun a' w' => kindsB P l.toArray a' = true ∧ Q .normal a' w') t3 a' w')) (pick l [k]) a' w') (wpList P l.toArray (fun e a' w' => e = .normal ∧ Nx (wpTL P l (fun a' w' => kindsB P l.toArray a' = true ∧ Q .normal a' w') t4 a' w')) (pick l [q]) a' w'))) (pick l pre) a w.drew) : (Code.region id l.toArray true).wp P Q a w := by
  simp only [fourB, Bool.and_eq_true, beq_iff_eq, decide_eq_true_eq] at hB
  obtain ⟨⟨⟨⟨hsel, hcert⟩, ⟨⟨h1, h3⟩, h4⟩⟩, hsz⟩, ⟨⟨hpre, ⟨⟨⟨li, lj⟩, lk⟩, lq⟩⟩, ⟨⟨⟨n1, n2⟩, n3⟩, n4⟩⟩⟩ := hB
  have ls : l.toArray.size = l.length := by simp
  rw [ls] at hpre li lj lk lq n1 n2 n3 n4
  have b : ∀ k ∈ pre, k < l.length := fun k hk => by simpa using (List.all_eq_true.1 hpre) k hk
  rw [← wpOps_pick l pre b] at h
  have h' : wpOps P l.toArray (NF (wp4 P l.toArray (fun a' w' => kindsB P l.toArray a' = true ∧ Q .normal a' w') i t1 j t2 k t3 q t4)) pre a w.drew := by
    simpa using wpOps_apT (js := []) (F := wp4 P l.toArray (fun a' w' => kindsB P l.toArray a' = true ∧ Q .normal a' w') i t1 j t2 k t3 q t4) (fun a w h => ⟨rfl, wp1_of li n1 h.go.one, wp1_of lj n2 h.go.two, wp1_of lk n3 h.go.three, wp1_of lq n4 h.go.four⟩) pre a w.drew h
  have c := wpC_of (P := P) (F := fun a' w' => Q .normal a' w') (t := i :: t1.path) (fun a w h => wpOps_apT (js := t1.path) (fun a w h => wpT_path t1 a w h) [i] a w h.1) pre a w.drew h3 h'
  have h2 := wpAnyK_chain hsel hcert (t1.len + 1) pre _ a w.drew h1 dc_none (wpC_mono (fun a' w' h' => four_any (F := fun a' w' => Q .normal a' w') hsel hcert _ a' w' h4 (dc_sets pre _ dc_none h1) h') pre a w.drew c)
  have h5 := wpAny_of_K _ _ _ _ h2
  have h6 : (Code.region id l.toArray true).wp P (NF fun a' w' => kindsB P l.toArray a' = true ∧ Q .normal a' w') a w := by
    refine wp_region_any hm ?_
    rw [hsz] at h5
    exact h5
  refine wp_mono h6 ?_
  rintro e a' w' ⟨rfl, _, hq⟩
  exact hq
end
end Go.Proofs.Qxb6500277aGreat
