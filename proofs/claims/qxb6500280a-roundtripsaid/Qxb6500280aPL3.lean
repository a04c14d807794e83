/- The law: what the walk holds. -/
import Derived.Test.Qxb6500280aPL2
namespace Go.Proofs.Qxb6500280a
open Go Go.RowKit

def trC (v : Value) (r e q : Int) (o : Nat) : Value := match o with | 0 => v | 1 => .int .i64 r | 2 => .int .i64 e | _ => .int .i64 q
structure LI (lo : Nat) (w : World) (p m bt bu : Nat) (O : Nat → Prop) (v u mv : Value) (ns : List Nd) (r e q : Int) (n : Nat) (f : Nat → Value) : Prop where
  R : RIx w p O
  Mo : MIx w m
  T1 : Blk w bt 4 (trC v r e q)
  T2 : Blk w bu 4 (trC u r e q)
  L1 : NLV w v ns
  L2 : NLV w u ns
  le : ns.length ≤ 200
  mn : MnA w mv n f
  o1 : ∀ c, O c → c ≠ m ∧ c ≠ bt ∧ c ≠ bu ∧ ¬ isBlk v c ∧ ¬ isBlk u c ∧ ¬ isBlk mv c ∧ (∀ j, j < n → ¬ isBlk (f j) c) ∧ lo ≤ c
  v1 : ∀ c, isBlk v c → c ≠ m ∧ c ≠ bt ∧ c ≠ bu ∧ ¬ isBlk mv c ∧ (∀ j, j < n → ¬ isBlk (f j) c) ∧ lo ≤ c
  m1 : ∀ c, isBlk mv c → c ≠ m ∧ c ≠ bt ∧ c ≠ bu ∧ (∀ j, j < n → ¬ isBlk (f j) c) ∧ lo ≤ c
  f1 : ∀ j, j < n → ∀ c, isBlk (f j) c → c ≠ bt ∧ c ≠ bu
  b1 : bt ≠ bu ∧ bt ≠ m ∧ bu ≠ m ∧ lo ≤ bt ∧ lo ≤ bu
section
variable {lo : Nat} {w w' w1 : World} {p m bt bu : Nat} {O O1 : Nat → Prop} {v u mv : Value} {ns : List Nd} {r e q : Int} {n : Nat} {f : Nat → Value} {S : Nat → Prop}
theorem RIx.lt (h : RIx w p O) {c : Nat} (hc : O c) : c < w.heap.size := by
  obtain ⟨lx, bb, ab, r, H⟩ := h
  exact H.lt c hc
theorem MIx.lt (h : MIx w m) : m < w.heap.size := by
  obtain ⟨q, h⟩ := h
  exact h.lt
theorem MnA.frame (H : MnA w mv n f) (k : Fr S w w') (h1 : ∀ c, isBlk mv c ∨ (∃ j, j < n ∧ isBlk (f j) c) → ¬ S c) : MnA w' mv n f :=
  ⟨H.le, H.os.frame k (fun c hc => h1 c (.inl hc)), fun j hj => (H.st j hj).frame k (fun c hc => h1 c (.inr ⟨j, hj, hc⟩))⟩
theorem MnA.lt (H : MnA w mv n f) {c : Nat} (hc : isBlk mv c ∨ ∃ j, j < n ∧ isBlk (f j) c) : c < w.heap.size := by
  rcases hc with hc | ⟨j, hj, hc⟩
  · exact H.os.bk hc
  · exact (H.st j hj).bk hc
theorem LI.parse (h : LI lo w p m bt bu O v u mv ns r e q n f) (R1 : RIx w' p O1) (hO : ∀ c, O1 c → O c ∨ w.heap.size ≤ c) (k : Fr O w w') (hlo : lo ≤ w.heap.size) : LI lo w' p m bt bu O1 v u mv ns r e q n f := by
  refine ⟨R1, h.Mo.frame k (fun c => (h.o1 _ c).1 rfl), h.T1.frame k (fun c => (h.o1 _ c).2.1 rfl), h.T2.frame k (fun c => (h.o1 _ c).2.2.1 rfl), h.L1.frame k (fun b hb c => (h.o1 _ c).2.2.2.1 hb), h.L2.frame k (fun b hb c => (h.o1 _ c).2.2.2.2.1 hb), h.le, h.mn.frame k (fun c hc ho => ?_), fun c hc => ?_, h.v1, h.m1, h.f1, h.b1⟩
  · rcases hc with hc | ⟨j, hj, hc⟩
    · exact (h.o1 _ ho).2.2.2.2.2.1 hc
    · exact (h.o1 _ ho).2.2.2.2.2.2.1 j hj hc
  · rcases hO c hc with ho | ho
    · exact h.o1 c ho
    · have a1 := h.Mo.lt
      have a2 := h.T1.lt
      have a3 := h.T2.lt
      refine ⟨by omega, by omega, by omega, fun hb => ?_, fun hb => ?_, fun hb => ?_, fun j hj hb => ?_, by omega⟩
      · have := h.L1.lt hb; omega
      · have := h.L2.lt hb; omega
      · have := h.mn.lt (.inl hb); omega
      · have := h.mn.lt (.inr ⟨j, hj, hb⟩); omega
theorem LI.same (h : LI lo w p m bt bu O v u mv ns r e q n f) (k : Fr (fun _ => False) w w') : LI lo w' p m bt bu O v u mv ns r e q n f :=
  ⟨h.R.frame k (fun _ _ h => h), h.Mo.frame k (fun h => h), h.T1.frame k (fun h => h), h.T2.frame k (fun h => h), h.L1.frame k (fun _ _ h => h), h.L2.frame k (fun _ _ h => h), h.le, h.mn.frame k (fun _ _ h => h), h.o1, h.v1, h.m1, h.f1, h.b1⟩
/-- The old tree is stamped and laid behind the others; the new trees take its place. -/
theorem LI.next {w2 w3 w9 : World} {v' u' mv' : Value} {ns' : List Nd} {r' e' q' : Int} {n' N0 : Nat} {f' : Nat → Value} (h : LI lo w p m bt bu O v u mv ns r e q n f) (_hS : NLV w2 v (List.replicate ns.length stNd)) (k2 : Fr (isBlk v) w w2) (hK : KeepR w2 mv v n f mv' n' f' w3)
    (k9 : Fr (fun c => c = bt ∨ c = bu) w3 w9) (T1 : Blk w9 bt 4 (trC v' r' e' q')) (T2 : Blk w9 bu 4 (trC u' r' e' q')) (L1 : NLV w v' ns') (L2 : NLV w u' ns') (le' : ns'.length ≤ 200) (hlo : lo ≤ N0) (hN : N0 ≤ w.heap.size)
    (hold : m < N0 ∧ bt < N0 ∧ bu < N0 ∧ (∀ c, isBlk v c → c < N0) ∧ (∀ c, isBlk mv c → c < N0) ∧ ∀ j, j < n → ∀ c, isBlk (f j) c → c < N0) (hv : ∀ c, isBlk v' c → N0 ≤ c ∧ ¬ O c) (hu : ∀ c, isBlk u' c → N0 ≤ c ∧ ¬ O c) :
    LI lo w9 p m bt bu O v' u' mv' ns' r' e' q' n' f' ∧ Fr (fun c => lo ≤ c) w w9 := by
  obtain ⟨g1, g2, g3, g4, g5, g6⟩ := hold
  have s2 := k2.size
  have s3 := hK.fr.size
  have hb9 : ∀ c, c = bt ∨ c = bu → c < N0 := fun c hc => by omega
  have lv' : ∀ c, isBlk v' c → c < w.heap.size := fun c hc => L1.lt hc
  have lu' : ∀ c, isBlk u' c → c < w.heap.size := fun c hc => L2.lt hc
  have F : Fr (fun c => isBlk v c ∨ isBlk mv c ∨ c = bt ∨ c = bu) w w9 := ((k2.mono (S' := fun c => isBlk v c ∨ isBlk mv c ∨ c = bt ∨ c = bu) (fun _ _ h => .inl h)).trans hK.fr (fun _ _ h => .inr (.inl h))).trans k9 (fun _ _ h => .inr (.inr h))
  have hf' : ∀ j, j < n' → ∀ c, isBlk (f' j) c → c < N0 ∧ c ≠ bt ∧ c ≠ bu ∧ ¬ isBlk mv c := fun j hj c hc => by
    rcases hK.of j hj with e1 | ⟨i, hi, e1⟩
    · rw [e1] at hc
      exact ⟨g4 c hc, (h.v1 c hc).2.1, (h.v1 c hc).2.2.1, (h.v1 c hc).2.2.2.1⟩
    · rw [e1] at hc
      exact ⟨g6 i hi c hc, (h.f1 i hi c hc).1, (h.f1 i hi c hc).2, fun hm => (h.m1 c hm).2.2.2.1 i hi hc⟩
  have hof : ∀ j, j < n' → ∀ c, isBlk (f' j) c → ¬ O c := fun j hj c hc ho => by
    rcases hK.of j hj with e1 | ⟨i, hi, e1⟩
    · rw [e1] at hc; exact (h.o1 c ho).2.2.2.1 hc
    · rw [e1] at hc; exact (h.o1 c ho).2.2.2.2.2.2.1 i hi hc
  refine ⟨⟨h.R.frame F (fun c ho hc => ?_), h.Mo.frame F (fun hc => ?_), T1, T2, L1.frame F (fun c hc hh => ?_), L2.frame F (fun c hc hh => ?_), le', hK.mn.frame k9 (fun c hc hh => ?_), fun c ho => ?_, fun c hc => ?_, fun c hc => ?_, fun j hj c hc => ⟨(hf' j hj c hc).2.1, (hf' j hj c hc).2.2.1⟩, h.b1⟩, F.mono (fun c _ hc => ?_)⟩
  · obtain ⟨a1, a2, a3, a4, a5, a6, a7, a8⟩ := h.o1 c ho
    rcases hc with hc | hc | hc | hc
    · exact a4 hc
    · exact a6 hc
    · exact a2 hc
    · exact a3 hc
  · rcases hc with hc | hc | hc | hc
    · exact (h.v1 m hc).1 rfl
    · exact (h.m1 m hc).1 rfl
    · exact h.b1.2.1 hc.symm
    · exact h.b1.2.2.1 hc.symm
  · have := (hv c hc).1
    rcases hh with hh | hh | hh | hh
    · have := g4 c hh; omega
    · have := g5 c hh; omega
    · omega
    · omega
  · have := (hu c hc).1
    rcases hh with hh | hh | hh | hh
    · have := g4 c hh; omega
    · have := g5 c hh; omega
    · omega
    · omega
  · rcases hc with hc | ⟨j, hj, hc⟩
    · rcases hK.bk c hc with h4 | h4
      · have := hb9 c hh; omega
      · have := h.m1 c h4
        rcases hh with hh | hh
        · exact this.2.1 hh
        · exact this.2.2.1 hh
    · have := hf' j hj c hc
      rcases hh with hh | hh
      · exact this.2.1 hh
      · exact this.2.2.1 hh
  · obtain ⟨a1, a2, a3, a4, a5, a6, a7, a8⟩ := h.o1 c ho
    have hcl := h.R.lt ho
    refine ⟨a1, a2, a3, fun hc => (hv c hc).2 ho, fun hc => (hu c hc).2 ho, fun hc => ?_, fun j hj hc => hof j hj c hc ho, a8⟩
    rcases hK.bk c hc with h4 | h4
    · omega
    · exact a6 h4
  · have h1 := hv c hc
    have h2 := lv' c hc
    refine ⟨by omega, by omega, by omega, fun hc2 => ?_, fun j hj hc2 => ?_, by omega⟩
    · rcases hK.bk c hc2 with h4 | h4
      · omega
      · have := g5 c h4; omega
    · have := (hf' j hj c hc2).1; omega
  · rcases hK.bk c hc with h4 | h4
    · refine ⟨by omega, by omega, by omega, fun j hj hc2 => ?_, by omega⟩
      have := (hf' j hj c hc2).1; omega
    · obtain ⟨a1, a2, a3, a4, a5⟩ := h.m1 c h4
      exact ⟨a1, a2, a3, fun j hj hc2 => (hf' j hj c hc2).2.2.2 h4, a5⟩
  · rcases hc with hc | hc | rfl | rfl
    · exact (h.v1 c hc).2.2.2.2.2
    · exact (h.m1 c hc).2.2.2.2
    · exact h.b1.2.2.2.1
    · exact h.b1.2.2.2.2
theorem LI.old (h : LI lo w p m bt bu O v u mv ns r e q n f) : m < w.heap.size ∧ bt < w.heap.size ∧ bu < w.heap.size ∧ (∀ c, isBlk v c → c < w.heap.size) ∧ (∀ c, isBlk mv c → c < w.heap.size) ∧ ∀ j, j < n → ∀ c, isBlk (f j) c → c < w.heap.size :=
  ⟨h.Mo.lt, h.T1.lt, h.T2.lt, fun _ hc => h.L1.lt hc, fun _ hc => h.mn.lt (.inl hc), fun j hj _ hc => h.mn.lt (.inr ⟨j, hj, hc⟩)⟩
theorem LI.cells (h : LI lo w p m bt bu O v u mv ns r e q n f) : w.cell? ⟨bt, 0, none⟩ = some v ∧ w.cell? ⟨bt, 1, none⟩ = some (.int .i64 r) ∧ w.cell? ⟨bt, 2, none⟩ = some (.int .i64 e) ∧ w.cell? ⟨bt, 3, none⟩ = some (.int .i64 q) ∧ w.cell? ⟨bu, 0, none⟩ = some u ∧ w.cell? ⟨bu, 1, none⟩ = some (.int .i64 r) ∧ w.cell? ⟨bu, 2, none⟩ = some (.int .i64 e) ∧ w.cell? ⟨bu, 3, none⟩ = some (.int .i64 q) ∧ bt < w.heap.size ∧ bu < w.heap.size ∧ bt ≠ bu :=
  ⟨h.T1.cell (by omega), h.T1.cell (by omega), h.T1.cell (by omega), h.T1.cell (by omega), h.T2.cell (by omega), h.T2.cell (by omega), h.T2.cell (by omega), h.T2.cell (by omega), h.T1.lt, h.T2.lt, h.b1.1⟩
end
end Go.Proofs.Qxb6500280a
