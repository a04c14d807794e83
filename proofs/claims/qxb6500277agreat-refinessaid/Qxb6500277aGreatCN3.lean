/- A tree has at most 200 nodes. -/
import Derived.Test.Qxb6500277aGreatCN2
namespace Go.Proofs.Qxb6500277aGreat
open Go Go.RowKit

def Ln2 (ns : List Nd) : Prop := ns.length ≤ 200
def SafL : Mo → Prop
  | .ret (.bad ..) => True
  | .ret (.ok _ _ ns) => Ln2 ns
  | .call _ _ ns k => Ln2 ns ∧ ∀ x j ms, Ln2 ms → SafL (k x j ms)
section
variable {T : List Tok} {i : Nat} {ns : List Nd}
theorem safl_bad (e p : Int) : SafL (.ret (.bad e p)) := by simp [SafL]
theorem safl_fin (x : Int) (h : Ln2 ns) : SafL (fin x i ns) := by unfold fin; simpa [SafL] using h
theorem safl_call {q : Rq} {k : Int → Nat → List Nd → Mo} (h : Ln2 ns) (hk : ∀ x j ms, Ln2 ms → SafL (k x j ms)) : SafL (.call q i ns k) := by simp only [SafL]; exact ⟨h, hk⟩
theorem safl_put {nd : Nd} {k : Int → Nat → List Nd → Mo} (hk : ∀ x j ms, Ln2 ms → SafL (k x j ms)) : SafL (put nd i ns k) := by
  unfold put
  split
  · exact safl_bad _ _
  · exact hk _ _ _ (by show (ns ++ [nd]).length ≤ 200; simp; omega)
theorem safl_wnt {k : Int} {f : Nat → Mo} (h : ∀ j, SafL (f j)) : SafL (wnt T k i f) := by
  unfold wnt
  split
  · exact h _
  · exact safl_bad _ _
theorem safl_ent {d : Nat} {m : Mo} (h : SafL m) : SafL (ent T d i m) := by
  unfold ent
  split
  · exact safl_bad _ _
  · exact h
theorem safl_tyO {f : Nat → Nat → Mo} (h : ∀ l j, SafL (f l j)) : ∀ (l i : Nat), SafL (tyO T l i f)
  | 0, i => by
    unfold tyO
    split
    · exact safl_bad _ _
    · exact h _ _
  | l + 1, i => by
    unfold tyO
    split
    · exact safl_tyO h l _
    · exact h _ _
theorem safl_tyC {f : Nat → Mo} (h : ∀ j, SafL (f j)) : ∀ (l i : Nat), SafL (tyC T l i f)
  | 0, i => by unfold tyC; exact h _
  | l + 1, i => by unfold tyC; exact safl_wnt fun j => safl_tyC h l j
theorem safl_typ {f : Int → Nat → Mo} (h : ∀ t j, SafL (f t j)) : SafL (typ T i f) := by
  unfold typ
  refine safl_tyO (fun l j => ?_) _ _
  split
  · exact safl_tyC (h _) _ _
  · split
    · exact safl_tyC (h _) _ _
    · exact safl_bad _ _
theorem safl_com {first : Int} {f : Nat → Mo} (h : ∀ j, SafL (f j)) : SafL (com T first i f) := by
  unfold com
  split
  · exact safl_wnt h
  · exact h _
theorem Ln2.set (h : Ln2 ns) (k : Nat) (x : Int) : Ln2 (setNx ns k x) := by unfold Ln2 at h ⊢; unfold setNx; simpa using h
theorem safl_lnk {first last x : Int} {k : Int → List Nd → Mo} (h : Ln2 ns) (hk : ∀ x ms, Ln2 ms → SafL (k x ms)) : SafL (lnk ns first last x k) := by
  unfold lnk
  split
  · exact hk _ _ h
  · exact hk _ _ (h.set _ _)
theorem safl_ite {p : Prop} [Decidable p] {a b : Mo} (ha : SafL a) (hb : SafL b) : SafL (if p then a else b) := by split <;> assumption
theorem safl_body (q : Rq) (i : Nat) (ns : List Nd) (h : Ln2 ns) : SafL (body T q i ns) := by
  cases q <;> simp only [body]
  all_goals
    repeat (first
      | assumption
      | exact safl_bad _ _
      | exact fun x j ms hm => safl_fin _ hm
      | exact safl_fin _ (by assumption)
      | refine safl_call (by assumption) (fun _ _ _ _ => ?_)
      | refine safl_put (fun _ _ _ _ => ?_)
      | refine safl_wnt (fun _ => ?_)
      | refine safl_ent ?_
      | refine safl_typ (fun _ _ => ?_)
      | refine safl_com (fun _ => ?_)
      | refine safl_lnk (by assumption) (fun _ _ _ => ?_)
      | refine safl_ite ?_ ?_)
theorem safl_run : ∀ (n : Nat) (m : Mo) (x : Int) (j : Nat) (ms : List Nd), SafL m → run T n m = .ok x j ms → Ln2 ms
  | 0, .ret r, x, j, ms, hs, h => by
    simp only [run] at h; subst h; simpa [SafL] using hs
  | n + 1, .ret r, x, j, ms, hs, h => by
    simp only [run] at h; subst h; simpa [SafL] using hs
  | 0, .call .., x, j, ms, hs, h => by simp [run] at h
  | n + 1, .call q i ns k, x, j, ms, hs, h => by
    simp only [SafL] at hs
    simp only [run] at h
    cases hr : run T n (body T q i ns) with
    | bad e p => rw [hr] at h; cases h
    | ok y j' ms' =>
      rw [hr] at h
      exact safl_run n _ _ _ _ (hs.2 _ _ _ (safl_run n _ _ _ _ (safl_body q i ns hs.1) hr)) h
theorem nodes200 {x : Int} {j : Nat} {ms : List Nd} {q : Rq} (h : EvM T (body T q 0 []) (.ok x j ms)) : Ln2 ms := by
  obtain ⟨N, h⟩ := h
  exact safl_run N _ _ _ _ (safl_body q 0 [] (Nat.zero_le 200)) (h N (Nat.le_refl _))
end
theorem ans_len {src : ByteArray} {ns : List Nd} {root err pos : Int} (h : Ans src ns root err pos) : ns.length ≤ 200 := by
  rcases h with ⟨h0, rfl, rfl, rfl, rfl⟩ | ⟨h0, ⟨a, b, rfl, rfl⟩ | ⟨j, a, rfl, rfl⟩⟩
  · simp
  · simp
  · exact nodes200 a
end Go.Proofs.Qxb6500277aGreat
