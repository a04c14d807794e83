/- An array of integers equals itself. -/
import Derived.Test.Qxb6500283aGreatBase
namespace Go.Proofs.Qxb6500283aGreat
open Go Go.RowKit
theorem part_ok {P : Program} {t : TypeId} {k : IntKind} (h : P.underlying t = some (.int k)) {cs : Array Value} {o : Nat} {v : Value} (hv : cs[o]? = some v) (w : World) : (part t cs o).run P w = .ok v w := by
  simp [part, isAgg, run_underlying h, hv]
theorem forIn_yield {P : Program} {β : Type} {f : Nat → β → Sem (ForInStep β)} {s0 : β} : ∀ (l : List Nat) (w : World), (∀ i ∈ l, ∀ w, (f i s0).run P w = .ok (.yield s0) w) → (forIn l s0 f).run P w = .ok s0 w
  | [], w, _ => by simp
  | a :: l, w, h => by
    rw [List.forIn_cons, Sem.run_bind, h a (by simp) w, Result.andThen_ok]
    exact forIn_yield l w fun i hi => h i (by simp [hi])
theorem run_equalArr {P : Program} (d : Nat) (t e : TypeId) (n : Nat) (k : IntKind) (ht : P.underlying t = some (.array n e)) (hs : (P.info? e).map (·.size) = some 1) (he : P.underlying e = some (.int k)) (xs : Array Value)
    (hx : ∀ i, i < n → ∃ v : Int, xs[i]? = some (.int k v)) (w : World) : (Op.equalIn (d + 1 + 1) t (.agg xs) (.agg xs)).run P w = .ok true w := by
  have hsz : ∀ w, (sizeOf e).run P w = .ok 1 w := fun w => by
    cases hi : P.info? e with
    | none => rw [hi] at hs; cases hs
    | some i =>
      have : i.size = 1 := by simpa [hi] using hs
      simp [sizeOf, typeInfo, hi, this]
  unfold Op.equalIn
  simp only [Sem.run_bind, run_underlying ht, Result.andThen_ok, hsz]
  simp only [Std.Legacy.Range.forIn_eq_forIn_range']
  rw [forIn_yield]
  · simp
  · intro i hi w
    have hi' : i < n := by
      simp [Std.Legacy.Range.size] at hi
      omega
    obtain ⟨v, hv⟩ := hx i hi'
    have hv' : xs[i * 1]? = some (.int k v) := by rw [Nat.mul_one]; exact hv
    simp [part_ok he hv, run_equalIn_int _ _ _ _ _ _ _ he]
end Go.Proofs.Qxb6500283aGreat
