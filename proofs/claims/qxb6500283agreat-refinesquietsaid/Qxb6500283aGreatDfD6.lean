import Derived.Test.Qxb6500283aGreatDfD5
import Derived.Test.Qxb6500283aGreatPkCode
namespace Go.Proofs.Qxb6500283aGreat
open Go Go.RowKit

theorem forIn_done {P : Program} {β : Type} {f : Nat → β → Sem (ForInStep β)} {s0 s1 : β} {c : Nat → Bool} : ∀ (l : List Nat) (w : World), (∀ i ∈ l, ∀ w, (f i s0).run P w = .ok (if c i then .yield s0 else .done s1) w) →
    (forIn l s0 f).run P w = .ok (if l.all c then s0 else s1) w
  | [], w, _ => by simp
  | a :: l, w, h => by
    rw [List.forIn_cons, Sem.run_bind, h a (by simp) w, Result.andThen_ok]
    cases hc : c a with
    | true =>
      simp only [if_true]
      rw [forIn_done (c := c) l w fun i hi => h i (by simp [hi])]
      simp [hc]
    | false => simp [hc]
theorem run_equalArr2 {P : Program} (d : Nat) (t e : TypeId) (n : Nat) (k : IntKind) (ht : P.underlying t = some (.array n e)) (hs : (P.info? e).map (·.size) = some 1) (he : P.underlying e = some (.int k)) (xs ys : Array Value) (f g : Nat → Int)
    (hx : ∀ i, i < n → xs[i]? = some (.int k (f i))) (hy : ∀ i, i < n → ys[i]? = some (.int k (g i))) (w : World) : (Op.equalIn (d + 1 + 1) t (.agg xs) (.agg ys)).run P w = .ok ((List.range n).all fun i => f i == g i) w := by
  have hsz : ∀ w, (sizeOf e).run P w = .ok 1 w := fun w => by
    cases hi : P.info? e with
    | none => rw [hi] at hs; cases hs
    | some i =>
      have : i.size = 1 := by simpa [hi] using hs
      simp [sizeOf, typeInfo, hi, this]
  unfold Op.equalIn
  simp only [Sem.run_bind, run_underlying ht, Result.andThen_ok, hsz]
  simp only [Std.Legacy.Range.forIn_eq_forIn_range']
  rw [forIn_done (s1 := (some false, PUnit.unit)) (c := fun i => f i == g i)]
  · have e : List.range' 0 ({ stop := n, step_pos := by decide } : Std.Legacy.Range).size 1 = List.range n := by simp [Std.Legacy.Range.size, List.range_eq_range']
    rw [e]
    cases (List.range n).all fun i => f i == g i <;> simp
  · intro i hi w
    have hi' : i < n := by
      simp [Std.Legacy.Range.size] at hi
      omega
    have hv := hx i hi'
    have hw := hy i hi'
    cases hc : f i == g i with
    | true => simp [part_ok he hv, part_ok he hw, run_equalIn_int _ _ _ _ _ _ _ he, hc]
    | false => simp [part_ok he hv, part_ok he hw, run_equalIn_int _ _ _ _ _ _ _ he, hc]

def sameW (i j : In) : Bool := (List.range 4).all fun k => word i.s0 i.s1 i.s2 i.s3 k == word j.s0 j.s1 j.s2 j.s3 k
def sameI (i j : In) : Bool := (i.op == j.op) && (i.x == j.x) && (i.y == j.y) && sameW i j
theorem sameI_iff (i j : In) : sameI i j = true ↔ i = j := by
  constructor
  · intro h
    simp only [sameI, Bool.and_eq_true, beq_iff_eq] at h
    obtain ⟨⟨⟨h1, h2⟩, h3⟩, h4⟩ := h
    simp [sameW, List.range, List.range.loop, word] at h4
    cases i; cases j
    simp_all
  · rintro rfl
    simp [sameI, sameW]
theorem eqSet2 (i j : In) (w : World) : (Op.equalIn 10000 95 (.agg #[.int .u64 i.s0, .int .u64 i.s1, .int .u64 i.s2, .int .u64 i.s3]) (.agg #[.int .u64 j.s0, .int .u64 j.s1, .int .u64 j.s2, .int .u64 j.s3])).run Tryz.prog w = .ok (sameW i j) w :=
  run_equalArr2 9998 95 93 4 .u64 Tryz.underlying95 (by kernel_rfl) Tryz.underlying93 _ _ _ _ (fun k hk => by simpa using word_get i.s0 i.s1 i.s2 i.s3 k hk) (fun k hk => by simpa using word_get j.s0 j.s1 j.s2 j.s3 k hk) w

set_option maxRecDepth 100000 in
set_option maxHeartbeats 1000000 in
theorem sameInst56 (i j : In) (w : World) : Calls Tryz.prog 149 #[inV i, inV j] w fun e w' => e = .returned (.bool (sameI i j)) ∧ Fr (fun _ => False) w w' := by
  have e1 := eqSet2 i j
  have e2 := eqg45
  unfold inV sameI
  by_cases h0 : i.op = j.op
  · rw [h0]
    by_cases h1 : i.x = j.x
    · rw [h1]
      by_cases h2 : i.y = j.y
      · rw [h2]
        cases hb : sameW i j with
        | true =>
          rw [hb] at e1
          simp only [beq_self_eq_true, Bool.and_self]
          clear h0 h1 h2 hb
          go_enter Tryz.func149, Tryz.ntmps149
          go_wp2_with fail
          go_ret
          exact ⟨rfl, ((Fr.refl _ _).alloc _).alloc _⟩
        | false =>
          rw [hb] at e1
          simp only [beq_self_eq_true, Bool.and_false]
          clear h0 h1 h2 hb
          go_enter Tryz.func149, Tryz.ntmps149
          go_wp2_with fail
          go_ret
          exact ⟨rfl, ((Fr.refl _ _).alloc _).alloc _⟩
      · have t : (i.y == j.y) = false := by simpa using h2
        rw [t]
        simp only [beq_self_eq_true, Bool.and_false, Bool.false_and]
        clear h0 h1 h2
        go_enter Tryz.func149, Tryz.ntmps149
        go_wp2_with fail
        go_ret
        exact ⟨rfl, ((Fr.refl _ _).alloc _).alloc _⟩
    · have t : (i.x == j.x) = false := by simpa using h1
      rw [t]
      simp only [Bool.and_false, Bool.false_and]
      clear h0 h1
      go_enter Tryz.func149, Tryz.ntmps149
      go_wp2_with fail
      go_ret
      exact ⟨rfl, ((Fr.refl _ _).alloc _).alloc _⟩
  · have t : (i.op == j.op) = false := by simpa using h0
    rw [t]
    simp only [Bool.false_and]
    clear h0
    go_enter Tryz.func149, Tryz.ntmps149
    go_wp2_with fail
    go_ret
    exact ⟨rfl, ((Fr.refl _ _).alloc _).alloc _⟩

end Go.Proofs.Qxb6500283aGreat
