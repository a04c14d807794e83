/- The gauges' laws: Look, Bounded, Held. -/
import Derived.Test.Qxb6500282aF18
namespace Go.Proofs.Qxb6500282a
open Go Go.RowKit

def gV (u b f k : Nat) : Value := .agg #[.int .i64 u, .int .i64 b, .int .i64 f, .int .i64 k]
set_option maxRecDepth 100000 in
set_option maxHeartbeats 1000000 in
theorem look_any {w : World} {x : Nat} {kv : Value} {s : DS} (h : Mach w x kv s) : Calls Try.prog 12 #[.pointer (some ⟨x, 0, none⟩)] w fun e w' => e = .returned (gV s.used s.built s.flushes s.worked) ∧ Fr (fun _ => False) w w' := by
  unfold gV
  have fa := (Fr.refl (fun _ => False) w).alloc (.cells #[.int .i64 0, .int .i64 0, .int .i64 0, .int .i64 0] 38)
  have h1 := h.frame fa (fun _ _ h => h)
  go_enter Try.func12, Try.ntmps12
  go_wp2_with fail
  refine (states_any h1).mono ?_
  rintro e w1 ⟨rfl, rfl⟩
  go_wp2_with fail
  refine (built_any h1).mono ?_
  rintro e w1 ⟨rfl, rfl⟩
  go_wp2_with fail
  refine (flushes_any h1).mono ?_
  rintro e w1 ⟨rfl, rfl⟩
  go_wp2_with fail
  refine (worked_any h1).mono ?_
  rintro e w1 ⟨rfl, rfl⟩
  go_wp2_with fail
  exact bodyPost_ret (v := .agg #[.int .i64 s.used, .int .i64 s.built, .int .i64 s.flushes, .int .i64 s.worked]) (by simp [results, Try.results12, go_sem]) rfl ⟨rfl, (Fr.refl _ _).alloc _⟩
set_option maxRecDepth 100000 in
set_option maxHeartbeats 1000000 in
theorem bounded_any (u b f k : Nat) (h1 : u ≤ 6) (h2 : u ≤ b) (w : World) : Calls Try.prog 23 #[gV u b f k] w fun e w' => e = .returned (.bool true) ∧ Fr (fun _ => False) w w' := by
  unfold gV
  have t1 : (0 : Int) ≤ u := by omega
  have t2 : (u : Int) ≤ 6 := by omega
  have t3 : (u : Int) ≤ b := by omega
  go_enter Try.func23, Try.ntmps23
  go_wp2_with fail
  go_ret
  exact ⟨rfl, (Fr.refl _ _).alloc _⟩
end Go.Proofs.Qxb6500282a
