/- NoCaps, Refused, Nothing, Has. -/
import Derived.Test.Qxb6500283aGreatX1
namespace Go.Proofs.Qxb6500283aGreat
open Go Go.RowKit

def noC : Cp := fun _ => -1
theorem capV_no : capV noC = .agg #[.int .i64 (-1), .int .i64 (-1), .int .i64 (-1), .int .i64 (-1), .int .i64 (-1), .int .i64 (-1), .int .i64 (-1), .int .i64 (-1)] := rfl
set_option maxHeartbeats 1000000 in
theorem nocaps_any (w : World) : Calls Tryz.prog 53 #[] w fun e w' => e = .returned (capV noC) ∧ Fr (fun _ => False) w w' := by
  go_enter Tryz.func53, Tryz.ntmps53
  go_wp2
  refine wp_loop_rounds 9 ?_
  repeat any_goals (rw [rounds_succ]; go_wp2)
  exact bodyPost_ret (v := capV noC) (by simp [results, Tryz.results53, go_sem, capV_no]) rfl ⟨rfl, ((Fr.refl _ _).alloc _).alloc _⟩
def foundV (err pos : Int) (ok : Bool) (c : Cp) : Value :=
  .agg #[.int .i64 err, .int .i64 pos, .bool ok, .int .i64 (c 0), .int .i64 (c 1), .int .i64 (c 2), .int .i64 (c 3), .int .i64 (c 4), .int .i64 (c 5), .int .i64 (c 6), .int .i64 (c 7)]
theorem foundV_no (err pos : Int) (ok : Bool) : foundV err pos ok noC = .agg #[.int .i64 err, .int .i64 pos, .bool ok, .int .i64 (-1), .int .i64 (-1), .int .i64 (-1), .int .i64 (-1), .int .i64 (-1), .int .i64 (-1), .int .i64 (-1), .int .i64 (-1)] := rfl
set_option maxHeartbeats 1000000 in
theorem refusedF_any (err pos : Int) (w : World) : Calls Tryz.prog 39 #[.int .i64 err, .int .i64 pos] w fun e w' => e = .returned (foundV err pos false noC) ∧ Fr (fun _ => False) w w' := by
  go_enter Tryz.func39, Tryz.ntmps39
  go_wp2_with fail
  refine (nocaps_any _).mono ?_
  rintro e w1 ⟨rfl, f1⟩
  have hc := f1.newCell (by simp)
  have hf := f1.newFrozen (by simp)
  rw [capV_no]
  go_wp2_with fail
  refine bodyPost_ret (v := foundV err pos false noC) (by simp [results, Tryz.results39, go_sem, hc, foundV_no]) rfl ⟨rfl, ?_⟩
  repeat' refine Fr.setNew ?_ (Nat.le_refl _)
  exact ((Fr.refl _ _).alloc _).trans f1 (fun _ _ h => h)
set_option maxHeartbeats 1000000 in
theorem nothing_any (w : World) : Calls Tryz.prog 73 #[] w fun e w' => e = .returned (foundV 0 0 false noC) ∧ Fr (fun _ => False) w w' := by
  go_enter Tryz.func73, Tryz.ntmps73
  go_wp2_with fail
  refine (nocaps_any _).mono ?_
  rintro e w1 ⟨rfl, f1⟩
  have hc := f1.newCell (by simp)
  have hf := f1.newFrozen (by simp)
  rw [capV_no]
  go_wp2_with fail
  refine bodyPost_ret (v := foundV 0 0 false noC) (by simp [results, Tryz.results73, go_sem, hc, foundV_no]) rfl ⟨rfl, ?_⟩
  repeat' refine Fr.setNew ?_ (Nat.le_refl _)
  exact ((Fr.refl _ _).alloc _).trans f1 (fun _ _ h => h)
theorem and63u : ∀ m : Fin 256, bits BinOp.and IntKind.u8 (m.val : Int) 63 = ((m.val % 64 : Nat) : Int) := by decide +kernel
theorem word4 (P : BSet) (k : Nat) (h : k < 4) : [Value.int .u64 (wd P 0 : Nat), .int .u64 (wd P 1 : Nat), .int .u64 (wd P 2 : Nat), .int .u64 (wd P 3 : Nat)][k]? = some (.int .u64 (wd P k : Nat)) := by
  obtain rfl | rfl | rfl | rfl : k = 0 ∨ k = 1 ∨ k = 2 ∨ k = 3 := by omega
  all_goals rfl
theorem has_bit (P : BSet) (c : Nat) : bits BinOp.and IntKind.u64 ((wd P (c / 64) : Int) / 2 ^ (c % 64)) 1 = if P c then 1 else 0 := by
  have h1 : ((wd P (c / 64) : Int) / 2 ^ (c % 64)) = ((wd P (c / 64) / 2 ^ (c % 64) : Nat) : Int) := by simp
  have hl : wd P (c / 64) / 2 ^ (c % 64) < 18446744073709551616 := Nat.lt_of_le_of_lt (Nat.div_le_self _ _) (wd_lt _ _)
  have h2 := bits_and_u64_nat (wd P (c / 64) / 2 ^ (c % 64)) 1 hl (by omega)
  rw [h1]
  rw [show ((1 : Nat) : Int) = 1 from rfl] at h2
  rw [h2, Nat.and_one_is_mod, wd_has]
  split <;> rfl
set_option maxHeartbeats 1000000 in
theorem has_any (P : BSet) (c : Nat) (hc : c < 256) (w : World) : Calls Tryz.prog 94 #[setV P, .int .u8 (c : Nat)] w fun e w' => e = .returned (.bool (P c)) ∧ Fr (fun _ => False) w w' := by
  have hg := word4 P (c / 64) (by omega)
  have h63 := and63u ⟨c, hc⟩
  simp only at h63
  have hb0 := has_bit P c
  unfold setV
  cases hp : P c with
  | true =>
    have hb : bits BinOp.and IntKind.u64 ((wd P (c / 64) : Int) / 2 ^ (c % 64)) 1 = 1 := by rw [hb0, hp]; rfl
    clear hb0
    go_enter Tryz.func94, Tryz.ntmps94
    go_wp2_with fail
    go_ret
    exact ⟨rfl, (Fr.refl _ _).alloc _⟩
  | false =>
    have hb : bits BinOp.and IntKind.u64 ((wd P (c / 64) : Int) / 2 ^ (c % 64)) 1 = 0 := by rw [hb0, hp]; rfl
    clear hb0
    go_enter Tryz.func94, Tryz.ntmps94
    go_wp2_with fail
    go_ret
    exact ⟨rfl, (Fr.refl _ _).alloc _⟩
end Go.Proofs.Qxb6500283aGreat
