import Derived.Test.Qxb6500283aGreatSyn
import Derived.Test.Qxb6500283aGreatPkIn
namespace Go.Proofs.Qxb6500283aGreat
open Go Go.RowKit

def word (v0 v1 v2 v3 : Int) (k : Nat) : Int :=
  match k with
  | 0 => v0
  | 1 => v1
  | 2 => v2
  | _ => v3
theorem word_get (v0 v1 v2 v3 : Int) (k : Nat) (h : k < 4) : [Value.int .u64 v0, .int .u64 v1, .int .u64 v2, .int .u64 v3][k]? = some (.int .u64 (word v0 v1 v2 v3 k)) := by
  match k, h with
  | 0, _ => rfl
  | 1, _ => rfl
  | 2, _ => rfl
  | 3, _ => rfl
def hasB (v0 v1 v2 v3 : Int) (c : Nat) : Bool := bits BinOp.and IntKind.u64 (word v0 v1 v2 v3 (c / 64) / 2 ^ (c % 64)) 1 == 1
set_option maxHeartbeats 400000 in
theorem has_set (v0 v1 v2 v3 : Int) (c : Nat) (hc : c < 256) (w : World) :
    Calls Tryz.prog 94 #[.agg #[.int .u64 v0, .int .u64 v1, .int .u64 v2, .int .u64 v3], .int .u8 c] w fun e w' => e = .returned (.bool (hasB v0 v1 v2 v3 c)) ∧ Fr (fun _ => False) w w' := by
  have hg := word_get v0 v1 v2 v3 (c / 64) (by omega)
  go_enter Tryz.func94, Tryz.ntmps94
  go_wp2
  go_ret
  exact ⟨rfl, (Fr.refl _ _).alloc _⟩
end Go.Proofs.Qxb6500283aGreat
