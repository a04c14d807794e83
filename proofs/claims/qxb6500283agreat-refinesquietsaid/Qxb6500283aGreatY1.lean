/- Leftmost, whole. -/
import Derived.Test.Qxb6500283aGreatX8
namespace Go.Proofs.Qxb6500283aGreat
open Go Go.RowKit

def lfE (s : ByteArray) (fr : Int) : Int := if 256 < s.size then 12 else if fr < 0 ∨ (s.size : Int) < fr then 10 else 0
def lfO (s : ByteArray) (fr : Int) (f : Wf) : Option Cp := if 256 < s.size then none else if fr < 0 ∨ (s.size : Int) < fr then none else leftG f (s.size + 1 - fr.toNat) fr.toNat
theorem left_any {ns : List Nd} {bk cp y : Nat} {g : Int} {s : ByteArray} {w : World} {r : Rx} (hT : IsT ns y r) (hW : RxW r) (hN : NPAt w bk ns) (hbl : bk < w.heap.size) (fr : Int) :
    Calls Tryz.prog 67 #[.agg #[.slice (some ⟨bk, 0, none⟩) ns.length cp, .int .i64 (y : Nat), .int .i64 g, .int .i64 0, .int .i64 0], .string s, .int .i64 fr] w fun e w' => e = .returned (foundV (lfE s fr) 0 (okOf (lfO s fr (wy s r))) (cpOf (lfO s fr (wy s r)))) ∧ Fr (fun _ => False) w w' := by
  unfold lfE lfO
  by_cases h1 : 256 < s.size
  · rw [if_pos h1, if_pos h1]
    exact left_long h1 fr
  · rw [if_neg h1, if_neg h1]
    by_cases h2 : fr < 0 ∨ (s.size : Int) < fr
    · rw [if_pos h2, if_pos h2]
      exact left_range (by omega) fr h2
    · rw [if_neg h2, if_neg h2]
      obtain ⟨n, rfl⟩ : ∃ n : Nat, fr = n := ⟨fr.toNat, by omega⟩
      rw [Int.toNat_natCast]
      exact left_in (by omega) (wy_good s r) (ways_any (by omega) hT hW) hN hbl n (by omega)
theorem leftG_congr {n : Nat} {f f' : Wf} (h : EqF n f f') : ∀ m a, a + m ≤ n + 1 → leftG f m a = leftG f' m a
  | 0, _, _ => rfl
  | m + 1, a, ha => by
    have e : matchP f a = matchP f' a := by
      unfold matchP
      rw [h a noC (by omega)]
    simp only [leftG]
    rw [e, leftG_congr h m (a + 1) (by omega)]
theorem lfO_congr {s : ByteArray} {fr : Int} {f f' : Wf} (h : EqF s.size f f') : lfO s fr f = lfO s fr f' := by
  unfold lfO
  split
  · rfl
  · split
    · rfl
    · exact leftG_congr h _ _ (by omega)
end Go.Proofs.Qxb6500283aGreat
