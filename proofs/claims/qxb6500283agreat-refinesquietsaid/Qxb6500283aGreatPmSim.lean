import Derived.Test.Qxb6500283aGreatPmClo2
import Derived.Test.Qxb6500283aGreatPmPikeT
import Derived.Test.Qxb6500283aGreatPmWSearch
namespace Go.Proofs.Qxb6500283aGreat
open Go Go.RowKit

/-- Eight cells, the rest -1. -/
def nm (r : Nat → Int) : Nat → Int := fun j => if j < 8 then r j else -1
def Norm (c : Nat → Int) : Prop := ∀ j, 8 ≤ j → c j = -1
theorem nm_norm (r : Nat → Int) : Norm (nm r) := fun j hj => by simp [nm, show ¬ j < 8 by omega]
theorem nm_upd (r : Nat → Int) (k : Nat) (v : Int) (hk : k < 8) : nm (upd r k v) = upd (nm r) k v := by
  funext j
  simp only [nm, upd]
  by_cases h : j = k
  · subst h; simp [hk]
  · simp [h]
theorem nm_eq {r c : Nat → Int} (hc : Norm c) (h : ∀ j, j < 8 → r j = c j) : nm r = c := by
  funext j
  simp only [nm]
  split
  · rename_i hj; exact h j hj
  · rename_i hj; rw [hc j (by omega)]
/-- The stack's threads, each with the registers that it will find. -/
def absSt (k : Nat → Int) : Nat → (Nat → Int) → List (Nat × (Nat → Int))
  | 0, _ => []
  | j + 1, r => if k (j * 3 + 1) ≠ -1 then absSt k j (upd r (k (j * 3 + 1)).toNat (k (j * 3 + 2))) else ((k (j * 3)).toNat, nm r) :: absSt k j r
theorem absSt_congr : ∀ (j : Nat) (k k' r : Nat → Int), (∀ o, o < j * 3 → k' o = k o) → absSt k' j r = absSt k j r
  | 0, _, _, _, _ => rfl
  | j + 1, k, k', r, h => by
    simp only [absSt, h (j * 3) (by omega), h (j * 3 + 1) (by omega), h (j * 3 + 2) (by omega)]
    rw [absSt_congr j k k' _ (fun o ho => h o (by omega)), absSt_congr j k k' r (fun o ho => h o (by omega))]
theorem absSt_push (k r : Nat → Int) (sp : Nat) (a b c : Int) : absSt (pushK k sp a b c) (sp + 1) r = if b ≠ -1 then absSt k sp (upd r b.toNat c) else (a.toNat, nm r) :: absSt k sp r := by
  have h0 : pushK k sp a b c (sp * 3) = a := by simp [pushK, upd]
  have h1 : pushK k sp a b c (sp * 3 + 1) = b := by simp [pushK, upd]
  have h2 : pushK k sp a b c (sp * 3 + 2) = c := by simp [pushK, upd]
  have h3 : ∀ o, o < sp * 3 → pushK k sp a b c o = k o := fun o ho => by
    simp [pushK, upd, show o ≠ sp * 3 by omega, show o ≠ sp * 3 + 1 by omega, show o ≠ sp * 3 + 2 by omega]
  simp only [absSt, h0, h1, h2]
  rw [absSt_congr sp _ _ _ h3, absSt_congr sp _ _ _ h3]
theorem upd_back (r : Nat → Int) (k : Nat) (v : Int) : upd (upd r k v) k (r k) = r := by
  funext j; simp only [upd]; split
  · subst_vars; rfl
  · rfl
end Go.Proofs.Qxb6500283aGreat
