/- The lock-step machine under the engine. -/
import Derived.Test.Qxb6500283aGreatPmSim7
import Derived.Test.Qxb6500283aGreatY1
import Derived.Test.Qxb6500283aGreatPmWNew
namespace Go.Proofs.Qxb6500283aGreat
open Go Go.RowKit

theorem progOK_of {p : List In} (h : OkProg p) : progOK p = true := (progOK_iff p).2 h
theorem CInv.zero {s : PS} (h : CInv s) : CInv { s with f := upd s.f 265 0 } :=
  ⟨h.l0.congr (by omega) (fun o h1 h2 => by simp [upd, show o ≠ 265 by omega]), h.l1.congr (by omega) (fun o h1 h2 => by simp [upd, show o ≠ 265 by omega]), by simp [upd, h.sp], by simp [upd]⟩
theorem searchE_any {w : World} {x : Nat} {s : PS} (h : PRep w x s) (hC : CInv s) (p : List In) (pb cap : Nat) (hok : OkProg p) (hp : PAt w pb p) (hpb : ¬ pOwn x pb) (str : ByteArray) (hsz : str.size ≤ 256) (fr : Int) (f : Wf) (hf : ∀ m a : Nat, a + m ≤ str.size + 1 → runFrom p str m a = leftG f m a) :
    Calls Tryz.prog 56 #[.pointer (some ⟨x, 0, none⟩), .slice (some ⟨pb, 0, none⟩) p.length cap, .string str, .int .i64 fr] w fun e w' =>
      e = .returned (foundV (lfE str fr) 0 (okOf (lfO str fr f)) (cpOf (lfO str fr f))) ∧ (∃ s', PRep w' x s' ∧ CInv s') ∧ Fr (pOwn x) w w' := by
  have h0 : ¬ 256 < str.size := by omega
  unfold lfE lfO
  rw [if_neg h0, if_neg h0]
  by_cases hr : fr < 0 ∨ (str.size : Int) < fr
  · rw [if_pos hr, if_pos hr]
    refine (search_range h p pb cap hp hpb (by have := hok.max; omega) str fr hsz (progOK_of hok) hr).mono ?_
    rintro e w' ⟨rfl, h1, f1⟩
    exact ⟨rfl, ⟨_, h1, hC.zero⟩, f1⟩
  · rw [if_neg hr, if_neg hr]
    obtain ⟨n, rfl⟩ : ∃ n : Nat, fr = n := ⟨fr.toNat, by omega⟩
    obtain ⟨p1, p2, p3, _⟩ := plain p str n s hok hsz (by omega) hC
    refine (search_main h hC p pb cap hok hp hpb str hsz n (by omega)).mono ?_
    rintro e w' ⟨rfl, h1, f1⟩
    refine ⟨?_, ⟨_, h1, p3⟩, f1⟩
    rw [Int.toNat_natCast, ← hf (str.size + 1 - n) n (by omega)]
    have e1 : runFrom p str (str.size + 1 - n) n = runS p str n := rfl
    rw [e1, p1]
    have q : ∀ j, j < 8 → capsOf (scanS p str n s) j = cpOf (runS p str n) j := fun j hj => by
      rw [p2 j hj]
      cases runS p str n <;> rfl
    have e2 : (runS p str n).isSome = okOf (runS p str n) := by cases runS p str n <;> rfl
    rw [e2]
    unfold foundK foundV
    rw [q 0 (by omega), q 1 (by omega), q 2 (by omega), q 3 (by omega), q 4 (by omega), q 5 (by omega), q 6 (by omega), q 7 (by omega)]
end Go.Proofs.Qxb6500283aGreat
