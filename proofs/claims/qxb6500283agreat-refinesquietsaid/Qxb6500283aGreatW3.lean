/- options. -/
import Derived.Test.Qxb6500283aGreatW2
import Derived.Test.Qxb6500283aGreatS6
namespace Go.Proofs.Qxb6500283aGreat
open Go Go.RowKit

/-- A copy of a built run. -/
theorem copyF {w : World} {s x : Nat} {out : List Nd} {ws : List Tk} {rs : List Nat} {f : Run} (hf : Mv f) (hb : Bd f) (h : SM w s x out ws rs) (at_ : Nat) {to : Nat} (hto : to = at_ + (f 0).length) (hrun : (out.drop at_).take (f 0).length = f at_) (hle : at_ + (f 0).length ≤ out.length) (hcap : out.length + (f 0).length ≤ 31) :
    Calls Tryz.prog 147 #[.pointer (some ⟨s, 0, none⟩), .int .i64 (at_ : Nat), .int .i64 (to : Nat)] w fun v w' => v = .returned (.int .i64 ((out.length + (f 0).length - 1 : Nat) : Int)) ∧ SM w' s x (out ++ f out.length) ws rs ∧ Fr (fun b => SBld s b) w w' := by
  subst hto
  have hne := hf.ne
  refine (copyRun_any h at_ (at_ + (f 0).length) (by omega) hle (by omega) (fun i hi h1 h2 => ?_)).mono ?_
  · have hm : out[i] ∈ f at_ := by
      rw [← hrun]
      rw [List.mem_iff_getElem]
      refine ⟨i - at_, by simp; omega, ?_⟩
      simp
      congr 1
      omega
    have := hb at_ _ hm
    omega
  · rintro v w1 ⟨rfl, h1, f1⟩
    refine ⟨?_, ?_, f1⟩
    · congr 2
      omega
    · rw [show at_ + (f 0).length - at_ = (f 0).length by omega, hrun, ← hf.mv at_ (out.length - at_), show at_ + (out.length - at_) = out.length by omega] at h1
      exact h1
def cnt (used : Bool) (j : Nat) : Nat := if used then j else max 1 j
theorem drop_take_app {out more : List Nd} {a n : Nat} (h : a + n ≤ out.length) : ((out ++ more).drop a).take n = (out.drop a).take n := by
  rw [List.drop_append_of_le_length (by omega), List.take_append_of_le_length (by simp; omega)]
theorem segsW_pre (f : Run) (lz : Bool) : ∀ {c d : Nat}, c ≤ d → ∀ b, ∃ more, segsW f lz d b = segsW f lz c b ++ more := by
  intro c d h b
  induction d with
  | zero => obtain rfl : c = 0 := by omega
            exact ⟨[], by simp⟩
  | succ d ih =>
    by_cases he : c = d + 1
    · subst he; exact ⟨[], by simp⟩
    · obtain ⟨m, hm⟩ := ih (by omega)
      exact ⟨m ++ segW f lz (b + d * segN f lz), by rw [← List.append_assoc, ← hm]; rfl⟩
theorem Blk.three (w : World) : Blk (w.alloc (.cells #[.int .i64 0, .int .i64 0, .int .i64 0] 238)) w.heap.size 3 (fun _ => .int .i64 0) :=
  Blk.new w _ _ _ fun o ho => by
    have ho : o < 3 := by simpa using ho
    obtain rfl | rfl | rfl : o = 0 ∨ o = 1 ∨ o = 2 := by omega
    all_goals rfl
end Go.Proofs.Qxb6500283aGreat
