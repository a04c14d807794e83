import Derived.Test.Qxb6500284aWLaw6
import Derived.Test.Qxb6500284aWSearch3
namespace Go.Proofs.Qxb6500284a
open Go Go.RowKit

def ansErr (p : List In) (str : ByteArray) (from_ : Int) : Int :=
  if 256 < str.size then 12 else if progOK p = false then 9 else if from_ < 0 ∨ (str.size : Int) < from_ then 10 else 0
def ansOk (p : List In) (str : ByteArray) (from_ : Int) : Bool := if ansErr p str from_ = 0 then (runS p str from_.toNat).isSome else false
def ansC (p : List In) (str : ByteArray) (from_ : Int) : Nat → Int := if ansErr p str from_ = 0 then optC (runS p str from_.toNat) else fun _ => -1
/-- The plain law: the lock-step machine answers as the abstract one, and its gauge. -/
def Plain : Prop := ∀ (p : List In) (str : ByteArray) (from_ : Nat) (s : PS), OkProg p → str.size ≤ 256 → from_ ≤ str.size → CInv s →
  (scanS p str from_ s).1 = (runS p str from_).isSome ∧ (∀ j, j < 8 → capsOf (scanS p str from_ s) j = optC (runS p str from_) j) ∧ CInv (scanS p str from_ s).2 ∧
  (scanS p str from_ s).2.f 265 ≤ 4 * p.length * ((str.size : Int) - from_ + 2)

theorem ans_cases (p : List In) (str : ByteArray) (from_ : Int) :
    (256 < str.size ∧ ansErr p str from_ = 12 ∧ ansOk p str from_ = false ∧ ansC p str from_ = fun _ => -1) ∨
    (str.size ≤ 256 ∧ progOK p = false ∧ ansErr p str from_ = 9 ∧ ansOk p str from_ = false ∧ ansC p str from_ = fun _ => -1) ∨
    (str.size ≤ 256 ∧ progOK p = true ∧ (from_ < 0 ∨ (str.size : Int) < from_) ∧ ansErr p str from_ = 10 ∧ ansOk p str from_ = false ∧ ansC p str from_ = fun _ => -1) ∨
    (str.size ≤ 256 ∧ progOK p = true ∧ (∃ n : Nat, from_ = n ∧ n ≤ str.size ∧ ansErr p str from_ = 0 ∧ ansOk p str from_ = (runS p str n).isSome ∧ ansC p str from_ = optC (runS p str n))) := by
  by_cases h1 : 256 < str.size
  · have e : ansErr p str from_ = 12 := by simp [ansErr, h1]
    exact .inl ⟨h1, e, by simp [ansOk, e], by simp [ansC, e]⟩
  · cases h2 : progOK p with
    | false =>
      have e : ansErr p str from_ = 9 := by simp [ansErr, h1, h2]
      exact .inr (.inl ⟨by omega, rfl, e, by simp [ansOk, e], by simp [ansC, e]⟩)
    | true =>
      by_cases h3 : from_ < 0 ∨ (str.size : Int) < from_
      · have e : ansErr p str from_ = 10 := by simp [ansErr, h1, h2, h3]
        exact .inr (.inr (.inl ⟨by omega, rfl, h3, e, by simp [ansOk, e], by simp [ansC, e]⟩))
      · have e : ansErr p str from_ = 0 := by simp [ansErr, h1, h2, h3]
        exact .inr (.inr (.inr ⟨by omega, rfl, from_.toNat, by omega, by omega, e, by simp [ansOk, e], by simp [ansC, e]⟩))

theorem run_all {w : World} (p : List In) (pb cap : Nat) (hp : PAt w pb p) (hlen : p.length < 1000000) (str : ByteArray) (from_ : Int) :
    Calls Try.prog 31 #[.slice (some ⟨pb, 0, none⟩) p.length cap, .string str, .int .i64 from_] w fun e w' => e = .returned (foundV (ansErr p str from_) 0 (ansOk p str from_) (ansC p str from_)) ∧ Fr (fun _ => False) w w' := by
  rcases ans_cases p str from_ with ⟨h1, e1, e2, e3⟩ | ⟨h1, h2, e1, e2, e3⟩ | ⟨h1, h2, h3, e1, e2, e3⟩ | ⟨h1, h2, n, rfl, h4, e1, e2, e3⟩
  · rw [e1, e2, e3]; exact run_long p pb cap str from_ h1
  · rw [e1, e2, e3]; exact run_bad p pb cap hp hlen str from_ h1 h2
  · rw [e1, e2, e3]; exact run_range p pb cap hp hlen str from_ h1 h2 h3
  · rw [e1, e2, e3]; exact run_main p pb cap ((progOK_iff p).1 h2) hp str h1 n h4

theorem foundV_congr {err pos : Int} {ok : Bool} {c c' : Nat → Int} (h : ∀ j, j < 8 → c j = c' j) : foundV err pos ok c = foundV err pos ok c' := by
  unfold foundV
  rw [h 0 (by omega), h 1 (by omega), h 2 (by omega), h 3 (by omega), h 4 (by omega), h 5 (by omega), h 6 (by omega), h 7 (by omega)]
theorem CInv.zero {s : PS} (h : CInv s) : CInv { s with f := upd s.f 265 0 } :=
  ⟨h.l0.congr (by omega) (fun o h1 h2 => by simp [upd, show o ≠ 265 by omega]), h.l1.congr (by omega) (fun o h1 h2 => by simp [upd, show o ≠ 265 by omega]), by simp [upd, h.sp], by simp [upd]⟩
def lidOf (p : List In) (str : ByteArray) (from_ : Int) : Int := if ansErr p str from_ = 0 then 4 * (p.length : Int) * ((str.size : Int) - from_ + 2) else 0
theorem search_all (hP : Plain) {w : World} {x : Nat} {s : PS} (h : PRep w x s) (hC : CInv s) (p : List In) (pb cap : Nat) (hp : PAt w pb p) (hpb : ¬ pOwn x pb) (hlen : p.length < 1000000) (str : ByteArray) (from_ : Int) :
    Calls Try.prog 22 #[.pointer (some ⟨x, 0, none⟩), .slice (some ⟨pb, 0, none⟩) p.length cap, .string str, .int .i64 from_] w fun e w' =>
      e = .returned (foundV (ansErr p str from_) 0 (ansOk p str from_) (ansC p str from_)) ∧ (∃ s', PRep w' x s' ∧ CInv s' ∧ s'.f 265 ≤ lidOf p str from_) ∧ Fr (pOwn x) w w' := by
  have hz : CInv { s with f := upd s.f 265 0 } := hC.zero
  have bad : ∀ (err : Int), ansErr p str from_ = err → err ≠ 0 → (upd s.f 265 0) 265 ≤ lidOf p str from_ := fun err h1 h2 => by simp [lidOf, h1, h2, upd]
  rcases ans_cases p str from_ with ⟨h1, e1, e2, e3⟩ | ⟨h1, h2, e1, e2, e3⟩ | ⟨h1, h2, h3, e1, e2, e3⟩ | ⟨h1, h2, n, rfl, h4, e1, e2, e3⟩
  · have hb := bad 12 e1 (by omega)
    rw [e1, e2, e3]
    refine (search_long h p pb cap str from_ h1).mono ?_
    rintro e w1 ⟨rfl, r1, f1⟩
    exact ⟨rfl, ⟨_, r1, hz, hb⟩, f1⟩
  · have hb := bad 9 e1 (by omega)
    rw [e1, e2, e3]
    refine (search_bad h p pb cap hp hpb hlen str from_ h1 h2).mono ?_
    rintro e w1 ⟨rfl, r1, f1⟩
    exact ⟨rfl, ⟨_, r1, hz, hb⟩, f1⟩
  · have hb := bad 10 e1 (by omega)
    rw [e1, e2, e3]
    refine (search_range h p pb cap hp hpb hlen str from_ h1 h2 h3).mono ?_
    rintro e w1 ⟨rfl, r1, f1⟩
    exact ⟨rfl, ⟨_, r1, hz, hb⟩, f1⟩
  · obtain ⟨p1, p2, p3, p4⟩ := hP p str n s ((progOK_iff p).1 h2) h1 h4 hC
    rw [show lidOf p str n = 4 * (p.length : Int) * ((str.size : Int) - n + 2) by simp [lidOf, e1], e1, e2, e3, ← p1, ← foundV_congr p2]
    refine (search_main h hC p pb cap ((progOK_iff p).1 h2) hp hpb str h1 n h4).mono ?_
    rintro e w1 ⟨rfl, r1, f1⟩
    exact ⟨rfl, ⟨_, r1, p3, p4⟩, f1⟩
end Go.Proofs.Qxb6500284a
