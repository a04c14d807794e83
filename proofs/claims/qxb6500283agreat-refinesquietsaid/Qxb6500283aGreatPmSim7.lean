import Derived.Test.Qxb6500283aGreatPmSim6
import Derived.Test.Qxb6500283aGreatPmWLaw7
namespace Go.Proofs.Qxb6500283aGreat
open Go Go.RowKit

section
variable {p : List In} {str : ByteArray}
theorem nm_start (r : Nat → Int) (at_ : Nat) : nm (upd (cpy r 0 (fun _ => -1) 0 8) 0 at_) = stC at_ := by
  refine nm_eq (fun j hj => by simp [stC, upd, show j ≠ 0 by omega]) fun j hj => ?_
  simp only [stC, upd]
  split
  · rfl
  · simp [cpy, hj]
theorem scan_miss (hp : OkProg p) : ∀ (m at_ W : Nat) (st : PS) (V S : List (Nat × (Nat → Int))) (f : Nat), at_ + (m + 1) = str.size + 1 → W < 2 → SSt p W st V → cloRun p str at_ f S [] = some V →
    ∃ r, AnsS p str at_ (S ++ [(0, stC at_)]) r ∧ (scanFrom p str (m + 1) at_ W false st).1 = r.isSome ∧ (∀ q, r = some q → ∀ j, j < 8 → (scanFrom p str (m + 1) at_ W false st).2.b j = endC q j) ∧
      Fin p (m + 1) W st (scanFrom p str (m + 1) at_ W false st).2
  | m, at_, W, st, V, S, f, hm, hW, h, hc => by
    have hM := hp.max
    obtain ⟨t, ht⟩ : ∃ t : PS, t = { st with r := upd (cpy st.r 0 (fun _ => -1) 0 8) 0 at_ } := ⟨_, rfl⟩
    have tw : LInv t.f W p.length := by rw [ht]; exact h.w
    have to_ : LInv t.f (1 - W) p.length := by rw [ht]; exact h.o
    have tr : LRel p W t V := by rw [ht]; exact ⟨h.rel.vs, h.rel.nv, h.rel.row⟩
    have tf : t.f = st.f := by rw [ht]
    obtain ⟨f1, V1, e1, e2⟩ := Rel.add (str := str) (i := at_) hp hW hp.pos tw tr.vs tr.nv tr.row
    rw [show nm t.r = stC at_ by rw [ht]; exact nm_start _ _] at e1
    obtain ⟨a1, a2, a3, a4, _⟩ := addS_spec (V := 1 - W) (size := str.size) (at_ := (at_ : Int)) (s := t) hp hW (by omega) (by omega) tw hp.pos
    have g := gau_add (size := str.size) (at_ := (at_ : Int)) hp hW hp.pos tw
    rw [tf] at g a4
    have hc1 := cloRun_seq f f1 S _ _ _ hc e1
    simp only [scanFrom, Bool.false_eq_true, if_false, Bool.false_or]
    rw [← ht]
    generalize addSM p str.size W 0 at_ t = u at a1 a2 a3 e2 g a4
    have hu : SSt p W u V1 := ⟨a1, to_.congr hM a3.c, a2, e2.toL⟩
    obtain ⟨hV1, hV2⟩ := nW_le hu.w hu.rel
    have hne := cloRun_ne hc1
    have hlen : 0 < V1.length := List.length_pos_iff.2 hne
    rw [if_neg (by omega)]
    obtain ⟨g1, VO, b1, b2, b3, b4, b5, b6, b7⟩ := step_round (str := str) (i := at_) hp hW hu
    have e : ∀ k : Nat, (4 * (p.length : Int) * ((k + 1 : Nat) : Int)) = 4 * p.length * k + 4 * p.length := fun k => by rw [Int.natCast_add, Int.mul_add]; simp
    have fin : ∀ w : PS, Fin p m (1 - W) (stepS p str W at_ u).2 w → Fin p (m + 1) W st w := fun w hw => by
      have := hw.g
      have := hw.up
      exact ⟨hw.l0, hw.l1, hw.sp, by omega, by rw [e]; omega⟩
    cases hmt : (cut p str at_ V1).2 with
    | some c =>
      rw [hmt] at b3
      rw [b3]
      obtain ⟨r, c1, c2, c3, c4, c5⟩ := scan_hit hp m (at_ + 1) (1 - W) (stepS p str W at_ u).2 VO _ g1 (by omega) (by omega) b2 b1 (fun h => cut_last V1 (by omega))
      refine ⟨_, AnsS.hit hc1 (show cut p str at_ V1 = ((cut p str at_ V1).1, some c) by rw [← hmt]) c1, ?_, ?_, fin _ c5⟩
      · rw [show (some c).isSome = true from rfl, c2]; cases r <;> rfl
      · intro q hq j hj
        cases hr : r with
        | some q' =>
          rw [hr] at hq
          simp at hq
          subst hq
          exact c3 q' hr j hj
        | none =>
          rw [hr] at hq
          simp at hq
          subst hq
          rw [show (some c).isSome = true from rfl, c4 hr]
          exact b4 c hmt j hj
    | none =>
      rw [hmt] at b3
      rw [b3, show (none : Option (Nat → Int)).isSome = false from rfl]
      cases m with
      | zero =>
        refine ⟨_, AnsS.last (by omega) hc1 (show cut p str at_ V1 = ((cut p str at_ V1).1, none) by rw [← hmt]) (cut_last V1 (by omega)), rfl, (fun q h => by cases h), fin _ (b2.fin (by omega) 0)⟩
      | succ m =>
        obtain ⟨r, c1, c2, c3, c5⟩ := scan_miss hp m (at_ + 1) (1 - W) (stepS p str W at_ u).2 VO _ g1 (by omega) (by omega) b2 b1
        exact ⟨r, AnsS.miss (by omega) hc1 (show cut p str at_ V1 = ((cut p str at_ V1).1, none) by rw [← hmt]) c1, c2, c3, fin _ c5⟩
end
theorem LInv.up {f : Nat → Int} {W m : Nat} (hm : m ≤ 64) (h : LInv f W m) : LInv f W 64 :=
  ⟨h.n0, by have := h.n1; omega, h.sp, fun k hk => ⟨(h.ds k hk).1, by have := (h.ds k hk).2.1; omega, (h.ds k hk).2.2⟩⟩

theorem plain : Plain := by
  intro p str from_ s hp hsz hfrom hC
  have hM := hp.max
  obtain ⟨t, ht⟩ : ∃ t : PS, t = { s with f := upd (upd (upd s.f 265 0) 128 0) 258 0 } := ⟨_, rfl⟩
  have t128 : t.f 128 = 0 := by rw [ht]; simp [upd]
  have t258 : t.f 258 = 0 := by rw [ht]; simp [upd]
  have t265 : t.f 265 = 0 := by rw [ht]; simp [upd]
  have to_ : ∀ o, o ≠ 128 → o ≠ 258 → o ≠ 265 → t.f o = s.f o := fun o h1 h2 h3 => by rw [ht]; simp [upd, h1, h2, h3]
  have l0 : LInv t.f 0 p.length := ⟨by simp [t128], by simp [t128], fun pc hpc => by rw [to_ _ (by omega) (by omega) (by omega)]; exact hC.l0.sp pc hpc, fun k hk => by simp [t128] at hk; omega⟩
  have l1 : LInv t.f 1 p.length := ⟨by simp [t258], by simp [t258], fun pc hpc => by rw [to_ _ (by omega) (by omega) (by omega)]; exact hC.l1.sp pc hpc, fun k hk => by simp [t258] at hk; omega⟩
  have hS : SSt p 0 t [] := ⟨l0, l1, by rw [to_ _ (by omega) (by omega) (by omega)]; exact hC.sp, LRel.empty (by simpa using t128)⟩
  obtain ⟨r, c1, c2, c3, c4⟩ := scan_miss (str := str) hp (str.size - from_) from_ 0 t [] [] 1 (by omega) (by omega) hS rfl
  have hrun := AnsS.run hp hfrom (by simpa using c1)
  have e : scanS p str from_ s = scanFrom p str (str.size - from_ + 1) from_ 0 false t := by unfold scanS; rw [ht, show str.size + 1 - from_ = str.size - from_ + 1 by omega]
  rw [e, hrun]
  refine ⟨by rw [c2]; cases r <;> rfl, ?_, ⟨c4.l0.up hM, c4.l1.up hM, c4.sp, by have := c4.up; omega⟩, ?_⟩
  · intro j hj
    unfold capsOf
    rw [c2]
    cases hr : r with
    | none => rfl
    | some q => exact c3 q hr j hj
  · have g := c4.g
    rw [t265] at g
    simp only [Nat.zero_mul, Nat.zero_add, t128] at g
    have e2 : (4 : Int) * p.length * ((str.size : Int) - from_ + 2) = 4 * p.length * ((str.size - from_ + 1 : Nat) : Int) + 4 * p.length := by
      rw [show ((str.size : Int) - from_ + 2) = ((str.size - from_ + 1 : Nat) : Int) + 1 by omega, Int.mul_add]; simp
    rw [e2]
    omega
end Go.Proofs.Qxb6500283aGreat
