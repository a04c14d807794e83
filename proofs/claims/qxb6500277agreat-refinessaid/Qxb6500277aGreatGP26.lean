/- The model heap's commands keep its invariant; how deep the roots are. -/
import Derived.Test.Qxb6500277aGreatKM10
import Derived.Test.Qxb6500277aGreatKM4
import Derived.Test.Qxb6500277aGreatVP1
namespace Go.Proofs.Qxb6500277aGreat
open Go Go.RowKit

section
variable {M : MS}
theorem MInv.nil : MInv ⟨[], []⟩ := ⟨fun x h => by simp at h, fun o h => by simp at h, by simp, fun o h => by simp at h⟩
theorem MInv.rtL (mi : MInv M) {l : List Int} (h : ∀ x ∈ l, InM M.objs.length x) : MInv { M with rt := l } := ⟨h, mi.cl, mi.len, mi.sz⟩
theorem MInv.at' (mi : MInv M) (k : Nat) (hk : k < M.rt.length) : InM M.objs.length (M.rt[k]?.getD 0) := by
  rw [List.getElem?_eq_getElem hk]
  exact mi.rts _ (List.getElem_mem hk)
theorem MInv.push (mi : MInv M) : MInv (pushM M).2 := by
  unfold pushM
  split
  · exact mi
  · exact mi.rtL fun x hx => by
      rcases List.mem_append.1 hx with h | h
      · exact mi.rts x h
      · simp at h; exact .inl h
theorem MInv.pop (mi : MInv M) (n : Int) : MInv (popM M n).2 := by
  unfold popM
  split
  · exact mi
  · split
    · exact MInv.nil
    · exact mi.rtL fun x hx => mi.rts x (List.mem_of_mem_take hx)
theorem mem_set_or {l : List Int} {i : Nat} {a x : Int} (h : x ∈ l.set i a) : x ∈ l ∨ x = a := List.mem_or_eq_of_mem_set h
theorem MInv.slide (mi : MInv M) (n : Int) : MInv (slideM M n).2 := by
  unfold slideM
  split
  · exact mi
  · exact mi.rtL fun x hx => by
      rcases mem_set_or hx with h | h
      · exact mi.rts x (List.mem_of_mem_take h)
      · rw [h]; exact mi.at' _ (by omega)
theorem MInv.dup (mi : MInv M) (n : Int) : MInv (dupM M n).2 := by
  unfold dupM
  split
  · exact mi
  · split
    · exact mi
    · exact mi.rtL fun x hx => by
        rcases List.mem_append.1 hx with h | h
        · exact mi.rts x h
        · simp only [List.mem_singleton] at h; rw [h]; exact mi.at' _ (by omega)
theorem MInv.set' (mi : MInv M) (n : Int) : MInv (setM M n).2 := by
  unfold setM
  split
  · exact mi
  · exact mi.rtL fun x hx => by
      rcases mem_set_or (List.mem_of_mem_take hx) with h | h
      · exact mi.rts x h
      · rw [h]; exact mi.at' _ (by omega)
theorem rfM_mem {os : List (List Int × List Int)} {x : Nat} (h : x < os.length) : rfM os (x : Nat) = os[x].1 ∧ itM os (x : Nat) = os[x].2 := by
  simp [rfM, itM, List.getElem?_eq_getElem h]
theorem MInv.ldRef (mi : MInv M) (i f j : Int) : MInv (ldRefM M i f j).2 := by
  unfold ldRefM
  split
  · exact mi
  · rename_i h0
    rcases atM_obj mi i with ⟨h, _⟩ | ⟨x, e, hx⟩
    · exact absurd h h0
    · split
      · exact mi
      · split
        · exact mi
        · rename_i hf _
          rw [e] at hf ⊢
          rw [(rfM_mem hx).1] at hf ⊢
          refine mi.rtL fun y hy => ?_
          rcases mem_set_or hy with h | h
          · exact mi.rts y h
          · rw [h, List.getElem?_eq_getElem (by omega)]
            exact mi.cl _ (List.getElem_mem hx) _ (List.getElem_mem _)
theorem MInv.objS (mi : MInv M) {x : Nat} (_hx : x < M.objs.length) {o : List Int × List Int} (h1 : ∀ y ∈ o.1, InM M.objs.length y) (h2 : o.1.length ≤ 48 ∧ o.2.length ≤ 48) : MInv { M with objs := M.objs.set x o } := by
  refine ⟨fun y hy => by simpa using mi.rts y hy, fun q hq y hy => ?_, by simpa using mi.len, fun q hq => ?_⟩
  · simp only [List.length_set]
    rcases List.mem_or_eq_of_mem_set hq with h | h
    · exact mi.cl q h y hy
    · rw [h] at hy; exact h1 y hy
  · rcases List.mem_or_eq_of_mem_set hq with h | h
    · exact mi.sz q h
    · rw [h]; exact h2
theorem MInv.stInt (mi : MInv M) (i f v : Int) : MInv (stIntM M i f v).2 := by
  unfold stIntM
  split
  · exact mi
  · rename_i h0
    rcases atM_obj mi i with ⟨h, _⟩ | ⟨x, e, hx⟩
    · exact absurd h h0
    · split
      · exact mi
      · rw [e]
        simp only [Int.toNat_natCast]
        rw [(rfM_mem hx).1, (rfM_mem hx).2]
        have q := mi.sz _ (List.getElem_mem hx)
        exact mi.objS hx (fun y hy => mi.cl _ (List.getElem_mem hx) y hy) ⟨q.1, by simpa using q.2⟩
theorem MInv.stRef (mi : MInv M) (i f j : Int) : MInv (stRefM M i f j).2 := by
  unfold stRefM
  split
  · exact mi
  · rename_i h0
    rcases atM_obj mi i with ⟨h, _⟩ | ⟨x, e, hx⟩
    · exact absurd h h0
    · split
      · exact mi
      · split
        · exact mi
        · rename_i hj
          rw [e]
          simp only [Int.toNat_natCast]
          rw [(rfM_mem hx).1, (rfM_mem hx).2]
          have q := mi.sz _ (List.getElem_mem hx)
          refine mi.objS hx (fun y hy => ?_) ⟨by simpa using q.1, q.2⟩
          rcases mem_set_or hy with h | h
          · exact mi.cl _ (List.getElem_mem hx) y h
          · rw [h]; exact mi.at' _ (by omega)
theorem MInv.alloc (mi : MInv M) (p q : Int) : MInv (allocM M p q).2 := by
  unfold allocM
  split
  · exact mi
  · split
    · exact mi
    · split
      · exact mi
      · have t := tidied mi
        have := live_len M.gh
        exact t.1.born (by omega) (by omega) (by rw [t.2.2]; omega)
/-- How deep the roots are behind each command. -/
theorem push_rt (M : MS) : ((pushM M).1 = 0 ∧ (pushM M).2.rt.length = M.rt.length + 1 ∧ M.rt.length < 24) ∨ ((pushM M).1 ≠ 0 ∧ (pushM M).2 = M) := by
  unfold pushM
  split
  · exact .inr ⟨(by simp), rfl⟩
  · exact .inl ⟨rfl, by simp, by omega⟩
theorem pop_rt (M : MS) (n : Int) : ((popM M n).1 = 0 ∧ 0 ≤ n ∧ n ≤ M.rt.length ∧ (popM M n).2.rt.length = M.rt.length - n.toNat) ∨ ((popM M n).1 ≠ 0 ∧ (popM M n).2 = M) := by
  unfold popM
  split
  · exact .inr ⟨(by simp), rfl⟩
  · split
    · exact .inl ⟨rfl, by omega, by omega, by simp; omega⟩
    · exact .inl ⟨rfl, by omega, by omega, by simp⟩
theorem pop_ok {M : MS} {n : Int} (h0 : 0 ≤ n) (h1 : n ≤ M.rt.length) : (popM M n).1 = 0 ∧ (popM M n).2.rt.length = M.rt.length - n.toNat := by
  rcases pop_rt M n with ⟨a, _, _, b⟩ | ⟨a, _⟩
  · exact ⟨a, b⟩
  · unfold popM at a
    rw [if_neg (by omega)] at a
    split at a <;> exact absurd rfl a
theorem slide_rt (M : MS) (n : Int) : ((slideM M n).1 = 0 ∧ 0 ≤ n ∧ n < M.rt.length ∧ (slideM M n).2.rt.length = M.rt.length - n.toNat) ∨ ((slideM M n).1 ≠ 0 ∧ (slideM M n).2 = M) := by
  unfold slideM
  split
  · exact .inr ⟨(by simp), rfl⟩
  · exact .inl ⟨rfl, by omega, by omega, by simp⟩
theorem slide_ok {M : MS} {n : Int} (h0 : 0 ≤ n) (h1 : n < M.rt.length) : (slideM M n).1 = 0 ∧ (slideM M n).2.rt.length = M.rt.length - n.toNat := by
  rcases slide_rt M n with ⟨a, _, _, b⟩ | ⟨a, _⟩
  · exact ⟨a, b⟩
  · unfold slideM at a
    rw [if_neg (by omega)] at a
    exact absurd rfl a
theorem dup_rt (M : MS) (n : Int) : ((dupM M n).1 = 0 ∧ (dupM M n).2.rt.length = M.rt.length + 1 ∧ M.rt.length < 24) ∨ ((dupM M n).1 ≠ 0 ∧ (dupM M n).2 = M) := by
  unfold dupM
  split
  · exact .inr ⟨(by simp), rfl⟩
  · split
    · exact .inr ⟨(by simp), rfl⟩
    · exact .inl ⟨rfl, by simp, by omega⟩
theorem set_rt (M : MS) (n : Int) : ((setM M n).1 = 0 ∧ (setM M n).2.rt.length = M.rt.length - 1) ∨ ((setM M n).1 ≠ 0 ∧ (setM M n).2 = M) := by
  unfold setM
  split
  · exact .inr ⟨(by simp), rfl⟩
  · exact .inl ⟨rfl, by simp⟩
theorem set_ok {M : MS} {n : Nat} (h : n + 1 < M.rt.length) : (setM M n).1 = 0 ∧ (setM M n).2.rt.length = M.rt.length - 1 := by
  rcases set_rt M n with h1 | ⟨a, _⟩
  · exact h1
  · unfold setM at a
    rw [if_neg (by omega)] at a
    exact absurd rfl a
theorem ldRef_rt (M : MS) (i f j : Int) : (ldRefM M i f j).2.rt.length = M.rt.length := by
  unfold ldRefM
  split
  · rfl
  · split
    · rfl
    · split
      · rfl
      · simp
theorem stInt_rt (M : MS) (i f v : Int) : (stIntM M i f v).2.rt = M.rt := by
  unfold stIntM
  split
  · rfl
  · split <;> rfl
theorem stRef_rt (M : MS) (i f j : Int) : (stRefM M i f j).2.rt = M.rt := by
  unfold stRefM
  split
  · rfl
  · split
    · rfl
    · split <;> rfl
theorem alloc_rt (M : MS) (p q : Int) : ((allocM M p q).1 = 0 ∧ (allocM M p q).2.rt.length = M.rt.length + 1 ∧ M.rt.length < 24) ∨ ((allocM M p q).1 ≠ 0 ∧ (allocM M p q).2 = M) := by
  unfold allocM
  split
  · exact .inr ⟨(by simp), rfl⟩
  · split
    · exact .inr ⟨(by simp), rfl⟩
    · split
      · exact .inr ⟨(by simp), rfl⟩
      · exact .inl ⟨rfl, by simp [bornG, tidyM], by omega⟩
theorem nils_rt : ∀ (k : Nat) (M : MS), M.rt.length + k ≤ 24 → (nilsM k M).rt.length = M.rt.length + k ∧ (MInv M → MInv (nilsM k M))
  | 0, M, _ => ⟨rfl, id⟩
  | k + 1, M, h => by
    rcases push_rt M with ⟨_, b, _⟩ | ⟨a, _⟩
    · obtain ⟨h1, h2⟩ := nils_rt k (pushM M).2 (by omega)
      exact ⟨by simp only [nilsM]; omega, fun mi => h2 mi.push⟩
    · unfold pushM at a
      rw [if_neg (by omega)] at a
      exact absurd rfl a
end
end Go.Proofs.Qxb6500277aGreat
