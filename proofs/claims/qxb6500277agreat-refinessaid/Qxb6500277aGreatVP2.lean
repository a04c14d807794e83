/- The machine's plain side: what every step keeps, and why a run ends. -/
import Derived.Test.Qxb6500277aGreatVP1
namespace Go.Proofs.Qxb6500277aGreat
open Go Go.RowKit

/-- The frames tile the root stack; each goes back to a place in the code. -/
def ChF (n : Nat) : List Fm → Nat → Prop
  | [], d => d = 0
  | f :: r, d => f.rb + f.lr ≤ d ∧ f.ret ≤ n ∧ ChF n r f.rb
structure POk (C : List Nat) (I : List Int) (V : Vs) (M : MS) : Prop where
  ch : ChF C.length V.fs M.rt.length
  us : usedF V.fs ≤ V.most
  ms : V.most ≤ 48
  pc : V.pc ≤ C.length
  ip : V.ip ≤ I.length
  ou : V.out.length ≤ 1024
  rt : V.en ≠ 21 → V.rt = 0
  mi : MInv M
  d24 : M.rt.length ≤ 24
theorem used_len : ∀ fs : List Fm, 3 * fs.length ≤ usedF fs
  | [] => Nat.le_refl _
  | f :: r => by have := used_len r; simp only [usedF, List.length_cons]; omega
theorem ChF.top {n d d' : Nat} {f g : Fm} {r : List Fm} (h : ChF n (f :: r) d) (hd : g.rb + g.lr ≤ d') (e1 : g.rb = f.rb) (e2 : g.ret = f.ret) : ChF n (g :: r) d' := ⟨hd, by rw [e2]; exact h.2.1, by rw [e1]; exact h.2.2⟩
/-- What makes a run end. -/
def mu (V : Vs) : Nat := V.fuel.toNat * 100000 + V.fs.length * 4098 + (4097 - V.pc)
structure FineV (C : List Nat) (I : List Int) (V0 V' : Vs) (M' : MS) : Prop where
  ok : POk C I V' M'
  go : V'.en = 0 → V'.fs ≠ [] ∧ mu V' < mu V0
section
variable {C : List Nat} {I : List Int} {V V0 : Vs} {M M' : MS} {f : Fm} {r : List Fm}
theorem topO_c (h : V.fs = f :: r) : topO V = f.ops := by unfold topO; rw [h]
theorem setO_c (h : V.fs = f :: r) (o : List Int) : setO V o = { V with fs := { f with ops := o } :: r } := by unfold setO; rw [h]
theorem dropO_c (h : V.fs = f :: r) (k : Nat) : dropO V k = { V with fs := { f with ops := f.ops.take (f.ops.length - k) } :: r } := by unfold dropO; rw [setO_c h, topO_c h]
theorem putO_c (h : V.fs = f :: r) (k : Nat) (v : Int) : putO V k v = { V with fs := { f with ops := f.ops.take (f.ops.length - k) ++ [v] } :: r } := by unfold putO; rw [setO_c h, topO_c h]
theorem topF_c (h : V.fs = f :: r) : topF V = f := by unfold topF; rw [h]; rfl
theorem leaveV_c (h : V.fs = f :: r) : leaveV V = { V with fs := r, pc := f.ret } := by unfold leaveV; rw [h]
theorem setLoc_c (h : V.fs = f :: r) (s : Nat) (v : Int) : setLoc V s v = { V with fs := { f with loc := f.loc.set s v } :: r } := by unfold setLoc; rw [h]
theorem ropsV_c (h : V.fs = f :: r) : ropsV V M = (M.rt.length : Int) - f.rb - f.lr := by unfold ropsV; rw [h]
theorem pushV_c (h : V.fs = f :: r) (v : Int) : pushV V v = if 48 ≤ usedF (f :: r) then V.die 29 else { V with fs := { f with ops := f.ops ++ [v] } :: r, most := max V.most (usedF (f :: r) + 1) } := by
  unfold pushV; rw [setO_c h, topO_c h, h]
theorem used_c (f : Fm) (r : List Fm) : usedF (f :: r) = 3 + f.loc.length + f.ops.length + usedF r := rfl
/-- The run is over. -/
theorem FineV.die (h : POk C I V M) {e : Int} (h0 : e ≠ 0) (hr : V.rt = 0) : FineV C I V0 (V.die e) M :=
  ⟨⟨h.ch, h.us, h.ms, h.pc, h.ip, h.ou, fun _ => hr, h.mi, h.d24⟩, fun h' => absurd h' h0⟩
theorem POk.rt0 (h : POk C I V M) (h0 : V.en = 0) : V.rt = 0 := h.rt (by rw [h0]; decide)
theorem endOf_ne (e : Int) : endOf e ≠ 0 ∧ endOf e ≠ 21 := by
  unfold endOf
  repeat' split
  all_goals decide
/-- The top frame's operands and locals turn, and the heap. -/
theorem FineV.turn {g : Fm} (h : POk C I V M) (hm : V.en = 0 → mu V < mu V0) (hf : V.fs = f :: r) (mi : MInv M') (d24 : M'.rt.length ≤ 24) (e1 : g.rb = f.rb) (e2 : g.ret = f.ret) (hd : g.rb + g.lr ≤ M'.rt.length) (hu : g.loc.length + g.ops.length ≤ f.loc.length + f.ops.length) : FineV C I V0 { V with fs := g :: r } M' := by
  have hc := h.ch
  have hu' := h.us
  rw [hf] at hc hu'
  rw [used_c] at hu'
  refine ⟨⟨hc.top hd e1 e2, by show usedF (g :: r) ≤ V.most; rw [used_c]; omega, h.ms, h.pc, h.ip, h.ou, h.rt, mi, d24⟩, fun h0 => ⟨by simp, ?_⟩⟩
  have := hm h0
  unfold mu at this ⊢
  rw [hf] at this
  exact this
theorem FineV.push (h : POk C I V M) (h0 : V.en = 0) (hm : mu V < mu V0) (hf : V.fs = f :: r) (mi : MInv M') (d24 : M'.rt.length ≤ 24) (hd : f.rb + f.lr ≤ M'.rt.length) (v : Int) : FineV C I V0 (pushV V v) M' := by
  rw [pushV_c hf]
  have hc := h.ch
  have hu' := h.us
  have hms := h.ms
  rw [hf] at hc hu'
  rw [used_c] at hu' ⊢
  split
  · refine ⟨⟨?_, h.us, h.ms, h.pc, h.ip, h.ou, fun _ => h.rt0 h0, mi, d24⟩, fun h' => absurd h' (by show ¬ (29 : Int) = 0; decide)⟩
    show ChF C.length V.fs _
    rw [hf]
    exact hc.top hd rfl rfl
  · refine ⟨⟨hc.top hd rfl rfl, ?_, ?_, h.pc, h.ip, h.ou, h.rt, mi, d24⟩, fun _ => ⟨by simp, ?_⟩⟩
    · show usedF (_ :: r) ≤ _
      rw [used_c]
      simp only [List.length_append, List.length_singleton]
      omega
    · show max _ _ ≤ 48
      omega
    · unfold mu at hm ⊢
      rw [hf] at hm
      exact hm
theorem FineV.jump (h : POk C I V M) (h0 : V.en = 0) (hne : V.fs ≠ []) {at' a : Nat} (hm0 : V0.fuel = V.fuel ∧ V0.fs.length = V.fs.length ∧ V0.pc = at') (hC : C.length ≤ 4096) : FineV C I V0 (jumpV C V at' a) M := by
  unfold jumpV
  split
  · exact FineV.die h (by decide) (h.rt0 h0)
  · rename_i ha
    split
    · split
      · exact FineV.die h (by decide) (h.rt0 h0)
      · refine ⟨⟨h.ch, h.us, h.ms, by show a ≤ C.length; omega, h.ip, h.ou, h.rt, h.mi, h.d24⟩, fun _ => ⟨hne, ?_⟩⟩
        unfold mu
        obtain ⟨e1, e2, e3⟩ := hm0
        rw [e1, e2]
        have : (V.fuel - 1).toNat + 1 = V.fuel.toNat := by omega
        show (V.fuel - 1).toNat * 100000 + V.fs.length * 4098 + (4097 - a) < _
        omega
    · refine ⟨⟨h.ch, h.us, h.ms, by show a ≤ C.length; omega, h.ip, h.ou, h.rt, h.mi, h.d24⟩, fun _ => ⟨hne, ?_⟩⟩
      obtain ⟨e1, e2, e3⟩ := hm0
      have hp := h.pc
      unfold mu
      rw [e1, e2, e3]
      show V.fuel.toNat * 100000 + V.fs.length * 4098 + (4097 - a) < _
      omega
end
theorem push_len (M : MS) : (pushM M).2.rt.length = if 24 ≤ M.rt.length then M.rt.length else M.rt.length + 1 := by unfold pushM; split <;> simp
theorem pop_len (M : MS) (n : Nat) (h : n ≤ M.rt.length) : (popM M n).2.rt.length = M.rt.length - n := by
  unfold popM
  rw [if_neg (by omega)]
  split
  · simp; omega
  · simp
theorem dup_len (M : MS) (i : Int) : M.rt.length ≤ (dupM M i).2.rt.length ∧ ((dupM M i).2.rt.length ≤ 24 ∨ (dupM M i).2.rt.length = M.rt.length) := by
  unfold dupM
  split
  · simp
  · split
    · simp
    · simp; omega
theorem set_len (M : MS) (i : Nat) (h : i + 1 < M.rt.length) : (setM M i).2.rt.length = M.rt.length - 1 := by
  unfold setM
  rw [if_neg (by omega)]
  simp
theorem slide_len (M : MS) (n : Nat) (h : n < M.rt.length) : (slideM M n).2.rt.length = M.rt.length - n := by
  unfold slideM
  rw [if_neg (by omega)]
  simp
theorem tidy_len (M : MS) : (tidyM M).rt.length = M.rt.length := by simp [tidyM]
theorem alloc_len (M : MS) (p q : Int) : ((allocM M p q).1 ≠ 0 ∧ (allocM M p q).2 = M) ∨ ((allocM M p q).1 = 0 ∧ (allocM M p q).2.rt.length = M.rt.length + 1 ∧ M.rt.length < 24) := by
  unfold allocM
  split
  · exact .inl ⟨by simp, rfl⟩
  · split
    · exact .inl ⟨by simp, rfl⟩
    · split
      · exact .inl ⟨by simp, rfl⟩
      · exact .inr ⟨rfl, by simp [bornG, tidy_len], by omega⟩
theorem ldRef_len (M : MS) (i f j : Int) : (ldRefM M i f j).2.rt.length = M.rt.length := by
  unfold ldRefM
  repeat' split
  all_goals simp
theorem stInt_len (M : MS) (i f v : Int) : (stIntM M i f v).2.rt.length = M.rt.length := by
  unfold stIntM
  repeat' split
  all_goals simp
theorem stRef_len (M : MS) (i f j : Int) : (stRefM M i f j).2.rt.length = M.rt.length := by
  unfold stRefM
  repeat' split
  all_goals simp
theorem nils_len : ∀ (k : Nat) (M : MS), M.rt.length + k ≤ 24 → (nilsM k M).rt.length = M.rt.length + k
  | 0, M, h => rfl
  | k + 1, M, h => by
    have h1 := push_len M
    rw [if_neg (by omega)] at h1
    simp only [nilsM]
    rw [nils_len k _ (by omega)]
    omega
end Go.Proofs.Qxb6500277aGreat
