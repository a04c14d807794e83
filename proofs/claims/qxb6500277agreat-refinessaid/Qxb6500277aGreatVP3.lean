/- The machine's plain side: every step keeps the invariant, and a run ends. -/
import Derived.Test.Qxb6500277aGreatVP2
namespace Go.Proofs.Qxb6500277aGreat
open Go Go.RowKit

section
variable {C : List Nat} {I : List Int} {V V0 : Vs} {M M' : MS} {f : Fm} {r : List Fm}
/-- A call. -/
theorem FineV.call (h : POk C I V M) (h0 : V.en = 0) (hm0 : V0.fuel = V.fuel ∧ V0.fs.length = V.fs.length) (hC : C.length ≤ 4096) {a ret : Nat} (hret : ret ≤ C.length) (mi : MInv (callV C V M a ret).2) : FineV C I V0 (callV C V M a ret).1 (callV C V M a ret).2 := by
  unfold callV at mi ⊢
  split
  · exact FineV.die h (by decide) (h.rt0 h0)
  rename_i g1
  rw [if_neg g1] at mi
  split
  · exact FineV.die h (by decide) (h.rt0 h0)
  rename_i g2
  rw [if_neg g2] at mi
  split
  · exact FineV.die h (by decide) (h.rt0 h0)
  rename_i g3
  rw [if_neg g3] at mi
  generalize byteAt C (a + 1) = pi at *
  generalize byteAt C (a + 2) = pr at *
  generalize byteAt C (a + 3) = li at *
  generalize byteAt C (a + 4) = lr at *
  unfold enterV at mi ⊢
  split
  · exact FineV.die h (by decide) (h.rt0 h0)
  rename_i g4
  rw [if_neg g4] at mi
  have hd24 := h.d24
  have hus := h.us
  have hms := h.ms
  split
  · exact ⟨⟨h.ch, h.us, h.ms, h.pc, h.ip, h.ou, fun _ => h.rt0 h0, h.mi, h.d24⟩, fun h' => absurd h' (by show ¬ (29 : Int) = 0; decide)⟩
  rename_i g5
  rw [if_neg g5] at mi
  have hrl := used_len V.fs
  have hops : (topO V).length ≤ usedF V.fs := by
    unfold topO
    cases hf : V.fs with
    | nil => simp
    | cons f r => simp only; rw [used_c]; omega
  have hkey : pi ≤ (topO V).length ∧ (pr : Int) ≤ M.rt.length ∧ ChF C.length (dropO V pi).fs (M.rt.length - pr) ∧ usedF (dropO V pi).fs + pi = usedF V.fs ∧ (dropO V pi).fs.length = V.fs.length := by
    cases hf : V.fs with
    | nil =>
      have hc := h.ch
      rw [hf] at hc
      have e1 : pi = 0 ∧ pr = 0 := by
        constructor
        · apply Classical.byContradiction; intro hh; exact g3 (.inl ⟨hf, .inl hh⟩)
        · apply Classical.byContradiction; intro hh; exact g3 (.inl ⟨hf, .inr hh⟩)
      obtain ⟨rfl, rfl⟩ := e1
      have e2 : dropO V 0 = V := by unfold dropO setO; rw [hf]
      rw [e2, hf]
      exact ⟨Nat.zero_le _, by omega, by rw [Nat.sub_zero]; exact hc, rfl, rfl⟩
    | cons f r =>
      have hc := h.ch
      rw [hf] at hc
      have e0 : ¬ ((topO V).length < pi ∨ ropsV V M < pr) := fun hh => g3 (.inr ⟨by rw [hf]; simp, hh⟩)
      rw [topO_c hf, ropsV_c hf] at e0
      rw [topO_c hf, dropO_c hf]
      have := hc.1
      refine ⟨by omega, by omega, hc.top (by show f.rb + f.lr ≤ _; omega) rfl rfl, ?_, rfl⟩
      rw [used_c, used_c]
      simp only [List.length_take]
      omega
  obtain ⟨q1, q2, q3, q4, q5⟩ := hkey
  have q6 : (nilsM (lr - pr) M).rt.length = M.rt.length + (lr - pr) := nils_len _ _ (by omega)
  refine ⟨⟨⟨?_, hret, q3⟩, ?_, ?_, ?_, h.ip, h.ou, h.rt, mi, by rw [q6]; omega⟩, fun _ => ⟨by simp, ?_⟩⟩
  · show M.rt.length - pr + lr ≤ _
    rw [q6]; omega
  · show usedF (newF V M pi pr li lr ret :: (dropO V pi).fs) ≤ max V.most (usedF V.fs - pi + li + 3)
    rw [used_c]
    unfold newF
    simp only [List.length_append, List.length_drop, List.length_replicate, List.length_nil]
    omega
  · show max V.most _ ≤ 48
    omega
  · show a + 5 ≤ C.length
    omega
  · unfold mu
    obtain ⟨e1, e2⟩ := hm0
    rw [e1, e2]
    have : (V.fuel - 1).toNat + 1 = V.fuel.toNat := by omega
    show (V.fuel - 1).toNat * 100000 + ((dropO V pi).fs.length + 1) * 4098 + (4097 - (a + 5)) < _
    rw [q5]
    omega
theorem put_len (o : List Int) (k : Nat) (v : Int) (h : k ≤ o.length) (hk : 0 < k) : (o.take (o.length - k) ++ [v]).length ≤ o.length := by simp; omega
theorem did_fine {e : Int} (h : FineV C I V0 V M') (h0 : V.en = 0) : FineV C I V0 (did V e) M' := by
  unfold did
  split
  · exact h
  · exact FineV.die h.ok (endOf_ne e).1 (h.ok.rt0 h0)
/-- One instruction. -/
theorem exec_fine {op at' : Nat} (h : POk C I V M) (h0 : V.en = 0) (hf : V.fs = f :: r) (hC : C.length ≤ 4096) (hm : mu V < mu V0) (hm0 : V0.fuel = V.fuel ∧ V0.fs.length = V.fs.length ∧ V0.pc = at') (hI : wantI op ≤ f.ops.length) (hR : (wantR op : Int) ≤ (M.rt.length : Int) - f.rb - f.lr) (hop : op < 37) (hat : at' + 3 ≤ C.length ∨ op ≠ 24) (mi : MInv (execV C I op at' V M).2) : FineV C I V0 (execV C I op at' V M).1 (execV C I op at' V M).2 := by
  have hc := h.ch
  rw [hf] at hc
  have hc1 := hc.1
  have hd24 := h.d24
  have hne : V.fs ≠ [] := by rw [hf]; simp
  have hdie : ∀ e : Int, e ≠ 0 → FineV C I V0 (V.die e) M := fun e he => FineV.die h he (h.rt0 h0)
  have hdrop : ∀ (k : Nat) (M' : MS), MInv M' → M'.rt.length ≤ 24 → f.rb + f.lr ≤ M'.rt.length → FineV C I V0 (dropO V k) M' := fun k M' m1 m2 m3 => by
    rw [dropO_c hf]; exact FineV.turn h (fun _ => hm) hf m1 m2 rfl rfl m3 (by simp)
  have hput : ∀ (k : Nat) (v : Int) (M' : MS), 0 < k → k ≤ f.ops.length → MInv M' → M'.rt.length ≤ 24 → f.rb + f.lr ≤ M'.rt.length → FineV C I V0 (putO V k v) M' := fun k v M' k0 kl m1 m2 m3 => by
    rw [putO_c hf]; exact FineV.turn h (fun _ => hm) hf m1 m2 rfl rfl m3 (by have := put_len f.ops k v kl k0; show f.loc.length + (f.ops.take (f.ops.length - k) ++ [v]).length ≤ f.loc.length + f.ops.length; omega)
  have hself : ∀ (M' : MS), MInv M' → M'.rt.length ≤ 24 → f.rb + f.lr ≤ M'.rt.length → FineV C I V0 V M' := fun M' m1 m2 m3 => by
    have := FineV.turn (g := f) h (fun _ => hm) hf m1 m2 rfl rfl m3 (Nat.le_refl _)
    rw [← hf] at this; exact this
  have hdrop0 : ∀ k, (dropO V k).en = 0 := fun k => by rw [dropO_c hf]; exact h0
  have hdropJ : ∀ k, POk C I (dropO V k) M := fun k => (hdrop k M h.mi h.d24 hc1).ok
  unfold execV at mi ⊢
  by_cases e0 : op = 0
  · rw [if_pos e0] at mi ⊢
    exact FineV.push h h0 hm hf mi hd24 hc1 _
  rw [if_neg e0] at mi ⊢
  by_cases e1 : op = 1
  · rw [if_pos e1] at mi ⊢
    exact hdrop 1 M mi hd24 hc1
  rw [if_neg e1] at mi ⊢
  by_cases e2 : op = 2
  · rw [if_pos e2] at mi ⊢
    split
    · exact hdie 24 (by decide)
    · exact FineV.push h h0 hm hf mi hd24 hc1 _
  rw [if_neg e2] at mi ⊢
  by_cases e3 : op = 3
  · rw [if_pos e3] at mi ⊢
    split
    · exact hdie 24 (by decide)
    · have e := dropO_c hf 1
      rw [setLoc_c (f := { f with ops := f.ops.take (f.ops.length - 1) }) (r := r) (by rw [e])]
      rw [e]
      show FineV C I V0 { V with fs := { f with loc := f.loc.set (byteAt C (at' + 1)) (opn V 0), ops := f.ops.take (f.ops.length - 1) } :: r } M
      exact FineV.turn h (fun _ => hm) hf mi hd24 rfl rfl hc1 (by simp)
  rw [if_neg e3] at mi ⊢
  by_cases e4 : op = 4
  · rw [if_pos e4] at mi ⊢
    by_cases g : (topF V).lr ≤ byteAt C (at' + 1)
    · rw [if_pos g] at mi ⊢; exact hdie 24 (by decide)
    · rw [if_neg g] at mi ⊢
      obtain ⟨d1, d2⟩ := dup_len M ((topF V).rb + byteAt C (at' + 1) : Nat)
      exact did_fine (hself _ mi (by show (dupM M _).2.rt.length ≤ 24; omega) (by show _ ≤ (dupM M _).2.rt.length; omega)) h0
  rw [if_neg e4] at mi ⊢
  by_cases e5 : op = 5
  · rw [if_pos e5] at mi ⊢
    by_cases g : (topF V).lr ≤ byteAt C (at' + 1)
    · rw [if_pos g] at mi ⊢; exact hdie 24 (by decide)
    · rw [if_neg g] at mi ⊢
      rw [topF_c hf] at g mi ⊢
      have hw : wantR op = 1 := by rw [e5]; rfl
      rw [hw] at hR
      have := set_len M (f.rb + byteAt C (at' + 1)) (by omega)
      exact hself _ mi (by show (setM M _).2.rt.length ≤ 24; omega) (by show _ ≤ (setM M _).2.rt.length; omega)
  rw [if_neg e5] at mi ⊢
  by_cases e6 : op = 6
  · rw [if_pos e6] at mi ⊢
    have hw : wantR op = 1 := by rw [e6]; rfl
    rw [hw] at hR
    have := pop_len M 1 (by omega)
    exact hself _ mi (by show (popM M ((1 : Nat) : Int)).2.rt.length ≤ 24; omega) (by show _ ≤ (popM M ((1 : Nat) : Int)).2.rt.length; omega)
  rw [if_neg e6] at mi ⊢
  by_cases e7 : op = 7
  · rw [if_pos e7] at mi ⊢
    have := push_len M
    exact did_fine (hself _ mi (by show (pushM M).2.rt.length ≤ 24; rw [this]; split <;> omega) (by show _ ≤ (pushM M).2.rt.length; rw [this]; split <;> omega)) h0
  rw [if_neg e7] at mi ⊢
  by_cases e8 : op = 8 ∨ op = 9 ∨ op = 10
  · rw [if_pos e8] at mi ⊢
    have hw : wantI op = 2 := by rcases e8 with e | e | e <;> rw [e] <;> rfl
    rw [hw] at hI
    exact hput 2 _ M (by omega) hI mi hd24 hc1
  rw [if_neg e8] at mi ⊢
  by_cases e11 : op = 11 ∨ op = 12
  · rw [if_pos e11] at mi ⊢
    have hw : wantI op = 2 := by rcases e11 with e | e <;> rw [e] <;> rfl
    rw [hw] at hI
    split
    · exact FineV.die (hdropJ 1) (by decide) ((hdropJ 1).rt0 (hdrop0 1))
    · exact hput 2 _ M (by omega) hI mi hd24 hc1
  rw [if_neg e11] at mi ⊢
  by_cases e13 : op = 13
  · rw [if_pos e13] at mi ⊢
    have hw : wantI op = 1 := by rw [e13]; rfl
    rw [hw] at hI
    exact hput 1 _ M (by omega) hI mi hd24 hc1
  rw [if_neg e13] at mi ⊢
  by_cases e14 : op = 14
  · rw [if_pos e14] at mi ⊢
    have hw : wantI op = 1 := by rw [e14]; rfl
    rw [hw] at hI
    exact hput 1 _ M (by omega) hI mi hd24 hc1
  rw [if_neg e14] at mi ⊢
  by_cases e20 : op < 21
  · rw [if_pos e20] at mi ⊢
    have hw : wantI op = 2 := by
      have : op = 15 ∨ op = 16 ∨ op = 17 ∨ op = 18 ∨ op = 19 ∨ op = 20 := by omega
      rcases this with e | e | e | e | e | e <;> rw [e] <;> rfl
    rw [hw] at hI
    exact hput 2 _ M (by omega) hI mi hd24 hc1
  rw [if_neg e20] at mi ⊢
  by_cases e21 : op = 21
  · rw [if_pos e21] at mi ⊢
    exact FineV.jump h h0 hne hm0 hC
  rw [if_neg e21] at mi ⊢
  by_cases e22 : op = 22
  · rw [if_pos e22] at mi ⊢
    split
    · exact FineV.jump (hdropJ 1) (hdrop0 1) (by rw [dropO_c hf]; simp) ⟨by rw [dropO_c hf]; exact hm0.1, by rw [dropO_c hf, hm0.2.1, hf]; rfl, hm0.2.2⟩ hC
    · exact hdrop 1 M mi hd24 hc1
  rw [if_neg e22] at mi ⊢
  by_cases e23 : op = 23
  · rw [if_pos e23] at mi ⊢
    split
    · exact hdrop 1 M mi hd24 hc1
    · exact FineV.jump (hdropJ 1) (hdrop0 1) (by rw [dropO_c hf]; simp) ⟨by rw [dropO_c hf]; exact hm0.1, by rw [dropO_c hf, hm0.2.1, hf]; rfl, hm0.2.2⟩ hC
  rw [if_neg e23] at mi ⊢
  by_cases e24 : op = 24
  · rw [if_pos e24] at mi ⊢
    exact FineV.call h h0 ⟨hm0.1, hm0.2.1⟩ hC (hat.resolve_right (fun hh => hh e24)) mi
  rw [if_neg e24] at mi ⊢
  by_cases e25 : op = 25
  · rw [if_pos e25] at mi ⊢
    exact hdie 24 (by decide)
  rw [if_neg e25] at mi ⊢
  by_cases e26 : op = 26
  · rw [if_pos e26] at mi ⊢
    have hp := pop_len M (M.rt.length - f.rb) (by omega)
    have ep : ((M.rt.length - f.rb : Nat) : Int) = (M.rt.length : Int) - (topF V).rb := by rw [topF_c hf]; omega
    rw [ep] at hp
    have hus := h.us
    rw [hf, used_c] at hus
    have hms := h.ms
    have hmu : ∀ m e rt out, mu ⟨r, f.ret, V.fuel, V.ip, out, e, rt, V.steps, m⟩ < mu V0 := fun m e rt out => by
      unfold mu
      rw [hm0.1, hm0.2.1, hf]
      simp only [List.length_cons]
      omega
    rw [leaveV_c hf]
    cases hr : r with
    | nil =>
      rw [if_pos rfl]
      rw [hr] at hc
      refine ⟨⟨?_, Nat.zero_le _, h.ms, hc.2.1, h.ip, h.ou, fun hh => absurd rfl hh, mi, by show (popM M ((M.rt.length : Int) - (topF V).rb)).2.rt.length ≤ 24; omega⟩, fun h' => absurd h' (by show ¬ (21 : Int) = 0; decide)⟩
      show (popM M ((M.rt.length : Int) - (topF V).rb)).2.rt.length = 0
      have h9 : f.rb = 0 := hc.2.2
      omega
    | cons g r' =>
      rw [if_neg (by simp)]
      rw [hr] at hc
      have hc3 := hc.2.2
      refine FineV.push (V := { V with fs := g :: r', pc := f.ret }) (M := (popM M ((M.rt.length : Int) - (topF V).rb)).2) (f := g) (r := r') ⟨?_, ?_, h.ms, hc.2.1, h.ip, h.ou, h.rt, mi, by show (popM M ((M.rt.length : Int) - (topF V).rb)).2.rt.length ≤ 24; omega⟩ h0 ?_ rfl mi (by show (popM M ((M.rt.length : Int) - (topF V).rb)).2.rt.length ≤ 24; omega) (by have := hc3.1; show _ ≤ (popM M ((M.rt.length : Int) - (topF V).rb)).2.rt.length; omega) _
      · show ChF C.length (g :: r') (popM M ((M.rt.length : Int) - (topF V).rb)).2.rt.length
        exact hc3.top (by have := hc3.1; omega) rfl rfl
      · show usedF (g :: r') ≤ V.most
        rw [hr] at hus; omega
      · have := hmu V.most V.en V.rt V.out
        rw [hr] at this
        exact this
  rw [if_neg e26] at mi ⊢
  by_cases e27 : op = 27
  · rw [if_pos e27] at mi ⊢
    by_cases g : V.fs.length = 1
    · rw [if_pos g] at mi ⊢; exact hdie 24 (by decide)
    · rw [if_neg g] at mi ⊢
      have hw : wantR op = 1 := by rw [e27]; rfl
      rw [hw] at hR
      have hp := slide_len M (M.rt.length - f.rb - 1) (by omega)
      have ep : ((M.rt.length - f.rb - 1 : Nat) : Int) = (M.rt.length : Int) - (topF V).rb - 1 := by rw [topF_c hf]; omega
      rw [ep] at hp
      have hus := h.us
      rw [hf, used_c] at hus
      rw [leaveV_c hf]
      cases hr : r with
      | nil => rw [hf, hr] at g; simp at g
      | cons g' r' =>
        rw [hr] at hc
        have hc3 := hc.2.2
        refine ⟨⟨hc3.top (by have := hc3.1; show g'.rb + g'.lr ≤ (slideM M _).2.rt.length; omega) rfl rfl, ?_, h.ms, hc.2.1, h.ip, h.ou, h.rt, mi, by show (slideM M _).2.rt.length ≤ 24; omega⟩, fun _ => ⟨by simp, ?_⟩⟩
        · show usedF (g' :: r') ≤ V.most
          rw [hr] at hus; omega
        · unfold mu
          rw [hm0.1, hm0.2.1, hf, hr]
          simp only [List.length_cons]
          omega
  rw [if_neg e27] at mi ⊢
  by_cases e28 : op = 28
  · rw [if_pos e28] at mi ⊢
    have hal := alloc_len M 0 (opn V 0)
    refine did_fine (hdrop 1 _ mi ?_ ?_) (hdrop0 1)
    · show (allocM M 0 (opn V 0)).2.rt.length ≤ 24
      rcases hal with ⟨_, e⟩ | ⟨_, e, _⟩
      · rw [e]; exact hd24
      · omega
    · show _ ≤ (allocM M 0 (opn V 0)).2.rt.length
      rcases hal with ⟨_, e⟩ | ⟨_, e, _⟩
      · rw [e]; exact hc1
      · omega
  rw [if_neg e28] at mi ⊢
  by_cases e29 : op = 29
  · rw [if_pos e29] at mi ⊢
    have hal := alloc_len M (opn V 0) 0
    refine did_fine (hdrop 1 _ mi ?_ ?_) (hdrop0 1)
    · show (allocM M (opn V 0) 0).2.rt.length ≤ 24
      rcases hal with ⟨_, e⟩ | ⟨_, e, _⟩
      · rw [e]; exact hd24
      · omega
    · show _ ≤ (allocM M (opn V 0) 0).2.rt.length
      rcases hal with ⟨_, e⟩ | ⟨_, e, _⟩
      · rw [e]; exact hc1
      · omega
  rw [if_neg e29] at mi ⊢
  by_cases e30 : op = 30
  · rw [if_pos e30] at mi ⊢
    have hw : wantR op = 1 := by rw [e30]; rfl
    rw [hw] at hR
    have hw2 : wantI op = 1 := by rw [e30]; rfl
    rw [hw2] at hI
    have hp := pop_len M 1 (by omega)
    by_cases g : (ldIntM M ((M.rt.length : Int) - 1) (opn V 0)).2 = 0
    · rw [if_pos g] at mi ⊢
      exact hput 1 _ _ (by omega) hI mi (by show (popM M ((1 : Nat) : Int)).2.rt.length ≤ 24; omega) (by show _ ≤ (popM M ((1 : Nat) : Int)).2.rt.length; omega)
    · rw [if_neg g] at mi ⊢
      exact hdie _ (endOf_ne _).1
  rw [if_neg e30] at mi ⊢
  by_cases e31 : op = 31
  · rw [if_pos e31] at mi ⊢
    have hl := ldRef_len M ((M.rt.length : Int) - 1) (opn V 0) ((M.rt.length : Int) - 1)
    exact did_fine (hdrop 1 _ mi (by show (ldRefM M _ _ _).2.rt.length ≤ 24; omega) (by show _ ≤ (ldRefM M _ _ _).2.rt.length; omega)) (hdrop0 1)
  rw [if_neg e31] at mi ⊢
  by_cases e32 : op = 32
  · rw [if_pos e32] at mi ⊢
    have hw : wantR op = 1 := by rw [e32]; rfl
    rw [hw] at hR
    have hl := stInt_len M ((M.rt.length : Int) - 1) (opn V 1) (opn V 0)
    generalize stIntM M ((M.rt.length : Int) - 1) (opn V 1) (opn V 0) = T at *
    by_cases g : T.1 = 0
    · rw [if_pos g] at mi ⊢
      have hp := pop_len T.2 1 (by omega)
      exact hdrop 2 _ mi (by show (popM T.2 ((1 : Nat) : Int)).2.rt.length ≤ 24; omega) (by show _ ≤ (popM T.2 ((1 : Nat) : Int)).2.rt.length; omega)
    · rw [if_neg g] at mi ⊢
      have hd := hdrop 2 T.2 mi (by omega) (by omega)
      exact FineV.die hd.ok (endOf_ne _).1 (hd.ok.rt0 (hdrop0 2))
  rw [if_neg e32] at mi ⊢
  by_cases e33 : op = 33
  · rw [if_pos e33] at mi ⊢
    have hw : wantR op = 2 := by rw [e33]; rfl
    rw [hw] at hR
    have hl := stRef_len M ((M.rt.length : Int) - 2) (opn V 0) ((M.rt.length : Int) - 1)
    generalize stRefM M ((M.rt.length : Int) - 2) (opn V 0) ((M.rt.length : Int) - 1) = T at *
    by_cases g : T.1 = 0
    · rw [if_pos g] at mi ⊢
      have hp := pop_len T.2 2 (by omega)
      exact hdrop 1 _ mi (by show (popM T.2 ((2 : Nat) : Int)).2.rt.length ≤ 24; omega) (by show _ ≤ (popM T.2 ((2 : Nat) : Int)).2.rt.length; omega)
    · rw [if_neg g] at mi ⊢
      have hd := hdrop 1 T.2 mi (by omega) (by omega)
      exact FineV.die hd.ok (endOf_ne _).1 (hd.ok.rt0 (hdrop0 1))
  rw [if_neg e33] at mi ⊢
  by_cases e34 : op = 34
  · rw [if_pos e34] at mi ⊢
    have hw : wantR op = 1 := by rw [e34]; rfl
    rw [hw] at hR
    have hp := pop_len M 1 (by omega)
    by_cases g : (lenM M ((M.rt.length : Int) - 1)).2.2 = 0
    · rw [if_pos g] at mi ⊢
      exact FineV.push h h0 hm hf mi (by show (popM M ((1 : Nat) : Int)).2.rt.length ≤ 24; omega) (by show _ ≤ (popM M ((1 : Nat) : Int)).2.rt.length; omega) _
    · rw [if_neg g] at mi ⊢
      exact hdie _ (endOf_ne _).1
  rw [if_neg e34] at mi ⊢
  by_cases e35 : op = 35
  · rw [if_pos e35] at mi ⊢
    split
    · exact FineV.die (hdropJ 1) (by decide) ((hdropJ 1).rt0 (hdrop0 1))
    · rename_i g
      have hd := hdrop 1 M mi hd24 hc1
      rw [dropO_c hf] at hd ⊢
      exact ⟨⟨hd.ok.ch, hd.ok.us, hd.ok.ms, hd.ok.pc, hd.ok.ip, by simp; omega, hd.ok.rt, hd.ok.mi, hd.ok.d24⟩, hd.go⟩
  rw [if_neg e35] at mi ⊢
  split
  · exact hdie 30 (by decide)
  · rename_i g
    have hp := FineV.push h h0 hm hf mi hd24 hc1 (I.getD V.ip 0)
    exact ⟨⟨hp.ok.ch, hp.ok.us, hp.ok.ms, hp.ok.pc, by show V.ip + 1 ≤ _; omega, hp.ok.ou, hp.ok.rt, hp.ok.mi, hp.ok.d24⟩, hp.go⟩
theorem opArgs_lt {op : Nat} (h : ¬ opArgs op < 0) : op < 37 := by
  apply Classical.byContradiction
  intro hh
  apply h
  unfold opArgs
  rw [if_neg (by omega), if_neg (by omega), if_neg (by omega), if_neg (by omega), if_neg (by omega)]
  decide
/-- One step. -/
theorem step_fine (h : POk C I V M) (h0 : V.en = 0) (hne : V.fs ≠ []) (hC : C.length ≤ 4096) (mi : MInv (stepV C I V M).2) : FineV C I V (stepV C I V M).1 (stepV C I V M).2 := by
  obtain ⟨f, r, hf⟩ : ∃ f r, V.fs = f :: r := by
    cases hh : V.fs with
    | nil => exact absurd hh hne
    | cons f r => exact ⟨f, r, rfl⟩
  have hd : FineV C I V ({ V with steps := wr64 (V.steps + 1) }.die 24) M := ⟨⟨h.ch, h.us, h.ms, h.pc, h.ip, h.ou, fun _ => h.rt0 h0, h.mi, h.d24⟩, fun h' => absurd h' (by show ¬ (24 : Int) = 0; decide)⟩
  unfold stepV at mi ⊢
  by_cases g1 : C.length ≤ V.pc
  · rw [if_pos g1]; exact hd
  rw [if_neg g1] at mi ⊢
  by_cases g2 : opArgs (byteAt C V.pc) < 0 ∨ (C.length : Int) < V.pc + 1 + opArgs (byteAt C V.pc)
  · rw [if_pos g2]; exact hd
  rw [if_neg g2] at mi ⊢
  by_cases g3 : (topO V).length < wantI (byteAt C V.pc) ∨ ropsV V M < wantR (byteAt C V.pc)
  · rw [if_pos g3]; exact hd
  rw [if_neg g3] at mi ⊢
  rw [topO_c hf, ropsV_c hf] at g3
  have hop := opArgs_lt (fun hh => g2 (.inl hh))
  refine exec_fine (f := f) (r := r) ⟨h.ch, h.us, h.ms, by show V.pc + 1 + _ ≤ _; omega, h.ip, h.ou, h.rt, h.mi, h.d24⟩ h0 hf hC ?_ ⟨rfl, rfl, rfl⟩ (by omega) (by omega) hop ?_ mi
  · unfold mu
    show V.fuel.toNat * 100000 + V.fs.length * 4098 + (4097 - (V.pc + 1 + _)) < _
    omega
  · by_cases e : byteAt C V.pc = 24
    · left
      have : opArgs (byteAt C V.pc) = 2 := by rw [e]; rfl
      omega
    · exact .inr e
end
end Go.Proofs.Qxb6500277aGreat
