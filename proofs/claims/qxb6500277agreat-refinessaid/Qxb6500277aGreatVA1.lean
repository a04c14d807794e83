/- append of a whole slice onto an emptied one. -/
import Derived.Test.Qxb6500277aGreatVR1
import Derived.ArgAppend
namespace Go.Proofs.Qxb6500277aGreat
open Go Go.RowKit

theorem run_append_none {P : Program} (w : World) (t ty e : TypeId) (i : TypeInfo) (ht : P.underlying t = some (.slice e)) (hi : P.info? e = some i) (ao : Option Addr) (n cap : Nat) (hc : n ≤ cap) (xa : Option Addr) (xc : Nat) :
    (Builtin.append_ #[t, t] ty #[.slice ao n cap, .slice xa 0 xc]).run P w = .ok (.slice ao n cap) w := by
  have hf : (Builtin.firstCells i.size 0 (.slice xa 0 xc)).run P w = .ok #[] w := by
    cases xa with
    | none => rfl
    | some a =>
      have := run_firstCells_some (P := P) w i.size 0 a 0 xc [] (by simp) (fun j u h => by simp at h)
      simpa using this
  cases ao with
  | none => simp [Builtin.append_, run_underlying ht, sizeOf, typeInfo, hi, Builtin.lenOf, hc, hf]
  | some a => simp [Builtin.append_, run_underlying ht, sizeOf, typeInfo, hi, Builtin.lenOf, hc, hf, storeCells]
section
variable {P : Program} {ops : Array Oper} {Q : Exit → Act → World → Prop} {a : Act} {w : World} {rest : List Oper} {o : Oper}
theorem wpList_appendE (hgd : o.guard = none) (s x : Operand) (t : TypeId) (ho : o.op = .call { callee := .builtin .append, args := #[s, x], argTypes := #[t, t] })
    (e : TypeId) (i : TypeInfo) (ht : P.underlying t = some (.slice e)) (hi : P.info? e = some i) (ao : Option Addr) (n cap : Nat) (hs : a.eval s = .slice ao n cap) (hc : n ≤ cap) (xa : Option Addr) (xc : Nat) (hx : a.eval x = .slice xa 0 xc)
    (h : wpList P ops Q rest (a.put o.dst (.slice ao n cap)) w) : wpList P ops Q (o :: rest) a w := by
  refine wpList_plain hgd fun K hK' => ?_
  have hrun := run_append_none (P := P) w t o.type e i ht hi ao n cap hc xa xc
  unfold Oper.wp
  simp [execOp, ho, resolve, invoke, builtin, hs, hx, hrun, Result.andThen]
  exact hK' _ _ h
end
section
variable {ops : Array Oper} {Q : Exit → Act → World → Prop} {a : Act} {w : World} {rest : List Oper} {o : Oper}
theorem info3 : ∃ ti, Tryz.prog.info? 3 = some ti ∧ ti.zero = some (iv 0) ∧ ti.size = 1 ∧ ti.bytes = 8 := by
  have e1 : (Tryz.prog.info? 3).map (·.size) = some 1 := by kernel_rfl
  have e2 : (Tryz.prog.info? 3).map (·.bytes) = some 8 := by kernel_rfl
  have e3 : (Tryz.prog.info? 3).bind (·.zero) = some (iv 0) := by kernel_rfl
  cases hq : Tryz.prog.info? 3 with
  | none => rw [hq] at e1; cases e1
  | some ti =>
    rw [hq] at e1 e2 e3
    exact ⟨ti, rfl, by simpa using e3, by simpa using e1, by simpa using e2⟩
def bv (x : Nat) : Value := .int .u8 (x : Nat)
theorem info5 : ∃ ti, Tryz.prog.info? 5 = some ti ∧ ti.zero = some (bv 0) ∧ ti.size = 1 ∧ ti.bytes = 1 := by
  have e1 : (Tryz.prog.info? 5).map (·.size) = some 1 := by kernel_rfl
  have e2 : (Tryz.prog.info? 5).map (·.bytes) = some 1 := by kernel_rfl
  have e3 : (Tryz.prog.info? 5).bind (·.zero) = some (bv 0) := by kernel_rfl
  cases hq : Tryz.prog.info? 5 with
  | none => rw [hq] at e1; cases e1
  | some ti =>
    rw [hq] at e1 e2 e3
    exact ⟨ti, rfl, by simpa using e3, by simpa using e1, by simpa using e2⟩
/-- Numbers onto an emptied slice. -/
theorem wpList_appI0 (hgd : o.guard = none) (s x : Operand) (ho : o.op = .call { callee := .builtin .append, args := #[s, x], argTypes := #[36, 36] })
    (v xv : Value) (ys : List Int) (hs : a.eval s = v) (hx : a.eval x = xv) (hv : KiAt w v []) (hxv : KiAt w xv ys) (hlen : ys.length ≤ 100000)
    (h : ∀ v' w', KiAt w' v' ys → (∀ b, isB v' b → w.heap.size ≤ b ∨ isB v b) → Fr (isB v) w w' → wpList Tryz.prog ops Q rest (a.put o.dst v') w') : wpList Tryz.prog ops Q (o :: rest) a w := by
  rcases Nat.eq_zero_or_pos ys.length with h0 | h0
  · obtain ⟨ti, hi, _⟩ := info3
    obtain ⟨xa, xc, rfl, _⟩ := hxv.sl
    obtain ⟨va, vc, hve, hvc⟩ := hv.sl
    rw [List.length_nil] at hve hvc
    rw [h0] at hx
    have hy : ys = [] := List.eq_nil_of_length_eq_zero h0
    refine wpList_appendE hgd s x 36 ho 3 ti Tryz.underlying36 hi va 0 vc (by rw [hs, hve]) hvc xa xc hx ?_
    rw [← hve]
    exact h v w (by rw [hy]; exact hv) (fun b hb => .inr hb) (Fr.refl _ _)
  · obtain ⟨b, c, rfl, _, _⟩ := hxv.get h0
    refine wpList_appendI hgd s x ho v [] ys b ys.length c hs hx rfl hv hxv.cells (.inr h0) (by simpa using hlen) ?_
    simpa using h
theorem rowB_get (p : List Nat) (j : Nat) (u : Value) (e : (p.map bv)[j]? = some u) : j < p.length ∧ u = .int .u8 (byteAt p j : Nat) := by
  obtain ⟨h1, h2⟩ := List.getElem?_eq_some_iff.1 e
  have h1' : j < p.length := by simpa using h1
  exact ⟨h1', by rw [← h2]; simp [bv, byteAt, h1']⟩
theorem rowB_one (p : List Nat) : ∀ u ∈ p.map bv, u.oneCell' = true := fun u hu => by
  obtain ⟨x, _, rfl⟩ := List.mem_map.1 hu
  rfl
theorem BAt.own {w' : World} {v' : Value} {base : Nat} {p : List Nat} (hp : 0 < p.length) (h : w'.ownsRow base 5 1 v' p.length (p.map bv)) :
    BAt w' v' p ∧ ∀ b, isB v' b → base ≤ b := by
  obtain ⟨_, ⟨_, h0⟩ | ⟨g, cap, cur, rfl, hg, hb, hn, _, hs, ht⟩⟩ := h
  · omega
  · refine ⟨.inr ⟨g, cap, fun o => cur.getD o undef, rfl, hn, ⟨cur, 5, hb, by omega, fun o ho => ?_⟩, fun i hi => ?_⟩, fun b hb' => by rw [isB_one hb']; exact hg⟩
    · simp [show o < cur.size by omega]
    · have e : (p.map bv)[i]? = some (.int .u8 (byteAt p i : Nat)) := by simp [bv, byteAt, hi]
      rw [← ht] at e
      rw [List.getElem?_take] at e
      split at e
      · have hj : i < cur.size := by omega
        simp [hj] at e ⊢; exact e
      · cases e
/-- Bytes that can be read. -/
def BRd (w : World) (v : Value) (C : List Nat) : Prop :=
  (v = .slice none 0 0 ∧ C = []) ∨ ∃ b cap, v = .slice (some ⟨b, 0, none⟩) C.length cap ∧ C.length ≤ cap ∧ b < w.heap.size ∧ ∀ i, i < C.length → w.cell? ⟨b, i, none⟩ = some (.int .u8 (byteAt C i))
theorem BRd.frame {F : Nat → Prop} {w w' : World} {v : Value} {C : List Nat} (h : BRd w v C) (k : Fr F w w') (hb : ∀ b, isB v b → ¬ F b) : BRd w' v C := by
  rcases h with h | ⟨b, cap, rfl, h1, h2, h3⟩
  · exact .inl h
  · exact .inr ⟨b, cap, rfl, h1, Nat.lt_of_lt_of_le h2 k.size, fun i hi => by rw [k.cell (p := ⟨b, i, none⟩) h2 (hb b ⟨_, _, rfl⟩)]; exact h3 i hi⟩
theorem BRd.sl {w : World} {v : Value} {C : List Nat} (h : BRd w v C) : ∃ a c, v = .slice a C.length c ∧ C.length ≤ c := by
  rcases h with ⟨rfl, rfl⟩ | ⟨b, cap, rfl, h1, h2, h3⟩
  · exact ⟨none, 0, rfl, by simp⟩
  · exact ⟨_, _, rfl, h1⟩
theorem BRd.all {w : World} {v : Value} {C : List Nat} (h : BRd w v C) (h0 : 0 < C.length) : ∃ b c, v = .slice (some ⟨b, 0, none⟩) C.length c ∧ b < w.heap.size ∧ ∀ i, i < C.length → w.cell? ⟨b, i, none⟩ = some (.int .u8 (byteAt C i)) := by
  rcases h with ⟨rfl, rfl⟩ | ⟨b, cap, rfl, h1, h2, h3⟩
  · cases h0
  · exact ⟨b, cap, rfl, h2, h3⟩
theorem BAt.rd {w : World} {v : Value} {C : List Nat} (h : BAt w v C) : BRd w v C := by
  rcases h with h | ⟨b, cap, f, rfl, h1, h2, h3⟩
  · exact .inl h
  · exact .inr ⟨b, cap, rfl, h1, h2.lt, fun i hi => by rw [h2.cell (by omega), h3 i hi]⟩
/-- Bytes onto an emptied slice. -/
theorem wpList_appB0 (hgd : o.guard = none) (s x : Operand) (ho : o.op = .call { callee := .builtin .append, args := #[s, x], argTypes := #[70, 70] })
    (v xv : Value) (ys : List Nat) (hs : a.eval s = v) (hx : a.eval x = xv) (hv : BAt w v []) (hxv : BRd w xv ys) (hlen : ys.length ≤ 100000)
    (h : ∀ v' w', BAt w' v' ys → (∀ b, isB v' b → w.heap.size ≤ b ∨ isB v b) → Fr (isB v) w w' → wpList Tryz.prog ops Q rest (a.put o.dst v') w') : wpList Tryz.prog ops Q (o :: rest) a w := by
  obtain ⟨ti, hi, hz, hsz, hby⟩ := info5
  rcases Nat.eq_zero_or_pos ys.length with h0 | h0
  · obtain ⟨xa, xc, rfl, _⟩ := hxv.sl
    obtain ⟨va, vc, hve, hvc⟩ := hv.sl
    rw [List.length_nil] at hve hvc
    rw [h0] at hx
    have hy : ys = [] := List.eq_nil_of_length_eq_zero h0
    refine wpList_appendE hgd s x 70 ho 5 ti Tryz.underlying70 hi va 0 vc (by rw [hs, hve]) hvc xa xc hx ?_
    rw [← hve]
    exact h v w (by rw [hy]; exact hv) (fun b hb => .inr hb) (Fr.refl _ _)
  · obtain ⟨xb, xc, rfl, _, hcells⟩ := hxv.all h0
    have hz9 : (bv 0).cells.size = 1 := by kernel_rfl
    have hadd : ∀ (b j : Nat), (⟨b, 0, none⟩ : Addr).add j = ⟨b, j, none⟩ := fun b j => by rw [Addr.add_lit]; simp
    have hnews : ∀ j u, (ys.map bv)[j]? = some u → w.cell? ((⟨xb, 0, none⟩ : Addr).add j) = some u := fun j u e => by
      obtain ⟨hj, rfl⟩ := rowB_get ys j u e
      rw [hadd]; exact hcells j hj
    have hgrow : ∀ v' w', w'.ownsRow w.heap.size 5 1 v' ys.length (ys.map bv) → w.grownBy w' none → wpList Tryz.prog ops Q rest (a.put o.dst v') w' := by
      intro v' w' h1 h2
      obtain ⟨c1, c2⟩ := BAt.own h0 h1
      exact h v' w' c1 (fun b e => .inl (c2 b e)) ((Fr.grownI h2).mono (fun _ _ h => h.elim))
    rcases hv with ⟨rfl, _⟩ | ⟨b, cap, f, rfl, hc, hb, hf⟩
    · exact wpList_append_grows w hgd s x 70 ho 5 ti _ 1 1 Tryz.underlying70 hi hz hsz hby hz9 (by omega) none 0 0 [] hs (fun _ => ⟨rfl, rfl⟩) rfl (fun _ e => by cases e) ⟨xb, 0, none⟩ ys.length xc (ys.map bv) hx (by simp) hnews (rowB_one _) (by omega) (by simp [maxLen]; omega) (by omega)
        (fun v' w' h1 h2 => hgrow v' w' (by simpa using h1) h2)
    · refine wpList_append_arg w hgd s x 70 ho 5 ti _ 1 1 Tryz.underlying70 hi hz hsz hby hz9 (by omega) b 0 0 cap [] hs (by simp) (fun j u e => by simp at e)
        ⟨xb, 0, none⟩ ys.length xc (ys.map bv) hx (by simp) hnews (rowB_one _) (fun hr j hj => ?_) (by simp only [maxLen]; omega) (by omega) (fun hr => ?_) (fun _ v' w' h1 h2 => hgrow v' w' (by simpa using h1) h2)
      · have hj9 : j < ys.length := by simpa using hj
        rw [hb.cell (by omega)]
        exact ⟨rfl, hb.frozen _⟩
      · refine h _ _ ?_ (fun b' e => .inr ?_) ((Fr.refl _ _).setCells b (fun _ => ⟨_, _, rfl⟩) _ _)
        · refine .inr ⟨b, cap, _, by rw [Nat.zero_add], by omega, hb.setCells _ _, ?_⟩
          intro k hk
          rw [lay_in _ _ _ _ (by omega) (by simp; omega)]
          simp [bv, byteAt, hk]
        · rw [isB_one e]; exact ⟨_, _, rfl⟩
end
end Go.Proofs.Qxb6500277aGreat
