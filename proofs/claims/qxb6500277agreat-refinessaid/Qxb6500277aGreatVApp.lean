/- append onto a list of variables, said of blocks. -/
import Derived.Test.Qxb6500277aGreatCB6
import Derived.Test.Qxb6500277aGreatNApp
import Derived.ArgAppend
namespace Go.Proofs.Qxb6500277aGreat
open Go Go.RowKit

theorem lt4c {o : Nat} (h : o < 4) : o = 0 ∨ o = 1 ∨ o = 2 ∨ o = 3 := by omega
def vr0 : Vr := ⟨⟨#[]⟩, 0, 0, 0⟩
def vrCell (v : Vr) (o : Nat) : Value := match o with | 0 => .string v.name | 1 => .int .i64 v.ty | 2 => .int .i64 v.slot | _ => .int .i64 v.level
def zVr : Value := .agg #[.string ⟨#[]⟩, .int .i64 0, .int .i64 0, .int .i64 0]
def bufV (p : List Vr) (o : Nat) : Value := vrCell (p.getD (o / 4) vr0) (o % 4)
def vrRow (p : List Vr) : List Value := p.flatMap fun t => [.string t.name, .int .i64 t.ty, .int .i64 t.slot, .int .i64 t.level]
theorem vrRow_length (p : List Vr) : (vrRow p).length = p.length * 4 := by
  induction p with
  | nil => rfl
  | cons i p ih => simp only [vrRow, List.flatMap_cons, List.length_append, List.length_cons, List.length_nil] at ih ⊢; omega
theorem vrRow_get : ∀ (p : List Vr) (i : Nat) (h : i < p.length) (j : Nat), j < 4 → (vrRow p)[i * 4 + j]? = some (vrCell p[i] j)
  | [], _, h, _, _ => absurd h (by simp)
  | q :: p, 0, _, j, hj => by
    rcases lt4c hj with rfl | rfl | rfl | rfl <;> rfl
  | q :: p, i + 1, h, j, hj => by
    have := vrRow_get p i (by simpa using h) j hj
    simp only [vrRow, List.flatMap_cons] at this ⊢
    rw [List.getElem?_append_right (by simp; omega)]
    simpa [show (i + 1) * 4 + j - 4 = i * 4 + j by omega] using this
theorem vrRow_append (p q : List Vr) : vrRow (p ++ q) = vrRow p ++ vrRow q := by simp [vrRow]
theorem vrRow_one (p : List Vr) : ∀ u ∈ vrRow p, u.oneCell' = true := by
  intro u hu
  simp only [vrRow, List.mem_flatMap] at hu
  obtain ⟨i, _, hu⟩ := hu
  simp only [List.mem_cons, List.not_mem_nil, or_false] at hu
  rcases hu with rfl | rfl | rfl | rfl <;> rfl
/-- Block b's first cells hold the nodes p. -/
def PAv (w : World) (b : Nat) (p : List Vr) : Prop := ∀ o, o < p.length * 4 → w.cell? ⟨b, o, none⟩ = some (bufV p o)
theorem PAv.row {w : World} {b : Nat} {p : List Vr} (h : PAv w b p) (j : Nat) (u : Value) (e : (vrRow p)[j]? = some u) : w.cell? ⟨b, j, none⟩ = some u := by
  have hj : j < p.length * 4 := by have := (List.getElem?_eq_some_iff.1 e).1; rwa [vrRow_length] at this
  have h1 := vrRow_get p (j / 4) (by omega) (j % 4) (by omega)
  rw [show j / 4 * 4 + j % 4 = j by omega] at h1
  rw [h1] at e
  cases e
  rw [h j hj]
  simp [bufV, show j / 4 < p.length by omega]
theorem row_bufV {p : List Vr} {f : Nat → Value} (h : ∀ j u, (vrRow p)[j]? = some u → f j = u) : ∀ o, o < p.length * 4 → f o = bufV p o := by
  intro o ho
  have h1 := vrRow_get p (o / 4) (by omega) (o % 4) (by omega)
  rw [show o / 4 * 4 + o % 4 = o by omega] at h1
  rw [h o _ h1]
  simp [bufV, show o / 4 < p.length by omega]

/-- A slice that holds the nodes p, with spare room behind them perhaps. -/
def SlV (w : World) (v : Value) (p : List Vr) : Prop :=
  (v = .slice none 0 0 ∧ p = []) ∨ ∃ b cap f, v = .slice (some ⟨b, 0, none⟩) p.length cap ∧ p.length ≤ cap ∧ Blk w b (cap * 4) f ∧ ∀ o, o < p.length * 4 → f o = bufV p o
theorem SlV.frame {S : Nat → Prop} {w w' : World} {v : Value} {p : List Vr} (h : SlV w v p) (k : Fr S w w') (hb : ∀ b n c, v = .slice (some ⟨b, 0, none⟩) n c → ¬ S b) : SlV w' v p := by
  rcases h with h | ⟨b, cap, f, rfl, hc, hb', hf⟩
  · exact .inl h
  · exact .inr ⟨b, cap, f, rfl, hc, hb'.frame k (hb _ _ _ rfl), hf⟩
theorem SlV.own {w' : World} {v' : Value} {base : Nat} {p : List Vr} (hp : 0 < p.length) (h : w'.ownsRow base 186 4 v' p.length (vrRow p)) :
    SlV w' v' p ∧ ∀ b n c, v' = .slice (some ⟨b, 0, none⟩) n c → base ≤ b := by
  obtain ⟨_, ⟨_, h0⟩ | ⟨g, cap, cur, rfl, hg, hb, hn, _, hs, ht⟩⟩ := h
  · omega
  · refine ⟨.inr ⟨g, cap, fun o => cur.getD o undef, rfl, hn, ⟨cur, 186, hb, hs, fun o ho => ?_⟩, row_bufV fun j u e => ?_⟩, fun b n c e => ?_⟩
    · simp [show o < cur.size by omega]
    · rw [← ht] at e
      have hj : j < cur.size := by have := (List.getElem?_eq_some_iff.1 e).1; simp at this; omega
      rw [List.getElem?_take] at e
      split at e
      · simp [hj] at e ⊢; exact e
      · cases e
    · cases e; exact hg
theorem one_appendV (p : List Vr) (i : Vr) : (p ++ [i]).length = p.length + 1 := by simp

section
variable {ops : Array Oper} {Q : Exit → Act → World → Prop} {a : Act} {w : World} {rest : List Oper} {o : Oper}
theorem wpList_appendVr (hgd : o.guard = none) (s x : Operand) (ho : o.op = .call { callee := .builtin .append, args := #[s, x], argTypes := #[139, 139] })
    (v : Value) (p : List Vr) (i : Vr) (xb xc : Nat) (hs : a.eval s = v) (hx : a.eval x = .slice (some ⟨xb, 0, none⟩) 1 xc) (hv : SlV w v p) (hxb : PAv w xb [i]) (hlen : p.length ≤ 200)
    (h : ∀ v' w', SlV w' v' (p ++ [i]) → (∀ b n c, v' = .slice (some ⟨b, 0, none⟩) n c → w.heap.size ≤ b ∨ ∃ n' c', v = .slice (some ⟨b, 0, none⟩) n' c') →
      Fr (fun b => ∃ n c, v = .slice (some ⟨b, 0, none⟩) n c) w w' → wpList Tryz.prog ops Q rest (a.put o.dst v') w') : wpList Tryz.prog ops Q (o :: rest) a w := by
  obtain ⟨ti, hi, hz, hsz, hby⟩ : ∃ ti, Tryz.prog.info? 186 = some ti ∧ ti.zero = some (zVr) ∧ ti.size = 4 ∧ ti.bytes = 40 := by
    have e1 : (Tryz.prog.info? 186).map (·.size) = some 4 := by kernel_rfl
    have e2 : (Tryz.prog.info? 186).map (·.bytes) = some 40 := by kernel_rfl
    have e3 : (Tryz.prog.info? 186).bind (·.zero) = some (zVr) := by kernel_rfl
    cases hq : Tryz.prog.info? 186 with
    | none => rw [hq] at e1; cases e1
    | some ti =>
      rw [hq] at e1 e2 e3
      exact ⟨ti, rfl, by simpa using e3, by simpa using e1, by simpa using e2⟩
  have hz7 : (zVr).cells.size = 4 := by kernel_rfl
  have hadd : ∀ (b j : Nat), (⟨b, 0, none⟩ : Addr).add j = ⟨b, j, none⟩ := fun b j => by rw [Addr.add_lit]; simp
  have hnews : ∀ j u, (vrRow [i])[j]? = some u → w.cell? ((⟨xb, 0, none⟩ : Addr).add j) = some u := fun j u e => by rw [hadd]; exact hxb.row j u e
  have hpos : 0 < (p ++ [i]).length := by simp
  have hgrow : ∀ v' w', w'.ownsRow w.heap.size 186 4 v' (p.length + 1) (vrRow p ++ vrRow [i]) → w.grownBy w' none → wpList Tryz.prog ops Q rest (a.put o.dst v') w' := by
    intro v' w' h1 h2
    rw [← vrRow_append, ← one_appendV p i] at h1
    obtain ⟨c1, c2⟩ := SlV.own hpos h1
    exact h v' w' c1 (fun b n c e => .inl (c2 b n c e)) ((Fr.grown h2).mono (fun _ _ h => h.elim))
  rcases hv with ⟨rfl, rfl⟩ | ⟨b, cap, f, rfl, hc, hb, hf⟩
  · exact wpList_append_grows w hgd s x 139 ho 186 ti _ 4 40 Tryz.underlying139 hi hz hsz hby hz7 (by omega) none 0 0 [] hs (fun _ => ⟨rfl, rfl⟩) rfl (fun _ e => by cases e) ⟨xb, 0, none⟩ 1 xc (vrRow [i]) hx rfl hnews (vrRow_one _) (by omega) (by simp [maxLen]) (by omega)
      (fun v' w' h1 h2 => hgrow v' w' h1 h2)
  · have hpa : PAv w b p := fun o ho => by rw [hb.cell (by omega), hf o ho]
    refine wpList_append_arg w hgd s x 139 ho 186 ti _ 4 40 Tryz.underlying139 hi hz hsz hby hz7 (by omega) b 0 p.length cap (vrRow p) hs (vrRow_length p) (fun j u e => by rw [Nat.zero_add]; exact hpa.row j u e)
      ⟨xb, 0, none⟩ 1 xc (vrRow [i]) hx rfl hnews (vrRow_one _) (fun hr j hj => ?_) (by simp only [maxLen]; omega) (by omega) (fun hr => ?_) (fun _ v' w' h1 h2 => hgrow v' w' h1 h2)
    · have hj7 : j < 4 := hj
      rw [hb.cell (by omega)]
      exact ⟨rfl, hb.frozen _⟩
    · refine h _ _ ?_ (fun b' n c e => .inr ?_) ((Fr.refl _ _).setCells b (fun _ => ⟨_, _, rfl⟩) _ _)
      · refine .inr ⟨b, cap, _, by rw [one_appendV], by rw [one_appendV]; omega, hb.setCells _ _, ?_⟩
        refine row_bufV fun j u e => ?_
        rw [vrRow_append] at e
        by_cases hlt : j < p.length * 4
        · rw [lay_out _ _ _ _ (.inl (by omega)), hf j hlt]
          rw [List.getElem?_append_left (by rw [vrRow_length]; exact hlt)] at e
          have := hpa.row j u e
          rw [hpa j hlt] at this
          simpa using this
        · rw [List.getElem?_append_right (by rw [vrRow_length]; omega), vrRow_length] at e
          obtain ⟨q1, q2⟩ := List.getElem?_eq_some_iff.1 e
          rw [lay_in _ _ _ _ (by omega) (by omega), ← q2]
          simp only [Nat.zero_add]
      · cases e; exact ⟨_, _, rfl⟩
end
end Go.Proofs.Qxb6500277aGreat
