/- Bytes in slices; append; hexOf, Has, putByte, wants. -/
import Derived.Test.Qxb6500287aL1
import Derived.Test.Qxb6500287aR1
import Derived.Test.Qxb6500287aCopy
namespace Go.Proofs.Qxb6500287a
open Go Go.RowKit

def btRow (l : List Nat) : List Value := l.map fun c => .int .u8 (c : Nat)
theorem btRow_length (l : List Nat) : (btRow l).length = l.length := by simp [btRow]
theorem btRow_append (l t : List Nat) : btRow (l ++ t) = btRow l ++ btRow t := by simp [btRow]
theorem btRow_one (l : List Nat) : ∀ u ∈ btRow l, u.oneCell' = true := by
  intro u hu
  simp only [btRow, List.mem_map] at hu
  obtain ⟨c, _, rfl⟩ := hu
  rfl
def HoldsB (f : Nat → Value) (l : List Nat) : Prop := ∀ i (h : i < l.length), f i = .int .u8 (l[i] : Nat)
/-- A byte slice that holds l. -/
def BtAt (w : World) (v : Value) (l : List Nat) : Prop :=
  (v = .slice none 0 0 ∧ l = []) ∨ ∃ b cap f, v = .slice (some ⟨b, 0, none⟩) l.length cap ∧ l.length ≤ cap ∧ Blk w b cap f ∧ HoldsB f l
theorem BtAt.frame {S : Nat → Prop} {w w' : World} {v : Value} {l : List Nat} (h : BtAt w v l) (k : Fr S w w') (hb : ∀ b, isBlk v b → ¬ S b) : BtAt w' v l := by
  rcases h with h | ⟨b, cap, f, rfl, hc, hbk, hf⟩
  · exact .inl h
  · exact .inr ⟨b, cap, f, rfl, hc, hbk.frame k (hb b ⟨_, _, rfl⟩), hf⟩
theorem BtAt.sl {w : World} {v : Value} {l : List Nat} (h : BtAt w v l) : ∃ a n cap, v = .slice a n cap := by
  rcases h with ⟨rfl, rfl⟩ | ⟨b, cap, f, rfl, _⟩
  · exact ⟨none, 0, 0, rfl⟩
  · exact ⟨_, _, _, rfl⟩
theorem BtAt.lt {w : World} {v : Value} {l : List Nat} (h : BtAt w v l) {b : Nat} (hb : isBlk v b) : b < w.heap.size := by
  obtain ⟨n, c, e⟩ := hb
  rcases h with ⟨rfl, _⟩ | ⟨b', cap, f, rfl, _, ht, _⟩
  · cases e
  · cases e; exact ht.lt
theorem btRow_get {l : List Nat} {j : Nat} {u : Value} (e : (btRow l)[j]? = some u) : ∃ h : j < l.length, u = .int .u8 (l[j] : Nat) := by
  have hj : j < l.length := by have := (List.getElem?_eq_some_iff.1 e).1; rwa [btRow_length] at this
  refine ⟨hj, ?_⟩
  simp [btRow, hj] at e
  exact e.symm
theorem BtAt.own {w' : World} {v' : Value} {base : Nat} {l : List Nat} (hp : 0 < l.length) (h : w'.ownsRow base 5 1 v' l.length (btRow l)) : BtAt w' v' l ∧ ∀ b, isBlk v' b → base ≤ b := by
  obtain ⟨_, ⟨_, h0⟩ | ⟨g, cap, cur, rfl, hg, hb, hn, _, hs, ht⟩⟩ := h
  · omega
  · rw [Nat.mul_one] at hs
    refine ⟨.inr ⟨g, cap, fun o => cur.getD o undef, rfl, hn, ⟨cur, 5, hb, hs, fun o ho => ?_⟩, fun j hj => ?_⟩, fun b hb => ?_⟩
    · simp [show o < cur.size by omega]
    · have e : (btRow l)[j]? = some (.int .u8 (l[j] : Nat)) := by simp [btRow, hj]
      rw [← ht] at e
      have hj2 : j < cur.size := by have := (List.getElem?_eq_some_iff.1 e).1; simp at this; omega
      rw [List.getElem?_take] at e
      split at e
      · simp [hj2] at e ⊢; exact e
      · cases e
    · obtain ⟨n, c, e⟩ := hb; cases e; exact hg
/-- The bytes t are laid behind the slice v, which held l. -/
structure Put (w : World) (v : Value) (l t : List Nat) (v' : Value) (w' : World) : Prop where
  bt : BtAt w' v' (l ++ t)
  fr : Fr (isBlk v) w w'
  bk : ∀ b, isBlk v' b → isBlk v b ∨ w.heap.size ≤ b
theorem Put.trans {w w1 w2 : World} {v v1 v2 : Value} {l t t2 : List Nat} (h : Put w v l t v1 w1) (h2 : Put w1 v1 (l ++ t) t2 v2 w2) : Put w v l (t ++ t2) v2 w2 :=
  ⟨by rw [← List.append_assoc]; exact h2.bt, h.fr.trans h2.fr (fun b hb e => (h.bk b e).elim (fun h => h) (fun h => by omega)), fun b hb => (h2.bk b hb).elim (fun e => h.bk b e) (fun e => .inr (by have := h.fr.size; omega))⟩
theorem Put.pre {w0 w w' : World} {v v' : Value} {l t : List Nat} (h : Put w v l t v' w') (k : Fr (fun _ => False) w0 w) : Put w0 v l t v' w' := ⟨h.bt, (k.mono (fun _ _ h => h.elim)).trans h.fr (fun _ _ e => e), fun b hb => (h.bk b hb).elim .inl (fun e => .inr (by have := k.size; omega))⟩
theorem Put.post {w w' w2 : World} {v v' : Value} {l t : List Nat} (h : Put w v l t v' w') (k : Fr (fun _ => False) w' w2) : Put w v l t v' w2 := ⟨h.bt.frame k (fun _ _ h => h), h.fr.trans k (fun _ _ h => h.elim), h.bk⟩
theorem Put.nil {w w' : World} {v : Value} {l : List Nat} (h : BtAt w v l) (k : Fr (fun _ => False) w w') : Put w v l [] v w' := ⟨by rw [List.append_nil]; exact h.frame k (fun _ _ h => h), k.mono (fun _ _ h => h.elim), fun _ h => .inl h⟩
section
variable {ops : Array Oper} {Q : Exit → Act → World → Prop} {a : Act} {w : World} {rest : List Oper} {o : Oper}
set_option maxRecDepth 100000 in
theorem wpList_appendB (hgd : o.guard = none) (s x : Operand) (ho : o.op = .call { callee := .builtin .append, args := #[s, x], argTypes := #[74, 74] })
    (v : Value) (l t : List Nat) (xb : Nat) (hs : a.eval s = v) (hx : a.eval x = .slice (some ⟨xb, 0, none⟩) t.length t.length) (hv : BtAt w v l) (hxb : ∀ j (h : j < t.length), w.cell? ⟨xb, j, none⟩ = some (.int .u8 (t[j] : Nat))) (ht : 0 < t.length) (ht9 : t.length ≤ 9) (hlen : l.length ≤ 1099511627776)
    (h : ∀ v' w', Put w v l t v' w' → wpList Try.prog ops Q rest (a.put o.dst v') w') : wpList Try.prog ops Q (o :: rest) a w := by
  obtain ⟨ti, hi, hz, hsz, hby⟩ : ∃ ti, Try.prog.info? 5 = some ti ∧ ti.zero = some (.int .u8 0) ∧ ti.size = 1 ∧ ti.bytes = 1 := by
    have e1 : (Try.prog.info? 5).map (·.size) = some 1 := by kernel_rfl
    have e2 : (Try.prog.info? 5).map (·.bytes) = some 1 := by kernel_rfl
    have e3 : (Try.prog.info? 5).bind (·.zero) = some (.int .u8 0) := by kernel_rfl
    cases hq : Try.prog.info? 5 with
    | none => rw [hq] at e1; cases e1
    | some ti =>
      rw [hq] at e1 e2 e3
      exact ⟨ti, rfl, by simpa using e3, by simpa using e1, by simpa using e2⟩
  have hz1 : (Value.int .u8 0).cells.size = 1 := by kernel_rfl
  have hadd : ∀ (b j : Nat), (⟨b, 0, none⟩ : Addr).add j = ⟨b, j, none⟩ := fun b j => by rw [Addr.add_lit]; simp
  have hnews : ∀ j u, (btRow t)[j]? = some u → w.cell? ((⟨xb, 0, none⟩ : Addr).add j) = some u := fun j u e => by
    obtain ⟨hj, rfl⟩ := btRow_get e
    rw [hadd]; exact hxb j hj
  have hpos : 0 < (l ++ t).length := by simp; omega
  have hap : (l ++ t).length = l.length + t.length := by simp
  have hgrow : ∀ v' w', w'.ownsRow w.heap.size 5 1 v' (l.length + t.length) (btRow l ++ btRow t) → w.grownBy w' none → wpList Try.prog ops Q rest (a.put o.dst v') w' := by
    intro v' w' h1 h2
    rw [← btRow_append, ← hap] at h1
    obtain ⟨c1, c2⟩ := BtAt.own hpos h1
    exact h v' w' ⟨c1, (Fr.grown h2).mono (fun _ _ h => h.elim), fun b hb => .inr (c2 b hb)⟩
  rcases hv with ⟨rfl, rfl⟩ | ⟨b, cap, f, rfl, hc, hb, hf⟩
  · exact wpList_append_grows w hgd s x 74 ho 5 ti _ 1 1 Try.underlying74 hi hz hsz hby hz1 (by omega) none 0 0 [] hs (fun _ => ⟨rfl, rfl⟩) rfl (fun _ e => by cases e) ⟨xb, 0, none⟩ t.length t.length (btRow t) hx (by rw [btRow_length, Nat.mul_one]) hnews (btRow_one _) (by omega) (by simp only [maxLen]; omega) (by omega)
      (fun v' w' h1 h2 => hgrow v' w' h1 h2)
  · refine wpList_append_arg w hgd s x 74 ho 5 ti _ 1 1 Try.underlying74 hi hz hsz hby hz1 (by omega) b 0 l.length cap (btRow l) hs (by rw [btRow_length, Nat.mul_one]) (fun j u e => by
        obtain ⟨hj, rfl⟩ := btRow_get e
        rw [Nat.zero_add, hb.cell (by omega), hf j hj])
      ⟨xb, 0, none⟩ t.length t.length (btRow t) hx (by rw [btRow_length, Nat.mul_one]) hnews (btRow_one _) (fun hr j hj => ?_) (by simp only [maxLen]; omega) (by omega) (fun hr => ?_) (fun _ v' w' h1 h2 => hgrow v' w' h1 h2)
    · rw [btRow_length] at hj
      rw [hb.cell (by omega)]
      exact ⟨rfl, hb.frozen _⟩
    · refine h _ _ ⟨?_, ((Fr.refl _ _).setCells b (fun _ => ⟨_, _, rfl⟩) _ _), fun b' hb' => .inl ?_⟩
      · refine .inr ⟨b, cap, _, by rw [hap], by rw [hap]; omega, hb.setCells _ _, ?_⟩
        intro k hk
        by_cases hlt : k < l.length
        · rw [lay_out _ _ _ _ (.inl (by omega)), List.getElem_append_left hlt]
          exact hf k hlt
        · have hk2 : k - l.length < t.length := by rw [hap] at hk; omega
          rw [lay_in _ _ _ _ (by omega) (by rw [btRow_length]; omega), List.getElem_append_right (by omega)]
          simp [btRow]
      · obtain ⟨n, c, e⟩ := hb'; cases e; exact ⟨_, _, rfl⟩
end
set_option maxHeartbeats 1000000 in
theorem hexOf_any (c : Nat) (hc : c < 16) (w : World) : Calls Try.prog 60 #[.int .u8 (c : Nat)] w fun e w' => e = .returned (.int .u8 (hexC c : Nat)) ∧ w' = w := by
  have hcb : (c : Int) ≤ 15 := by omega
  go_enter Try.func60, Try.ntmps60
  by_cases h10 : c < 10
  · have hd : decide ((c : Int) < 10) = true := decide_eq_true (by omega)
    have hcb9 : (c : Int) ≤ 9 := by omega
    have e : hexC c = 48 + c := by simp [hexC, h10]
    rw [e]
    go_wp2_with fail
    go_ret
    exact ⟨by simp, rfl⟩
  · have hd : decide ((c : Int) < 10) = false := decide_eq_false (by omega)
    have hcb9 : (10 : Int) ≤ c := by omega
    have e : hexC c = 87 + c := by simp [hexC, h10]
    rw [e]
    go_wp2_with fail
    go_ret
    exact ⟨by simp; omega, rfl⟩
end Go.Proofs.Qxb6500287a
