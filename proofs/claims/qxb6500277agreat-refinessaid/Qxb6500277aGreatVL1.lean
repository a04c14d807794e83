/- The law: lists (written by genVL1.py). -/
import Derived.Test.Qxb6500277aGreatVR1
import Derived.Test.Qxb6500277aGreatKI2
import Derived.Test.Qxb6500277aGreatKM1
import Derived.Test.Qxb6500277aGreatMake
namespace Go.Proofs.Qxb6500277aGreat
open Go Go.RowKit

abbrev stmp : Int := -7777777
theorem spoil_set (p : List Int) {i : Nat} (hi : i < p.length) : (List.replicate i stmp ++ p.drop i).set i stmp = List.replicate (i + 1) stmp ++ p.drop (i + 1) := by
  have e : (p.drop i).set 0 stmp = stmp :: p.drop (i + 1) := by rw [List.drop_eq_getElem_cons hi]; rfl
  rw [List.set_append_right _ _ (by simp), List.length_replicate, Nat.sub_self, e]
  simp [List.replicate_succ', List.append_assoc]
/-- A list that bears the stamp. -/
def Stp (w : World) (v : Value) : Prop := ∃ n, n ≤ 2000 ∧ KiAt w v (List.replicate n stmp)
/-- The lists' list. -/
def OS (w : World) (v : Value) (n : Nat) (f : Nat → Value) : Prop := (v = .slice none 0 0 ∧ n = 0) ∨ ∃ b cap, v = .slice (some ⟨b, 0, none⟩) n cap ∧ n ≤ cap ∧ Blk w b cap f
theorem OS.sl {w : World} {v : Value} {n : Nat} {f : Nat → Value} (h : OS w v n f) : ∃ a c, v = .slice a n c := by
  rcases h with ⟨rfl, rfl⟩ | ⟨b, cap, rfl, _⟩
  · exact ⟨_, _, rfl⟩
  · exact ⟨_, _, rfl⟩
theorem OS.bk {w : World} {v : Value} {n b : Nat} {f : Nat → Value} (h : OS w v n f) (hb : isB v b) : b < w.heap.size := by
  rcases h with ⟨rfl, rfl⟩ | ⟨b', cap, rfl, _, hB⟩
  · exact absurd hb (nil_noB b)
  · rw [isB_one hb]; exact hB.lt
theorem OS.frame {S : Nat → Prop} {w w' : World} {v : Value} {n : Nat} {f : Nat → Value} (h : OS w v n f) (k : Fr S w w') (hb : ∀ b, isB v b → ¬ S b) : OS w' v n f := by
  rcases h with h | ⟨b, cap, rfl, h1, h2⟩
  · exact .inl h
  · exact .inr ⟨b, cap, rfl, h1, h2.frame k (hb b ⟨_, _, rfl⟩)⟩
structure MnA (w : World) (mv : Value) (n : Nat) (f : Nat → Value) : Prop where
  le : n ≤ 16
  os : OS w mv n f
  st : ∀ j, j < n → Stp w (f j)
theorem Stp.frame {S : Nat → Prop} {w w' : World} {v : Value} (h : Stp w v) (k : Fr S w w') (hb : ∀ b, isB v b → ¬ S b) : Stp w' v := by
  obtain ⟨n, hn, h⟩ := h
  exact ⟨n, hn, h.frame k hb⟩
theorem Stp.bk {w : World} {v : Value} {b : Nat} (h : Stp w v) (hb : isB v b) : b < w.heap.size := by
  obtain ⟨n, hn, h⟩ := h
  exact h.bk hb
def rowS (f : Nat → Value) (n : Nat) : List Value := (List.range n).map f
theorem rowS_len (f : Nat → Value) (n : Nat) : (rowS f n).length = n := by simp [rowS]
theorem rowS_get {f : Nat → Value} {n j : Nat} {u : Value} (e : (rowS f n)[j]? = some u) : j < n ∧ u = f j := by
  obtain ⟨h1, h2⟩ := List.getElem?_eq_some_iff.1 e
  rw [rowS_len] at h1
  exact ⟨h1, by rw [← h2]; simp [rowS]⟩
section
variable {ops : Array Oper} {Q : Exit → Act → World → Prop} {a : Act} {w : World} {rest : List Oper} {o : Oper}
end
def sh (f : Nat → Value) (j : Nat) : Nat → Value := fun o => if o < j then f (o + 1) else f o
theorem sh_zero (f : Nat → Value) : sh f 0 = f := by funext o; simp [sh]
theorem sh_at (f : Nat → Value) (j : Nat) : sh f j (j + 1) = f (j + 1) := by simp only [sh]; rw [if_neg (by omega)]
theorem sh_succ (f : Nat → Value) (j : Nat) : upd (sh f j) j (f (j + 1)) = sh f (j + 1) := by
  funext o
  simp only [upd, sh]
  by_cases e : o = j
  · subst e; simp
  · rw [if_neg e]
    by_cases h : o < j
    · rw [if_pos h, if_pos (by omega)]
    · rw [if_neg h, if_neg (by omega)]
structure KeepR (w : World) (mv xv : Value) (n : Nat) (f : Nat → Value) (mv' : Value) (n' : Nat) (f' : Nat → Value) (w' : World) : Prop where
  mn : MnA w' mv' n' f'
  bk : ∀ c, isB mv' c → w.heap.size ≤ c ∨ isB mv c
  of : ∀ j, j < n' → f' j = xv ∨ ∃ i, i < n ∧ f' j = f i
  fr : Fr (isB mv) w w'
theorem KeepR.mk' {w w' : World} {mv xv mv' : Value} {n n' q : Nat} {f f' : Nat → Value} (hM : MnA w mv n f) (hx : KiAt w xv (List.replicate q stmp)) (hq : q ≤ 2000) (hne : ∀ c, isB mv c → ¬ isB xv c ∧ ∀ j, j < n → ¬ isB (f j) c)
    (hl : n' ≤ 16) (ho : OS w' mv' n' f') (bk : ∀ c, isB mv' c → w.heap.size ≤ c ∨ isB mv c) (of : ∀ j, j < n' → f' j = xv ∨ ∃ i, i < n ∧ f' j = f i) (fr : Fr (isB mv) w w') : KeepR w mv xv n f mv' n' f' w' := by
  refine ⟨⟨hl, ho, fun j hj => ?_⟩, bk, of, fr⟩
  rcases of j hj with e | ⟨i, hi, e⟩
  · rw [e]; exact ⟨q, hq, hx.frame fr (fun c hc hm => (hne c hm).1 hc)⟩
  · rw [e]; exact (hM.st i hi).frame fr (fun c hc hm => (hne c hm).2 i hi hc)
end Go.Proofs.Qxb6500277aGreat
