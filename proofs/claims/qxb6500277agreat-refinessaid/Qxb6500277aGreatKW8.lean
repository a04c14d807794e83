/- The real heap: the work list, trace, Live. -/
import Derived.Test.Qxb6500277aGreatKI1
namespace Go.Proofs.Qxb6500277aGreat
open Go Go.RowKit

structure LM (w : World) (b : Nat) (l : List Int) : Prop where
  blk : ∃ f, Blk w b 49 f ∧ (∀ k (h : k < l.length), f k = .int .i64 l[k]) ∧ f 48 = .int .i64 l.length ∧ ∀ k, k < 48 → ∃ v, f k = .int .i64 v
  le : l.length ≤ 48
section
variable {w w' : World} {b : Nat} {l : List Int}
theorem LM.lt (h : LM w b l) : b < w.heap.size := by obtain ⟨⟨f, hb, _⟩, _⟩ := h; exact hb.lt
theorem LM.n (h : LM w b l) : w.cell? ⟨b, 48, none⟩ = some (.int .i64 l.length) := by
  obtain ⟨⟨f, hb, _, h2, _⟩, _⟩ := h; rw [hb.cell (by omega), h2]
theorem LM.at (h : LM w b l) {k : Nat} (hk : k < l.length) : w.cell? ⟨b, k, none⟩ = some (.int .i64 l[k]) := by
  have := h.le
  obtain ⟨⟨f, hb, h1, _⟩, _⟩ := h; rw [hb.cell (by omega), h1 k hk]
theorem LM.any (h : LM w b l) {k : Nat} (hk : k < 48) : ∃ v, w.cell? ⟨b, k, none⟩ = some (.int .i64 v) := by
  obtain ⟨⟨f, hb, _, _, h3⟩, _⟩ := h
  obtain ⟨v, hv⟩ := h3 k hk
  exact ⟨v, by rw [hb.cell (by omega), hv]⟩
theorem LM.frozen (h : LM w b l) (k : Nat) : w.frozen? ⟨b, k, none⟩ = false := by obtain ⟨⟨f, hb, _⟩, _⟩ := h; exact hb.frozen k
theorem LM.frame {S : Nat → Prop} (h : LM w b l) (k : Fr S w w') (hn : ¬ S b) : LM w' b l := by
  obtain ⟨⟨f, hb, h2⟩, h3⟩ := h; exact ⟨⟨f, hb.frame k hn, h2⟩, h3⟩
theorem LM.push (h : LM w b l) (x : Int) (hl : l.length < 48) : LM ((w.setCell ⟨b, l.length, none⟩ (.int .i64 x)).setCell ⟨b, 48, none⟩ (.int .i64 ((l.length + 1 : Nat) : Int))) b (l ++ [x]) := by
  obtain ⟨⟨f, hb, h1, h2, h3⟩, _⟩ := h
  refine ⟨⟨_, (hb.set l.length (.int .i64 x)).set 48 _, fun k hk => ?_, ?_, fun k hk => ?_⟩, by simp; omega⟩
  · simp only [List.length_append, List.length_singleton] at hk
    simp only [upd]
    rw [if_neg (by omega)]
    by_cases e : k = l.length
    · subst e; rw [if_pos rfl, List.getElem_append_right (Nat.le_refl _)]; simp
    · rw [if_neg e, List.getElem_append_left (by omega)]; exact h1 k (by omega)
  · simp [upd]
  · simp only [upd]
    rw [if_neg (by omega)]
    split
    · exact ⟨_, rfl⟩
    · exact h3 k hk
theorem fnd_neg {l : List Int} {x : Int} : fnd l x < 0 ↔ x ∉ l := by
  constructor
  · intro h hm
    obtain ⟨i, hi, h1, _⟩ := fnd_mem hm
    omega
  · intro h; rw [fnd_miss h]; omega
end
theorem z49 : (#[.int .i64 0, .int .i64 0, .int .i64 0, .int .i64 0, .int .i64 0, .int .i64 0, .int .i64 0, .int .i64 0, .int .i64 0, .int .i64 0, .int .i64 0, .int .i64 0, .int .i64 0, .int .i64 0, .int .i64 0, .int .i64 0, .int .i64 0, .int .i64 0, .int .i64 0, .int .i64 0, .int .i64 0, .int .i64 0, .int .i64 0, .int .i64 0, .int .i64 0, .int .i64 0, .int .i64 0, .int .i64 0, .int .i64 0, .int .i64 0, .int .i64 0, .int .i64 0, .int .i64 0, .int .i64 0, .int .i64 0, .int .i64 0, .int .i64 0, .int .i64 0, .int .i64 0, .int .i64 0, .int .i64 0, .int .i64 0, .int .i64 0, .int .i64 0, .int .i64 0, .int .i64 0, .int .i64 0, .int .i64 0, .int .i64 0] : Array Value) = Array.replicate 49 (.int .i64 0) := by kernel_rfl
theorem LM.new (w : World) : LM (w.alloc (.cells #[.int .i64 0, .int .i64 0, .int .i64 0, .int .i64 0, .int .i64 0, .int .i64 0, .int .i64 0, .int .i64 0, .int .i64 0, .int .i64 0, .int .i64 0, .int .i64 0, .int .i64 0, .int .i64 0, .int .i64 0, .int .i64 0, .int .i64 0, .int .i64 0, .int .i64 0, .int .i64 0, .int .i64 0, .int .i64 0, .int .i64 0, .int .i64 0, .int .i64 0, .int .i64 0, .int .i64 0, .int .i64 0, .int .i64 0, .int .i64 0, .int .i64 0, .int .i64 0, .int .i64 0, .int .i64 0, .int .i64 0, .int .i64 0, .int .i64 0, .int .i64 0, .int .i64 0, .int .i64 0, .int .i64 0, .int .i64 0, .int .i64 0, .int .i64 0, .int .i64 0, .int .i64 0, .int .i64 0, .int .i64 0, .int .i64 0] 90)) w.heap.size [] := by
  have hb := Blk.new w (Array.replicate 49 (.int .i64 0)) 90 (fun _ => .int .i64 0) (fun o ho => by simp at ho; simp [ho])
  rw [z49]
  simp only [Array.size_replicate] at hb
  exact ⟨⟨_, hb, fun k hk => by simp at hk, rfl, fun k _ => ⟨0, rfl⟩⟩, by simp⟩
end Go.Proofs.Qxb6500277aGreat
