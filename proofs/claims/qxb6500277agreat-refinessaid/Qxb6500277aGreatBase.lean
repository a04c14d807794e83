/- The world, read block by block: what a call leaves alone (Fr), what a block of cells holds (Blk). -/
import Derived.WalkKit
import Derived.WalkSpells
import Derived.WalkLawsBesides
namespace Go.Proofs.Qxb6500277aGreat
open Go.RowKit

def upd {α : Type} (f : Nat → α) (o : Nat) (v : α) : Nat → α := fun k => if k = o then v else f k
theorem upd_same {α : Type} (f : Nat → α) (o : Nat) (v : α) : upd f o v o = v := by simp [upd]
theorem upd_other {α : Type} (f : Nat → α) (o k : Nat) (v : α) (h : k ≠ o) : upd f o v k = f k := by simp [upd, h]

/-- Outside the old blocks in 'S' nothing old has turned. -/
structure Fr (S : Nat → Prop) (w w' : World) : Prop where
  os : w'.os = w.os
  tape : w'.tape = w.tape
  output : w'.output = w.output
  size : w.heap.size ≤ w'.heap.size
  block : ∀ b, b < w.heap.size → ¬ S b → w'.heap[b]? = w.heap[b]?

theorem Fr.refl (S : Nat → Prop) (w : World) : Fr S w w := ⟨rfl, rfl, rfl, Nat.le_refl _, fun _ _ _ => rfl⟩
theorem Fr.trans {S S' : Nat → Prop} {a b c : World} (h : Fr S a b) (k : Fr S' b c) (hS : ∀ i, i < a.heap.size → S' i → S i) : Fr S a c :=
  ⟨k.os.trans h.os, k.tape.trans h.tape, k.output.trans h.output, Nat.le_trans h.size k.size,
   fun i hi hs => (k.block i (Nat.lt_of_lt_of_le hi h.size) (fun h' => hs (hS i hi h'))).trans (h.block i hi hs)⟩
theorem Fr.mono {S S' : Nat → Prop} {a b : World} (h : Fr S a b) (hS : ∀ i, i < a.heap.size → S i → S' i) : Fr S' a b :=
  ⟨h.os, h.tape, h.output, h.size, fun i hi hs => h.block i hi (fun h' => hs (hS i hi h'))⟩
theorem Fr.drew {S : Nat → Prop} {a w : World} (h : Fr S a w) : Fr S a w.drew := ⟨h.os, h.tape, h.output, h.size, h.block⟩
theorem Fr.drewN {S : Nat → Prop} {a w : World} (h : Fr S a w) (n : Nat) : Fr S a (w.drewN n) := ⟨h.os, h.tape, h.output, h.size, h.block⟩
theorem Fr.alloc {S : Nat → Prop} {a w : World} (h : Fr S a w) (o : Obj) : Fr S a (w.alloc o) :=
  ⟨h.os, h.tape, h.output, Nat.le_trans h.size (by simp), fun i hi hs => by
    rw [Below.heap_alloc w o i (Nat.lt_of_lt_of_le hi h.size)]; exact h.block i hi hs⟩
theorem Fr.setCell {S : Nat → Prop} {a w : World} (h : Fr S a w) (p : Addr) (u : Value) (hp : p.block < a.heap.size → S p.block) : Fr S a (w.setCell p u) :=
  ⟨h.os, h.tape, h.output, Nat.le_trans h.size (by simp), fun i hi hs => by
    rw [Below.heap_setCell w p u i (fun e => hs (e ▸ hp (e ▸ hi)))]; exact h.block i hi hs⟩
theorem Fr.setC {S : Nat → Prop} {a w : World} (h : Fr S a w) (b o : Nat) (u : Value) (hp : b < a.heap.size → S b) : Fr S a (w.setCell ⟨b, o, none⟩ u) := h.setCell ⟨b, o, none⟩ u hp
theorem Fr.setNew {S : Nat → Prop} {a w : World} (h : Fr S a w) {b o : Nat} {u : Value} (hb : a.heap.size ≤ b) : Fr S a (w.setCell ⟨b, o, none⟩ u) := h.setC b o u fun h' => absurd h' (Nat.not_lt.2 hb)
theorem Fr.below {S : Nat → Prop} {a w : World} {B : Nat} (h : Fr S a w) (hB : B ≤ a.heap.size) (hS : ∀ i, i < B → ¬ S i) : Below B a w :=
  ⟨h.os, h.tape, h.output, h.size, fun i hi => h.block i (Nat.lt_of_lt_of_le hi hB) (hS i hi)⟩

/-- Block b is a row of n cells, none of them frozen; cell o holds f o. -/
def Blk (w : World) (b n : Nat) (f : Nat → Value) : Prop := ∃ c T, w.heap[b]? = some (.cells c T (0, 0)) ∧ c.size = n ∧ ∀ o, o < n → c[o]? = some (f o)

theorem Blk.cell {w : World} {b n : Nat} {f : Nat → Value} (h : Blk w b n f) {o : Nat} (ho : o < n) : w.cell? ⟨b, o, none⟩ = some (f o) := by
  obtain ⟨c, T, h1, h2, h3⟩ := h
  simp [World.cell?, h1, h3 o ho]
theorem Blk.frozen {w : World} {b n : Nat} {f : Nat → Value} (h : Blk w b n f) (o : Nat) : w.frozen? ⟨b, o, none⟩ = false := by
  obtain ⟨c, T, h1, h2, h3⟩ := h
  simp [World.frozen?, h1]
theorem Blk.lt {w : World} {b n : Nat} {f : Nat → Value} (h : Blk w b n f) : b < w.heap.size := by
  obtain ⟨c, T, h1, h2, h3⟩ := h
  exact (Array.getElem?_eq_some_iff.1 h1).1
theorem Blk.congr {w : World} {b n : Nat} {f g : Nat → Value} (h : Blk w b n f) (e : ∀ o, o < n → f o = g o) : Blk w b n g := by
  obtain ⟨c, T, h1, h2, h3⟩ := h
  exact ⟨c, T, h1, h2, fun o ho => by rw [h3 o ho, e o ho]⟩
theorem Blk.set {w : World} {b n : Nat} {f : Nat → Value} (h : Blk w b n f) (o : Nat) (v : Value) : Blk (w.setCell ⟨b, o, none⟩ v) b n (upd f o v) := by
  obtain ⟨c, T, h1, h2, h3⟩ := h
  refine ⟨c.setIfInBounds o v, T, ?_, by simpa using h2, fun k hk => ?_⟩
  · simp [World.setCell, Array.getElem?_modify, h1]
  · by_cases e : k = o
    · subst e; simp [upd, h2, hk]
    · rw [Array.getElem?_setIfInBounds_ne (fun h => e h.symm)]; simp [upd, e, h3 k hk]
theorem Blk.setOther {w : World} {b n : Nat} {f : Nat → Value} (h : Blk w b n f) (p : Addr) (v : Value) (hp : b ≠ p.block) : Blk (w.setCell p v) b n f := by
  obtain ⟨c, T, h1, h2, h3⟩ := h
  exact ⟨c, T, by rw [Below.heap_setCell w p v b hp]; exact h1, h2, h3⟩
theorem Blk.drew {w : World} {b n : Nat} {f : Nat → Value} (h : Blk w b n f) : Blk w.drew b n f := h
theorem Blk.drewN {w : World} {b n : Nat} {f : Nat → Value} (h : Blk w b n f) (k : Nat) : Blk (w.drewN k) b n f := h
theorem Blk.alloc {w : World} {b n : Nat} {f : Nat → Value} (h : Blk w b n f) (x : Obj) : Blk (w.alloc x) b n f := by
  have hl := h.lt
  obtain ⟨c, T, h1, h2, h3⟩ := h
  exact ⟨c, T, by rw [Below.heap_alloc w x b hl]; exact h1, h2, h3⟩
theorem Blk.new (w : World) (c : Array Value) (T : TypeId) (f : Nat → Value) (hf : ∀ o, o < c.size → c[o]? = some (f o)) : Blk (w.alloc (.cells c T)) w.heap.size c.size f :=
  ⟨c, T, by unfold World.alloc; exact Array.getElem?_push_size, rfl, hf⟩
theorem Blk.frame {S : Nat → Prop} {w w' : World} {b n : Nat} {f : Nat → Value} (h : Blk w b n f) (k : Fr S w w') (hb : ¬ S b) : Blk w' b n f := by
  have hl := h.lt
  obtain ⟨c, T, h1, h2, h3⟩ := h
  exact ⟨c, T, by rw [k.block b hl hb]; exact h1, h2, h3⟩
theorem Fr.cell {S : Nat → Prop} {w w' : World} (k : Fr S w w') {p : Addr} (hl : p.block < w.heap.size) (hb : ¬ S p.block) : w'.cell? p = w.cell? p :=
  World.cell?_of_block (w := w) (k.block p.block hl hb)
theorem Fr.frozen {S : Nat → Prop} {w w' : World} (k : Fr S w w') {p : Addr} (hl : p.block < w.heap.size) (hb : ¬ S p.block) : w'.frozen? p = w.frozen? p :=
  World.frozen?_of_block (w := w) (k.block p.block hl hb)

theorem Fr.newCell {S : Nat → Prop} {w w1 : World} {c : Array Value} {T : TypeId} (k : Fr S (w.alloc (.cells c T)) w1) (hS : ¬ S w.heap.size) (o : Nat) : w1.cell? ⟨w.heap.size, o, none⟩ = c[o]? := by
  rw [k.cell (p := ⟨w.heap.size, o, none⟩) (by simp) hS]; exact World.cell?_alloc_new _ _ _ _
theorem Fr.newFrozen {S : Nat → Prop} {w w1 : World} {c : Array Value} {T : TypeId} (k : Fr S (w.alloc (.cells c T)) w1) (hS : ¬ S w.heap.size) (o : Nat) : w1.frozen? ⟨w.heap.size, o, none⟩ = false := by
  rw [k.frozen (p := ⟨w.heap.size, o, none⟩) (by simp) hS]; exact World.frozen?_alloc_new _ _ _ _
def ints (f : Nat → Int) : Nat → Value := fun o => .int .i64 (f o)
theorem ints_upd (f : Nat → Int) (o : Nat) (v : Int) : upd (ints f) o (.int .i64 v) = ints (upd f o v) := by
  funext k; simp only [upd, ints]; split <;> rfl

end Go.Proofs.Qxb6500277aGreat
