import Derived.Test.Qxb6500283aGreatDfD1
namespace Go.Proofs.Qxb6500283aGreat
open Go Go.RowKit

/-- One step that takes no byte. b: the place is 0 · e: the place is the end. -/
def eps (p : List In) (b e : Bool) (q r : Nat) : Prop := ∃ x, p[q]? = some x ∧
  ((x.op = 1 ∧ ((r : Int) = x.x ∨ (r : Int) = x.y)) ∨ (x.op = 2 ∧ (r : Int) = x.x) ∨ (x.op = 3 ∧ r = q + 1) ∨ (x.op = 4 ∧ b = true ∧ r = q + 1) ∨ (x.op = 5 ∧ e = true ∧ r = q + 1))
/-- What is reached from A by such steps. -/
def Clo (p : List In) (b e : Bool) (A : Nat → Prop) (q : Nat) : Prop := ∀ K : Nat → Prop, (∀ q, A q → K q) → (∀ q r, K q → eps p b e q r → K r) → K q
theorem Clo.base {p : List In} {b e : Bool} {A : Nat → Prop} {q : Nat} (h : A q) : Clo p b e A q := fun _ h1 _ => h1 q h
theorem Clo.step {p : List In} {b e : Bool} {A : Nat → Prop} {q r : Nat} (h : Clo p b e A q) (hs : eps p b e q r) : Clo p b e A r := fun K h1 h2 => h2 q r (h K h1 h2) hs
theorem eps_lt {p : List In} {b e : Bool} (hok : OkProg p) {q r : Nat} (h : eps p b e q r) : r < p.length := by
  obtain ⟨x, hx, h⟩ := h
  obtain ⟨hq, rfl⟩ := List.getElem?_eq_some_iff.1 hx
  have := hok.all q hq
  unfold okIn at this
  omega

def cntD (s : Nat) : Nat := ((List.range 64).filter fun q => s.testBit q).length
theorem cnt_le (s : Nat) : cntD s ≤ 64 := Nat.le_trans (List.length_filter_le _ _) (by simp)
theorem filter_add (f g : Nat → Bool) (q : Nat) (hq : f q = false) (hg : ∀ j, g j = (f j || decide (q = j))) : ∀ l : List Nat, l.Nodup → (l.filter g).length = (l.filter f).length + (if q ∈ l then 1 else 0)
  | [], _ => by simp
  | a :: l, h => by
    have hn := List.nodup_cons.1 h
    have ih := filter_add f g q hq hg l hn.2
    by_cases e : q = a
    · subst e
      have h1 : g q = true := by rw [hg]; simp
      rw [List.filter_cons_of_pos h1, List.filter_cons_of_neg (by rw [hq]; simp), List.length_cons, ih]
      simp [hn.1]
    · have h1 : g a = f a := by rw [hg]; simp [e]
      by_cases hf : f a = true
      · rw [List.filter_cons_of_pos (by rw [h1]; exact hf), List.filter_cons_of_pos hf, List.length_cons, List.length_cons, ih]
        simp [e]; omega
      · rw [List.filter_cons_of_neg (by rw [h1]; exact hf), List.filter_cons_of_neg hf, ih]
        simp [e]
theorem cnt_or (s q : Nat) (hq : q < 64) (h : s.testBit q = false) : cntD (s ||| bv q) = cntD s + 1 := by
  unfold cntD
  rw [filter_add (fun j => s.testBit j) (fun j => (s ||| bv q).testBit j) q h (fun j => test_or s q j) _ List.nodup_range]
  simp [hq]

structure CI (p : List In) (b e : Bool) (A : Nat → Prop) (ex : Nat → Prop) (set sp : Nat) (stk : Nat → Int) : Prop where
  lt : set < 18446744073709551616
  reach : ∀ q, set.testBit q = true → q < p.length ∧ Clo p b e A q
  spc : sp ≤ cntD set
  stack : ∀ j, j < sp → ∃ q : Nat, stk j = q ∧ q < p.length ∧ set.testBit q = true
  closed : ∀ q, set.testBit q = true → ex q ∨ (∃ j, j < sp ∧ stk j = q) ∨ ∀ r, eps p b e q r → set.testBit r = true
def push3 (set sp : Nat) (stk : Nat → Int) (q : Nat) : Nat × Nat × (Nat → Int) := if set.testBit q then (set, sp, stk) else (set ||| bv q, sp + 1, upd stk sp q)
theorem push3_has (set sp : Nat) (stk : Nat → Int) (q : Nat) : (push3 set sp stk q).1.testBit q = true := by
  unfold push3
  split
  · assumption
  · rw [test_or]; simp
theorem push3_mono (set sp : Nat) (stk : Nat → Int) (q r : Nat) (h : set.testBit r = true) : (push3 set sp stk q).1.testBit r = true := by
  unfold push3
  split
  · assumption
  · rw [test_or, h]; rfl
theorem CI.push {p : List In} {b e : Bool} {A ex : Nat → Prop} {set sp : Nat} {stk : Nat → Int} (h : CI p b e A ex set sp stk) (hok : OkProg p) {q : Nat} (hq : q < p.length) (hr : Clo p b e A q) :
    CI p b e A ex (push3 set sp stk q).1 (push3 set sp stk q).2.1 (push3 set sp stk q).2.2 := by
  have hm := hok.max
  unfold push3
  split
  · exact h
  · rename_i hn
    have hn' : set.testBit q = false := by simpa using hn
    show CI p b e A ex (set ||| bv q) (sp + 1) (upd stk sp (q : Int))
    refine ⟨or_lt _ _ h.lt (bv_lt q (by omega)), fun r hr' => ?_, ?_, fun j hj => ?_, fun r hr' => ?_⟩
    · rw [test_or] at hr'
      simp only [Bool.or_eq_true, decide_eq_true_eq] at hr'
      rcases hr' with h1 | h1
      · exact h.reach r h1
      · subst h1; exact ⟨hq, hr⟩
    · rw [cnt_or _ _ (by omega) hn']; have := h.spc; omega
    · by_cases e : j = sp
      · subst e; exact ⟨q, upd_same _ _ _, hq, by rw [test_or]; simp⟩
      · obtain ⟨r, h1, h2, h3⟩ := h.stack j (by omega)
        exact ⟨r, by rw [upd_other _ _ _ _ e]; exact h1, h2, by rw [test_or, h3]; rfl⟩
    · rw [test_or] at hr'
      simp only [Bool.or_eq_true, decide_eq_true_eq] at hr'
      rcases hr' with h1 | h1
      · rcases h.closed r h1 with h2 | ⟨j, h2, h3⟩ | h2
        · exact .inl h2
        · exact .inr (.inl ⟨j, by omega, by rw [upd_other _ _ _ _ (by omega)]; exact h3⟩)
        · exact .inr (.inr fun t ht => by rw [test_or, h2 t ht]; rfl)
      · subst h1; exact .inr (.inl ⟨sp, by omega, upd_same _ _ _⟩)
theorem CI.pop {p : List In} {b e : Bool} {A : Nat → Prop} {set sp : Nat} {stk : Nat → Int} (h : CI p b e A (fun _ => False) set (sp + 1) stk) {q : Nat} (hq : stk sp = q) : CI p b e A (fun r => r = q) set sp stk := by
  refine ⟨h.lt, h.reach, by have := h.spc; omega, fun j hj => h.stack j (by omega), fun r hr => ?_⟩
  rcases h.closed r hr with h1 | ⟨j, h1, h2⟩ | h1
  · exact h1.elim
  · by_cases e : j = sp
    · subst e; rw [hq] at h2; exact .inl (by omega)
    · exact .inr (.inl ⟨j, by omega, h2⟩)
  · exact .inr (.inr h1)
theorem CI.done {p : List In} {b e : Bool} {A : Nat → Prop} {q set sp : Nat} {stk : Nat → Int} (h : CI p b e A (fun r => r = q) set sp stk) (hs : ∀ r, eps p b e q r → set.testBit r = true) : CI p b e A (fun _ => False) set sp stk := by
  refine ⟨h.lt, h.reach, h.spc, h.stack, fun r hr => ?_⟩
  rcases h.closed r hr with h1 | h1 | h1
  · subst h1; exact .inr (.inr hs)
  · exact .inr (.inl h1)
  · exact .inr (.inr h1)
theorem CI.fin {p : List In} {b e : Bool} {A : Nat → Prop} {set : Nat} {stk : Nat → Int} (h : CI p b e A (fun _ => False) set 0 stk) (hA : ∀ q, A q → set.testBit q = true) (q : Nat) : set.testBit q = true ↔ Clo p b e A q := by
  constructor
  · exact fun h1 => (h.reach q h1).2
  · intro h1
    refine h1 (fun q => set.testBit q = true) hA fun q r hq hs => ?_
    rcases h.closed q hq with h2 | ⟨j, h2, _⟩ | h2
    · exact h2.elim
    · omega
    · exact h2 r hs
/-- What is left to do. -/
def toDo (set sp : Nat) : Nat := 2 * (64 - cntD set) + sp
theorem toDo_push (set sp : Nat) (stk : Nat → Int) (q : Nat) (hq : q < 64) : toDo (push3 set sp stk q).1 (push3 set sp stk q).2.1 ≤ toDo set sp := by
  unfold push3
  split
  · exact Nat.le_refl _
  · rename_i hn
    have hn' : set.testBit q = false := by simpa using hn
    have := cnt_le (set ||| bv q)
    show 2 * (64 - cntD (set ||| bv q)) + (sp + 1) ≤ 2 * (64 - cntD set) + sp
    rw [cnt_or _ _ hq hn'] at this ⊢
    omega

def pushD (s : DS) (set sp q : Nat) : DS := { s with stk := (push3 set sp s.stk q).2.2 }
set_option maxRecDepth 100000 in
set_option maxHeartbeats 1000000 in
theorem pushD_any {w : World} {x : Nat} {kv : Value} {s : DS} (h : Mach w x kv s) (set sp q : Nat) (hs : set < 18446744073709551616) (hq : q < 64) (hsp : sp ≤ cntD set) :
    Calls Tryz.prog 129 #[.pointer (some ⟨x, 0, none⟩), .int .u64 set, .int .i64 sp, .int .i64 q] w fun e w' =>
      e = .returned (.tuple #[.int .u64 ((push3 set sp s.stk q).1 : Nat), .int .i64 ((push3 set sp s.stk q).2.1 : Nat)]) ∧ Mach w' x kv (pushD s set sp q) ∧ Fr (mOwn x) w w' := by
  have c12 : w.cell? ⟨x, 12, none⟩ = some (.slice (some ⟨x + 2, 0, none⟩) 64 64) := h.main.cell (by omega)
  unfold pushD push3
  cases ht : set.testBit q with
  | true =>
    have h1 := and_yes hs hq ht
    have h2 := bv_ne q
    have h3 := bv_ne' q
    simp only [if_true]
    clear ht
    go_enter Tryz.func129, Tryz.ntmps129
    go_wp2_with fail
    refine (bit_any q hq _).mono ?_
    rintro e w1 ⟨rfl, rfl⟩
    go_wp2_with fail
    exact bodyPost_ret (v := .tuple #[.int .u64 set, .int .i64 sp]) (by simp [results, Tryz.results129, go_sem]) rfl ⟨rfl, h, Fr.refl _ _⟩
  | false =>
    have h1 := and_no hs hq ht
    have h2 := or_bit set q hs hq
    have hsp2 : sp < 64 := by have := cnt_or set q hq ht; have := cnt_le (set ||| bv q); omega
    simp only [Bool.false_eq_true, if_false]
    obtain ⟨v0, hv0⟩ : ∃ v, w.cell? ⟨x + 2, sp, none⟩ = some v := ⟨_, h.st.cell hsp2⟩
    have z0 := h.st.frozen
    obtain ⟨S, hS⟩ : ∃ S, S = set ||| bv q := ⟨_, rfl⟩
    rw [← hS] at h2 ⊢
    have key := h.setS sp q
    clear ht hS
    go_enter Tryz.func129, Tryz.ntmps129
    go_wp2_with fail
    refine (bit_any q hq _).mono ?_
    rintro e w1 ⟨rfl, rfl⟩
    go_wp2_with fail
    exact bodyPost_ret (v := .tuple #[.int .u64 S, .int .i64 (sp + 1)]) (by simp [results, Tryz.results129, go_sem]) rfl ⟨rfl, key, (Fr.refl _ _).mset 2 _ _ (by omega)⟩
end Go.Proofs.Qxb6500283aGreat
