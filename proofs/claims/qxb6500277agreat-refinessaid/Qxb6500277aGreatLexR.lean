/- The real lexer: its registers and buffer in memory. -/
import Derived.Test.Qxb6500277aGreatLexS
namespace Go.Proofs.Qxb6500277aGreat
open Go Go.RowKit

def noText : ByteArray := ⟨#[]⟩
def zeroTok : Tok := ⟨0, 0, 0, ⟨#[]⟩⟩
structure R where
  toks : List Tok
  state : Nat
  start : Nat
  first : Nat
  val : Nat
  fail : Nat
  opn : Nat

def tokCell (t : Tok) (j : Nat) : Value :=
  match j with
  | 0 => .int .i64 t.kind
  | 1 => .int .i64 t.pos
  | 2 => .int .i64 t.val
  | _ => .string t.text
theorem tokCell_one (t : Tok) (j : Nat) : (tokCell t j).oneCell' = true := by
  unfold tokCell
  split <;> rfl
def bufF (all : List Tok) (o : Nat) : Value := tokCell (all.getD (o / 4) zeroTok) (o % 4)
theorem bufF_one (all : List Tok) (o : Nat) : (bufF all o).oneCell' = true := tokCell_one _ _
theorem bufF_at (all : List Tok) (i j : Nat) (hj : j < 4) : bufF all (i * 4 + j) = tokCell (all.getD i zeroTok) j := by
  unfold bufF
  rw [show (i * 4 + j) / 4 = i by omega, show (i * 4 + j) % 4 = j by omega]

def lcell (bb n used : Nat) (r : R) (o : Nat) : Value :=
  match o with
  | 0 => .slice (some ⟨bb, 0, none⟩) n n
  | 1 => .int .i64 used
  | 2 => .int .i64 r.state
  | 3 => .int .i64 r.start
  | 4 => .int .u8 r.first
  | 5 => .int .i64 r.val
  | 6 => .int .i64 r.fail
  | _ => .int .i64 r.opn

/-- The lexer lies in block x, its buffer in block bb. -/
structure LRepA (w : World) (x bb : Nat) (all : List Tok) (r : R) : Prop where
  main : Blk w x 8 (lcell bb all.length r.toks.length r)
  buf : Blk w bb (all.length * 4) (bufF all)
  ne : x ≠ bb
  lo : 4 ≤ all.length
  hi : all.length ≤ 8192
  le : r.toks.length ≤ all.length
  take : all.take r.toks.length = r.toks
def LRep (w : World) (x bb : Nat) (r : R) : Prop := ∃ all, LRepA w x bb all r
def lS (x bb : Nat) (b : Nat) : Prop := b = x ∨ b = bb
/-- From w to w' the lexer at x (its buffer at bb) has come to the registers r. -/
def LTo (w w' : World) (x bb : Nat) (r : R) : Prop := ∃ bb', LRep w' x bb' r ∧ Fr (lS x bb) w w' ∧ (bb' = bb ∨ w.heap.size ≤ bb')

theorem LRep.lt {w : World} {x bb : Nat} {r : R} (h : LRep w x bb r) : x < w.heap.size ∧ bb < w.heap.size := by
  obtain ⟨all, h⟩ := h
  exact ⟨h.main.lt, h.buf.lt⟩
theorem LRepA.frame {S : Nat → Prop} {w w' : World} {x bb : Nat} {all : List Tok} {r : R} (h : LRepA w x bb all r) (k : Fr S w w') (h1 : ¬ S x) (h2 : ¬ S bb) : LRepA w' x bb all r :=
  ⟨h.main.frame k h1, h.buf.frame k h2, h.ne, h.lo, h.hi, h.le, h.take⟩
theorem LRep.frame {S : Nat → Prop} {w w' : World} {x bb : Nat} {r : R} (h : LRep w x bb r) (k : Fr S w w') (h1 : ¬ S x) (h2 : ¬ S bb) : LRep w' x bb r := by
  obtain ⟨all, h⟩ := h
  exact ⟨all, h.frame k h1 h2⟩
theorem LRepA.alloc {w : World} {x bb : Nat} {all : List Tok} {r : R} (h : LRepA w x bb all r) (o : Obj) : LRepA (w.alloc o) x bb all r :=
  h.frame ((Fr.refl (fun _ => False) w).alloc o) (by simp) (by simp)
theorem LRepA.drew {w : World} {x bb : Nat} {all : List Tok} {r : R} (h : LRepA w x bb all r) : LRepA w.drew x bb all r := ⟨h.main, h.buf, h.ne, h.lo, h.hi, h.le, h.take⟩
theorem LTo.refl {w : World} {x bb : Nat} {r : R} (h : LRep w x bb r) : LTo w w x bb r := ⟨bb, h, Fr.refl _ _, .inl rfl⟩
theorem LTo.trans {a b c : World} {x bb bb1 : Nat} {r : R} (k : Fr (lS x bb) a b) (hb : bb1 = bb ∨ a.heap.size ≤ bb1) (h2 : LTo b c x bb1 r) : LTo a c x bb r := by
  obtain ⟨bb2, h3, k2, hb2⟩ := h2
  have hs := k.size
  refine ⟨bb2, h3, k.trans k2 (fun i hi e => ?_), ?_⟩
  · unfold lS at e ⊢
    rcases e with e | e
    · exact .inl e
    · rcases hb with rfl | hb
      · exact .inr e
      · omega
  · rcases hb2 with rfl | hb2
    · exact hb
    · exact .inr (by omega)

/-- Registers other than the tokens may be turned. -/
theorem LRepA.reg {w : World} {x bb : Nat} {all : List Tok} {r r' : R} (h : LRepA w x bb all r) (o : Nat) (v : Value) (ht : r'.toks = r.toks)
    (e : ∀ k, k < 8 → upd (lcell bb all.length r.toks.length r) o v k = lcell bb all.length r.toks.length r' k) : LRepA (w.setCell ⟨x, o, none⟩ v) x bb all r' :=
  ⟨by rw [ht]; exact (h.main.set o v).congr e, h.buf.setOther _ _ (by simpa using fun h' => h.ne h'.symm), h.ne, h.lo, h.hi, by rw [ht]; exact h.le, by rw [ht]; exact h.take⟩
theorem lt8 {k : Nat} (h : k < 8) : k = 0 ∨ k = 1 ∨ k = 2 ∨ k = 3 ∨ k = 4 ∨ k = 5 ∨ k = 6 ∨ k = 7 := by omega
theorem LRepA.state {w : World} {x bb : Nat} {all : List Tok} {r : R} (h : LRepA w x bb all r) (v : Nat) : LRepA (w.setCell ⟨x, 2, none⟩ (.int .i64 v)) x bb all { r with state := v } :=
  h.reg 2 _ rfl fun k hk => by rcases lt8 hk with rfl | rfl | rfl | rfl | rfl | rfl | rfl | rfl <;> simp [upd, lcell]
theorem LRepA.start {w : World} {x bb : Nat} {all : List Tok} {r : R} (h : LRepA w x bb all r) (v : Nat) : LRepA (w.setCell ⟨x, 3, none⟩ (.int .i64 v)) x bb all { r with start := v } :=
  h.reg 3 _ rfl fun k hk => by rcases lt8 hk with rfl | rfl | rfl | rfl | rfl | rfl | rfl | rfl <;> simp [upd, lcell]
theorem LRepA.first {w : World} {x bb : Nat} {all : List Tok} {r : R} (h : LRepA w x bb all r) (v : Nat) : LRepA (w.setCell ⟨x, 4, none⟩ (.int .u8 v)) x bb all { r with first := v } :=
  h.reg 4 _ rfl fun k hk => by rcases lt8 hk with rfl | rfl | rfl | rfl | rfl | rfl | rfl | rfl <;> simp [upd, lcell]
theorem LRepA.val {w : World} {x bb : Nat} {all : List Tok} {r : R} (h : LRepA w x bb all r) (v : Nat) : LRepA (w.setCell ⟨x, 5, none⟩ (.int .i64 v)) x bb all { r with val := v } :=
  h.reg 5 _ rfl fun k hk => by rcases lt8 hk with rfl | rfl | rfl | rfl | rfl | rfl | rfl | rfl <;> simp [upd, lcell]
theorem LRepA.fail {w : World} {x bb : Nat} {all : List Tok} {r : R} (h : LRepA w x bb all r) (v : Nat) : LRepA (w.setCell ⟨x, 6, none⟩ (.int .i64 v)) x bb all { r with fail := v } :=
  h.reg 6 _ rfl fun k hk => by rcases lt8 hk with rfl | rfl | rfl | rfl | rfl | rfl | rfl | rfl <;> simp [upd, lcell]
theorem LRepA.opn {w : World} {x bb : Nat} {all : List Tok} {r : R} (h : LRepA w x bb all r) (v : Nat) : LRepA (w.setCell ⟨x, 7, none⟩ (.int .i64 v)) x bb all { r with opn := v } :=
  h.reg 7 _ rfl fun k hk => by rcases lt8 hk with rfl | rfl | rfl | rfl | rfl | rfl | rfl | rfl <;> simp [upd, lcell]
/-- The list is emptied. -/
theorem LRepA.empty {w : World} {x bb : Nat} {all : List Tok} {r : R} (h : LRepA w x bb all r) : LRepA (w.setCell ⟨x, 1, none⟩ (.int .i64 0)) x bb all { r with toks := [] } :=
  ⟨(h.main.set 1 _).congr fun k hk => by rcases lt8 hk with rfl | rfl | rfl | rfl | rfl | rfl | rfl | rfl <;> simp [upd, lcell], h.buf.setOther _ _ (by simpa using fun h' => h.ne h'.symm), h.ne, h.lo, h.hi, Nat.zero_le _, rfl⟩

def pushR (r : R) (t : Tok) : R := { r with toks := r.toks ++ [t] }
/-- Token t is laid at place used. -/
theorem LRepA.pushAt {w : World} {x bb : Nat} {all : List Tok} {r : R} (h : LRepA w x bb all r) (t : Tok) (hlt : r.toks.length < all.length) :
    LRepA (((((w.setCell ⟨bb, r.toks.length * 4, none⟩ (.int .i64 t.kind)).setCell ⟨bb, r.toks.length * 4 + 1, none⟩ (.int .i64 t.pos)).setCell ⟨bb, r.toks.length * 4 + 2, none⟩ (.int .i64 t.val)).setCell ⟨bb, r.toks.length * 4 + 3, none⟩ (.string t.text)).setCell ⟨x, 1, none⟩ (.int .i64 (r.toks.length + 1)))
      x bb (all.set r.toks.length t) (pushR r t) := by
  have hx : x ≠ bb := h.ne
  refine ⟨?_, ?_, hx, by simpa using h.lo, by simpa using h.hi, by simp [pushR]; omega, ?_⟩
  · refine ((((((h.main.setOther _ _ (by simpa using hx)).setOther _ _ (by simpa using hx)).setOther _ _ (by simpa using hx)).setOther _ _ (by simpa using hx)).set 1 _)).congr fun k hk => ?_
    rcases lt8 hk with rfl | rfl | rfl | rfl | rfl | rfl | rfl | rfl <;> simp [upd, lcell, pushR]
  · have hb := (((((h.buf.set (r.toks.length * 4) (.int .i64 t.kind)).set (r.toks.length * 4 + 1) (.int .i64 t.pos)).set (r.toks.length * 4 + 2) (.int .i64 t.val)).set (r.toks.length * 4 + 3) (.string t.text)).setOther ⟨x, 1, none⟩ (.int .i64 (r.toks.length + 1)) (by simpa using fun h' => hx h'.symm))
    rw [List.length_set]
    refine hb.congr fun o ho => ?_
    have e1 : o = o / 4 * 4 + o % 4 := by omega
    have h4 : o % 4 < 4 := by omega
    generalize ha : o / 4 = a at e1
    generalize hj : o % 4 = j at e1 h4
    subst e1
    rw [bufF_at _ _ _ h4]
    by_cases hab : a = r.toks.length
    · subst hab
      have : (all.set r.toks.length t).getD r.toks.length zeroTok = t := by simp [hlt]
      rw [this]
      rcases (show j = 0 ∨ j = 1 ∨ j = 2 ∨ j = 3 by omega) with rfl | rfl | rfl | rfl <;> simp [upd, tokCell]
    · have : (all.set r.toks.length t).getD a zeroTok = all.getD a zeroTok := by simp [Ne.symm hab]
      rw [this]
      simp only [upd, show a * 4 + j ≠ r.toks.length * 4 + 3 by omega, show a * 4 + j ≠ r.toks.length * 4 + 2 by omega, show a * 4 + j ≠ r.toks.length * 4 + 1 by omega, show a * 4 + j ≠ r.toks.length * 4 by omega, if_false]
      exact bufF_at all a j h4
  · have := h.take
    simp only [pushR, List.length_append, List.length_cons, List.length_nil, Nat.zero_add]
    rw [List.take_set, List.take_add_one, this]
    simp [hlt]
/-- The buffer has given way to a longer one. -/
theorem LRepA.wider {w w' : World} {x bb nb : Nat} {all : List Tok} {r : R} (h : LRepA w x bb all r) (S : Nat → Prop) (k : Fr S w w') (hx : ¬ S x) (hnb : nb ≠ x) (h8 : all.length ≤ 4096) (f : Nat → Value)
    (hb : Blk w' nb (2 * all.length * 4) f) (hf : ∀ o, o < 2 * all.length * 4 → f o = bufF (all ++ List.replicate all.length zeroTok) o) :
    LRepA (w'.setCell ⟨x, 0, none⟩ (.slice (some ⟨nb, 0, none⟩) (2 * all.length) (2 * all.length))) x nb (all ++ List.replicate all.length zeroTok) r := by
  have hl : (all ++ List.replicate all.length zeroTok).length = 2 * all.length := by simp; omega
  refine ⟨?_, ?_, hnb.symm, by rw [hl]; have := h.lo; omega, by rw [hl]; omega, by rw [hl]; have := h.le; omega, ?_⟩
  · refine ((h.main.frame k hx).set 0 _).congr fun k hk => ?_
    rcases lt8 hk with rfl | rfl | rfl | rfl | rfl | rfl | rfl | rfl <;> simp [upd, lcell, hl]
  · rw [hl]; exact (hb.setOther _ _ (by simpa using hnb)).congr hf
  · rw [List.take_append_of_le_length h.le]; exact h.take
end Go.Proofs.Qxb6500277aGreat
