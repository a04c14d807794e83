/- The round trip, plain: a text of words is lexed as the words. -/
import Derived.Test.Qxb6500280aRT6
namespace Go.Proofs.Qxb6500280a
open Go Go.RowKit

theorem bt_list (s : ByteArray) (i : Nat) : bt s i = (s.data.toList[i]?.getD 0).toNat := by
  unfold bt
  split
  · rename_i h
    have h' : i < s.data.toList.length := by simpa using h
    rw [List.getElem?_eq_getElem h']
    rfl
  · rename_i h
    rw [List.getElem?_eq_none (by simpa using h)]
    rfl
/-- The value of digits. -/
def dV (l : List UInt8) : Nat := l.foldl (fun v c => v * 10 + (c.toNat - 48)) 0
/-- A token as it is spelled. -/
inductive TkS : List UInt8 → Tok → Prop
  | id {s : ByteArray} : IdOk s → TkS s.data.toList (tI s)
  | num {l : List UInt8} {v : Int} : l ≠ [] → (∀ c ∈ l, digitB c.toNat = true) → v = dV l → v ≤ 9223372036854775807 → TkS l (tV v)
  | kw {k : Nat} : 3 ≤ k → k ≤ 39 → TkS (tokText k).data.toList (tK k)
/-- A text of tokens, each with a blank behind it. -/
inductive Sc : List UInt8 → List Tok → Prop
  | nil : Sc [] []
  | sp {b t} : Sc b t → Sc (32 :: b) t
  | tok {x b t k} : TkS x k → Sc (32 :: b) t → Sc (x ++ 32 :: b) (k :: t)
theorem Sc.app {a b : List UInt8} {s t : List Tok} (h : Sc a s) (h' : Sc b t) : Sc (a ++ b) (s ++ t) := by
  induction h with
  | nil => exact h'
  | sp _ ih => exact .sp ih
  | @tok x c t k h1 _ ih =>
    rw [List.append_assoc]
    exact .tok h1 ih
theorem Sc.one {x : List UInt8} {k : Tok} (h : TkS x k) : Sc (x ++ [32]) [k] := .tok h (.sp .nil)
theorem drop_bt {src : ByteArray} {i : Nat} {x : List UInt8} {b : List UInt8} (h : src.data.toList.drop i = x ++ b) {o : Nat} (ho : o < x.length) : bt src (i + o) = (x[o]).toNat := by
  have h1 : (src.data.toList.drop i)[o]? = some x[o] := by rw [h, List.getElem?_append_left ho, List.getElem?_eq_getElem ho]
  rw [List.getElem?_drop] at h1
  rw [bt_list, h1]
  rfl
theorem drop_size {src : ByteArray} {i : Nat} {x : List UInt8} (h : src.data.toList.drop i = x) (hx : 0 < x.length) : i + x.length = src.size := by
  have := congrArg List.length h
  simp at this
  have e : src.data.size = src.size := rfl
  omega
theorem ext_list {src : ByteArray} {i : Nat} {x b : List UInt8} (h : src.data.toList.drop i = x ++ b) : (src.extract i (i + x.length)).data.toList = x := by
  rw [ByteArray.data_extract, Array.toList_extract]
  rw [List.extract_eq_take_drop, h]
  simp
theorem drop_more {l : List UInt8} {i : Nat} {x b : List UInt8} (h : l.drop i = x ++ b) : l.drop (i + x.length) = b := by
  rw [← List.drop_drop, h]
  simp
theorem decV_list (s : ByteArray) : ∀ n, n ≤ s.data.toList.length → decV s n = dV (s.data.toList.take n)
  | 0, _ => rfl
  | n + 1, h => by
    rw [decV, decV_list s n (by omega), List.take_add_one, bt_list, List.getElem?_eq_getElem (by omega)]
    simp [dV, List.foldl_append]
theorem ba_ext {a b : ByteArray} (h : a.data.toList = b.data.toList) : a = b := by
  cases a with | mk a => cases b with | mk b => exact congrArg ByteArray.mk (Array.toList_inj.1 h)
theorem sign2 : ∀ m : Fin 23, bt (tokText ((m.val + 17 : Nat) : Int)) 1 ≠ 32 ∧ classN (bt (tokText ((m.val + 17 : Nat) : Int)) 0) ≠ 1 ∧ classN (bt (tokText ((m.val + 17 : Nat) : Int)) 0) ≠ 2 ∧ classN (bt (tokText ((m.val + 17 : Nat) : Int)) 0) ≠ 3 ∧ bt (tokText ((m.val + 17 : Nat) : Int)) 0 ≠ 35 ∧ (tokText ((m.val + 17 : Nat) : Int)).size ≤ 2 ∧ 1 ≤ (tokText ((m.val + 17 : Nat) : Int)).size := by decide
theorem sign2_at (k : Nat) (h1 : 17 ≤ k) (h2 : k ≤ 39) : bt (tokText k) 1 ≠ 32 ∧ classN (bt (tokText k) 0) ≠ 1 ∧ classN (bt (tokText k) 0) ≠ 2 ∧ classN (bt (tokText k) 0) ≠ 3 ∧ bt (tokText k) 0 ≠ 35 ∧ (tokText k).size ≤ 2 ∧ 1 ≤ (tokText k).size := by
  have := sign2 ⟨k - 17, by omega⟩
  simpa only [show k - 17 + 17 = k by omega] using this
theorem kw0 : ∀ m : Fin 14, letterB (bt (tokText ((m.val + 3 : Nat) : Int)) 0) = true ∧ 1 ≤ (tokText ((m.val + 3 : Nat) : Int)).size ∧ (tokText ((m.val + 3 : Nat) : Int)).size ≤ 8 := by decide
theorem kw0_at (k : Nat) (h1 : 3 ≤ k) (h2 : k ≤ 16) : letterB (bt (tokText k) 0) = true ∧ 1 ≤ (tokText k).size ∧ (tokText k).size ≤ 8 := by
  have := kw0 ⟨k - 3, by omega⟩
  simpa only [show k - 3 + 3 = k by omega] using this
section
variable {src : ByteArray} {i : Nat} {ts : List Tok} {G : R}
/-- A word and a blank. -/
theorem lex_word {s : ByteArray} {b : List UInt8} (h : At src i ts G) (hd : src.data.toList.drop i = s.data.toList ++ 32 :: b) (h1 : 1 ≤ s.size) (h8 : s.size ≤ 8) (hl : letterB (bt s 0) = true) (ha : ∀ o, o < s.size → alnumB (bt s o) = true) :
    At src (i + s.size) (ts ++ [wordT ⟨[], 0, i, bt s 0, 0, 0, 0⟩ s]) G := by
  have hsz : s.data.toList.length = s.size := by simp
  have hz := drop_size hd (by simp only [List.length_append, List.length_cons]; omega)
  simp only [List.length_append, List.length_cons] at hz
  have hb : ∀ o, o < s.size → bt src (i + o) = bt s o := fun o ho => by
    rw [drop_bt hd (by omega), bt_list, List.getElem?_eq_getElem (by omega)]; rfl
  have h32 : bt src (i + s.size) = 32 := by
    have := drop_bt (src := src) (i := i) (x := s.data.toList ++ [32]) (b := b) (by rw [hd]; simp) (o := s.size) (by simp [hsz])
    rw [this]
    rw [List.getElem_append_right (by omega)]
    simp
  have hex : src.extract i (i + s.size) = s := ba_ext (by rw [← hsz]; exact ext_list hd)
  have hr : Run alnumB src i s.size := ⟨by omega, fun j q1 q2 => by
    have := hb (j - i) (by omega)
    rw [show i + (j - i) = j by omega] at this
    rw [this]; exact ha _ (by omega), .inr (by rw [h32]; decide)⟩
  have h0 := hb 0 (by omega)
  rw [Nat.add_zero] at h0
  have := at_word h (by omega) (by rw [h0]; exact hl) hr h8
  rw [hex, h0] at this
  exact this
theorem lex_num {x : List UInt8} {b : List UInt8} (h : At src i ts G) (hd : src.data.toList.drop i = x ++ 32 :: b) (h1 : x ≠ []) (ha : ∀ c ∈ x, digitB c.toNat = true) (hv : (dV x : Int) ≤ 9223372036854775807) :
    At src (i + x.length) (ts ++ [⟨2, i, dV x, ⟨#[]⟩⟩]) G := by
  have hx : 0 < x.length := List.length_pos_iff.2 h1
  have hz := drop_size hd (by simp only [List.length_append, List.length_cons]; omega)
  simp only [List.length_append, List.length_cons] at hz
  have h32 : bt src (i + x.length) = 32 := by
    have := drop_bt (src := src) (i := i) (x := x ++ [32]) (b := b) (by rw [hd]; simp) (o := x.length) (by simp)
    rw [this]
    simp
  have hr : Run digitB src i x.length := ⟨by omega, fun j q1 q2 => by
    have := drop_bt hd (o := j - i) (by omega)
    rw [show i + (j - i) = j by omega] at this
    rw [this]; exact ha _ (List.getElem_mem _), .inr (by rw [h32]; decide)⟩
  have hex := ext_list hd
  have hdv : decV (src.extract i (i + x.length)) x.length = dV x := by
    rw [decV_list _ _ (by rw [hex]; omega), hex, List.take_length]
  have := at_num h hr hx (by rw [hdv]; omega)
  rw [hdv] at this
  exact this
theorem lex_sign {k : Nat} {b : List UInt8} (h : At src i ts G) (hd : src.data.toList.drop i = (tokText k).data.toList ++ 32 :: b) (h1 : 17 ≤ k) (h2 : k ≤ 39) :
    At src (i + (tokText k).size) (ts ++ [⟨k, i, 0, ⟨#[]⟩⟩]) G := by
  have hsz : (tokText k).data.toList.length = (tokText k).size := by simp
  have hz := drop_size hd (by simp only [List.length_append, List.length_cons]; omega)
  simp only [List.length_append, List.length_cons] at hz
  obtain ⟨s1, s2, s3, s4, s5, s6, s7⟩ := sign2_at k h1 h2
  have hb : ∀ o, o < (tokText k).size → bt src (i + o) = bt (tokText k) o := fun o ho => by
    rw [drop_bt hd (by omega), bt_list, List.getElem?_eq_getElem (by omega)]; rfl
  have h32 : bt src (i + (tokText k).size) = 32 := by
    have := drop_bt (src := src) (i := i) (x := (tokText k).data.toList ++ [32]) (b := b) (by rw [hd]; simp) (o := (tokText k).size) (by simp [hsz])
    rw [this]
    rw [List.getElem_append_right (by omega)]
    simp
  have hm : Mt src i k := (mt_bytes _ _ _).2 ⟨by omega, hb⟩
  have hf : FixR src i 17 40 k (tokText k).size := ⟨fun e => by omega, fun _ => ⟨h1, by omega, hm, rfl⟩, fun j q1 q2 q3 => by
    obtain ⟨_, m2⟩ := (mt_bytes _ _ _).1 q3
    obtain ⟨t1, _, _, _, _, t6, t7⟩ := sign2_at j q1 (by omega)
    rcases (show (tokText j).size ≤ (tokText k).size ∨ ((tokText k).size = 1 ∧ (tokText j).size = 2) by omega) with e | ⟨e1, e2⟩
    · exact e
    · have := m2 1 (by omega)
      rw [e1] at h32
      rw [h32] at this
      exact absurd this.symm t1⟩
  have h0 := hb 0 (by omega)
  rw [Nat.add_zero] at h0
  rcases at_sign h (by omega) hf (by rw [h0]; exact s2) (by rw [h0]; exact s3) (by rw [h0]; exact s4) (by rw [h0]; exact s5) with ⟨e, _⟩ | ⟨_, _, e⟩
  · omega
  · exact e
end
theorem lex_text {b : List UInt8} {t : List Tok} (hs : Sc b t) : ∀ {src : ByteArray} {i : Nat} {ts : List Tok} {G : R}, At src i ts G → i ≤ src.size → src.data.toList.drop i = b → ∃ ts', ts'.map zT = t ∧ At src src.size (ts ++ ts') G := by
  induction hs with
  | nil =>
    intro src i ts G h hi hd
    have := congrArg List.length hd
    simp at this
    have e : src.data.size = src.size := rfl
    obtain rfl : i = src.size := by omega
    exact ⟨[], rfl, by simpa using h⟩
  | @sp b t _ ih =>
    intro src i ts G h hi hd
    have hz := drop_size hd (by simp)
    simp only [List.length_cons] at hz
    have h32 : bt src i = 32 := by
      have := drop_bt (src := src) (i := i) (x := [32]) (b := b) hd (o := 0) (by simp)
      simpa using this
    exact ih (at_space h (by omega) (by rw [h32]; decide)) (by omega) (drop_more (x := [32]) hd)
  | @tok x b t k hk _ ih =>
    intro src i ts G h hi hd
    have hz := drop_size hd (by simp only [List.length_append, List.length_cons]; omega)
    simp only [List.length_append, List.length_cons] at hz
    have go : ∀ tt : Tok, zT tt = k → At src (i + x.length) (ts ++ [tt]) G → ∃ ts', ts'.map zT = k :: t ∧ At src src.size (ts ++ ts') G := fun tt e ha => by
      obtain ⟨ts', q1, q2⟩ := ih ha (by omega) (drop_more hd)
      exact ⟨tt :: ts', by simp [q1, e], by simpa using q2⟩
    cases hk with
    | @id s hid =>
      obtain ⟨i1, i2, i3, i4, i5⟩ := hid
      have hsz : s.data.toList.length = s.size := by simp
      refine go _ ?_ (by rw [hsz]; exact lex_word h hd i1 i2 i3 i4)
      unfold wordT
      rw [if_neg (fun q => i5 q.2)]
      rfl
    | @num l v h1 h2 h3 h4 =>
      subst h3
      exact go _ rfl (lex_num h hd h1 h2 h4)
    | @kw k h1 h2 =>
      have hsz : (tokText k).data.toList.length = (tokText k).size := by simp
      by_cases hw : k ≤ 16
      · obtain ⟨f1, f2⟩ := kw_fact k h1 hw
        obtain ⟨g1, g2, g3⟩ := kw0_at k h1 hw
        refine go _ ?_ (by rw [hsz]; exact lex_word h hd g2 g3 g1 f2)
        unfold wordT
        simp only [f1]
        rw [if_pos (by simp; omega)]
        rfl
      · exact go _ rfl (by rw [hsz]; exact lex_sign h hd (by omega) h2)
/-- A text of words: its tokens. -/
theorem ans_text {src : ByteArray} {t : List Tok} (h : Sc src.data.toList t) (hsz : src.size ≤ 4096) : ansErr src = 0 ∧ ∃ T, ansTs src = T ∧ T.map zT = t ++ [⟨0, 0, 0, ⟨#[]⟩⟩] := by
  obtain ⟨ts, h1, h2⟩ := lex_text h (at_start src) (by omega) rfl
  obtain ⟨h3, h4⟩ := at_end h2
  refine ⟨by unfold ansErr; rw [if_pos hsz, h3]; rfl, _, rfl, ?_⟩
  unfold ansTs
  rw [if_pos ⟨hsz, h3⟩, h4]
  simp [h1, eofT, zT]
end Go.Proofs.Qxb6500280a
