/- The lexers, as the parsers see them. -/
import Derived.Test.Qxb6500277aGreatW14
namespace Go.Proofs.Qxb6500277aGreat
open Go Go.RowKit

/-- A list value that holds the tokens ts and has no spare room. -/
def LV (w : World) (v : Value) (ts : List Tok) : Prop := (v = .slice none 0 0 ∧ ts = []) ∨ ∃ b, v = .slice (some ⟨b, 0, none⟩) ts.length ts.length ∧ TokAt w b ts ∧ 0 < ts.length
def isBlk (v : Value) (b : Nat) : Prop := ∃ n c, v = .slice (some ⟨b, 0, none⟩) n c
theorem LV.frame {S : Nat → Prop} {w w' : World} {v : Value} {ts : List Tok} (h : LV w v ts) (k : Fr S w w') (hb : ∀ b, isBlk v b → ¬ S b) : LV w' v ts := by
  rcases h with h | ⟨b, rfl, ht, hp⟩
  · exact .inl h
  · exact .inr ⟨b, rfl, ht.frame k (hb b ⟨_, _, rfl⟩), hp⟩
theorem LV.lt {w : World} {v : Value} {ts : List Tok} (h : LV w v ts) {b : Nat} (hb : isBlk v b) : b < w.heap.size := by
  obtain ⟨n, c, e⟩ := hb
  rcases h with ⟨rfl, _⟩ | ⟨b', rfl, ht, hp⟩
  · cases e
  · cases e; exact Blk.lt ht
theorem TokAt.tok {w : World} {b : Nat} {ts : List Tok} (h : TokAt w b ts) (j : Nat) (hj : j < ts.length) (o : Nat) (ho : o < 4) : w.cell? ⟨b, j * 4 + o, none⟩ = some (tokCell ts[j] o) := by
  rw [Blk.cell h (by omega), bufF_at _ _ _ ho]
  simp [hj]
theorem fin_mi {src : ByteArray} : ∀ (n i : Nat) (r : R), i + n = src.size → MI src i r → (finR src i r).fail = 0 → MI src src.size (finR src i r) ∧ (finR src i r).state = 0
  | n, i, r, hn, hm, hf => by
    by_cases h0 : r.fail = 0
    · match n with
      | 0 =>
        have e : i = src.size := by omega
        subst e
        rw [fin_end h0] at hf ⊢
        obtain ⟨a, b⟩ := (end_mi hm h0).2 hf
        exact ⟨a, b.1⟩
      | n + 1 =>
        rw [fin_step (by omega) h0] at hf ⊢
        exact fin_mi n (i + 1) _ (by omega) (step_mi hm h0 (by omega)) hf
    · rw [fin_fail h0] at hf; exact absurd hf h0
/-- What both sides answer. -/
def ansTs (src : ByteArray) : List Tok := if src.size ≤ 4096 ∧ (finR src 0 r0).fail = 0 then (finR src 0 r0).toks ++ [eofT src.size] else []
def ansErr (src : ByteArray) : Int := if src.size ≤ 4096 then (finR src 0 r0).fail else 31
def ansPos (src : ByteArray) : Int := if src.size ≤ 4096 then (if (finR src 0 r0).fail = 0 then 0 else ((finR src 0 r0).start : Int)) else 4096
theorem ansTs_len (src : ByteArray) : (ansTs src).length ≤ 8192 := by
  unfold ansTs
  split
  · rename_i h
    have := (fin_mi src.size 0 r0 (by omega) (r0_mi src) h.2).1.len
    simp; omega
  · simp
theorem ansErr_ts (src : ByteArray) : (ansErr src = 0 ∧ 0 < (ansTs src).length ∧ ansPos src = 0) ∨ (ansErr src ≠ 0 ∧ ansTs src = []) := by
  unfold ansErr ansTs ansPos
  by_cases h : src.size ≤ 4096
  · by_cases h2 : (finR src 0 r0).fail = 0
    · left; simp [h, h2]
    · right; simp [h, h2]
  · right; simp [h]
/-- The tokens of a text that the lexer takes: the last is the end, none other is; no place is negative. -/
structure TkOk (T : List Tok) : Prop where
  pos : 0 < T.length
  le : T.length ≤ 8192
  eof : ∀ i (h : i < T.length), T[i].kind = 0 ↔ i + 1 = T.length
  ps : ∀ i (h : i < T.length), 0 ≤ T[i].pos
theorem ansTs_ok {src : ByteArray} (h0 : ansErr src = 0) : TkOk (ansTs src) := by
  have hp : 0 < (ansTs src).length := by
    rcases ansErr_ts src with h | h
    · exact h.2.1
    · exact absurd h0 h.1
  have hl := ansTs_len src
  refine ⟨hp, hl, ?_, ?_⟩
  all_goals
    unfold ansErr at h0
    unfold ansTs at hp ⊢
    by_cases hsz : src.size ≤ 4096
    · rw [if_pos hsz] at h0
      have h0' : (finR src 0 r0).fail = 0 := by simpa using h0
      obtain ⟨a, b'⟩ := fin_mi src.size 0 r0 (by omega) (r0_mi src) h0'
      have hf := a.fine
      have hc : src.size ≤ 4096 ∧ (finR src 0 r0).fail = 0 := ⟨hsz, h0'⟩
      simp only [hc, and_self, if_true]
      intro i hi
      simp only [List.length_append, List.length_singleton] at hi ⊢
      by_cases hlt : i < (finR src 0 r0).toks.length
      · rw [List.getElem_append_left hlt]
        first
          | exact ⟨fun e => absurd e (hf i hlt).2.1, fun e => by omega⟩
          | exact (hf i hlt).1.p0
      · have e : i = (finR src 0 r0).toks.length := by omega
        subst e
        simp [eofT]
    · simp [hsz] at h0
theorem realL {w : World} {x bb : Nat} {r : R} (h : LRep w x bb r) (src : ByteArray) : Calls Tryz.prog 83 #[.pointer (some ⟨x, 0, none⟩), .string src] w fun e w' =>
    ∃ bb' r' v, e = .returned (toksV v (ansErr src) (ansPos src)) ∧ LRep w' x bb' r' ∧ Fr (lS x bb) w w' ∧ (bb' = bb ∨ w.heap.size ≤ bb') ∧ LV w' v (ansTs src) ∧ ∀ b, isBlk v b → w.heap.size ≤ b ∧ b ≠ bb' := by
  unfold ansErr ansPos ansTs
  by_cases hsz : src.size ≤ 4096
  · refine (lex_any h src hsz).mono ?_
    rintro e w' ⟨⟨bb', f, hb, h1⟩, hm⟩
    rcases h1 with ⟨h0, rfl, hr⟩ | ⟨h0, hr, b, rfl, ht, hb1, hb2⟩
    · refine ⟨bb', _, _, ?_, hr, f, hb, .inl ⟨rfl, ?_⟩, fun b hb => by obtain ⟨n, c, e⟩ := hb; cases e⟩
      · rw [if_pos hsz, if_pos hsz, if_neg h0]
      · rw [if_neg (fun e => h0 e.2)]
    · refine ⟨bb', _, (.slice (some ⟨b, 0, none⟩) ((finR src 0 r0).toks.length + 1) ((finR src 0 r0).toks.length + 1)), ?_, hr, f, hb, .inr ⟨b, ?_, ?_, ?_⟩, fun c hc => by obtain ⟨n, c', e⟩ := hc; cases e; exact ⟨hb1, hb2⟩⟩
      · rw [if_pos hsz, if_pos hsz, if_pos h0, h0]; rfl
      · rw [if_pos ⟨hsz, h0⟩]; simp
      · rw [if_pos ⟨hsz, h0⟩]; exact ht
      · rw [if_pos ⟨hsz, h0⟩]; simp
  · refine (lex_long src hsz).mono ?_
    rintro e w' ⟨rfl, f⟩
    refine ⟨bb, r, _, ?_, h.frame f (by simp) (by simp), f.mono (fun _ _ h => h.elim), .inl rfl, .inl ⟨rfl, ?_⟩, fun b hb => by obtain ⟨n, c, e⟩ := hb; cases e⟩
    · rw [if_neg hsz, if_neg hsz]
    · rw [if_neg (fun e => hsz e.1)]
theorem modelL (v0 : Value) {w : World} (src : ByteArray) : Calls Tryz.prog 73 #[v0, .string src] w fun e w' =>
    ∃ v, e = .returned (toksV v (ansErr src) (ansPos src)) ∧ Fr (fun _ => False) w w' ∧ LV w' v (ansTs src) ∧ ∀ b, isBlk v b → w.heap.size ≤ b := by
  unfold ansErr ansPos ansTs
  by_cases hsz : src.size ≤ 4096
  · refine (mlex_any v0 src hsz).mono ?_
    rintro e w' ⟨f, ⟨h0, rfl⟩ | ⟨h0, b, rfl, ht, hb⟩⟩
    · refine ⟨_, ?_, f, .inl ⟨rfl, ?_⟩, fun b hb => by obtain ⟨n, c, e⟩ := hb; cases e⟩
      · rw [if_pos hsz, if_pos hsz, if_neg h0]
      · rw [if_neg (fun e => h0 e.2)]
    · refine ⟨(.slice (some ⟨b, 0, none⟩) ((finR src 0 r0).toks.length + 1) ((finR src 0 r0).toks.length + 1)), ?_, f, .inr ⟨b, ?_, ?_, ?_⟩, fun c hc => by obtain ⟨n, c', e⟩ := hc; cases e; exact hb⟩
      · rw [if_pos hsz, if_pos hsz, if_pos h0, h0]; rfl
      · rw [if_pos ⟨hsz, h0⟩]; simp
      · rw [if_pos ⟨hsz, h0⟩]; exact ht
      · rw [if_pos ⟨hsz, h0⟩]; simp
  · refine (mlex_long v0 src hsz).mono ?_
    rintro e w' ⟨rfl, f⟩
    refine ⟨_, ?_, f, .inl ⟨rfl, ?_⟩, fun b hb => by obtain ⟨n, c, e⟩ := hb; cases e⟩
    · rw [if_neg hsz, if_neg hsz]
    · rw [if_neg (fun e => hsz e.1)]
def rNew : R := ⟨[], 0, 0, 0, 0, 0, 0⟩
set_option maxRecDepth 100000 in
set_option maxHeartbeats 4000000 in
theorem newL (w : World) : Calls Tryz.prog 20 #[] w fun e w' => e = .returned (.pointer (some ⟨w.heap.size + 1, 0, none⟩)) ∧ LRep w' (w.heap.size + 1) w.heap.size rNew ∧ Fr (fun _ => False) w w' := by
  go_enter Tryz.func20, Tryz.ntmps20
  go_wp2_with (refine wpList_makeB (by rfl) 97 _ _ (by rfl) 182 4 40 (.agg #[.int .i64 0, .int .i64 0, .int .i64 0, .string ⟨#[]⟩]) 4 (by rfl) (by rfl) Tryz.underlying97 (by kernel_rfl) (by kernel_rfl) (by kernel_rfl) (by omega) (by omega) ?_; intro w2 f2 s2 hb2)
  go_ret
  refine ⟨by rw [← s2]; rfl, ⟨List.replicate 4 zeroTok, ?_⟩, f2.alloc _⟩
  rw [← s2]
  refine ⟨?_, ?_, by omega, by simp, by simp, by simp [rNew], by simp [rNew]⟩
  · refine Blk.new w2 _ _ _ fun o ho => ?_
    rcases lt8 (show o < 8 by simpa using ho) with rfl | rfl | rfl | rfl | rfl | rfl | rfl | rfl <;> rfl
  · refine (hb2.congr fun o ho => ?_).alloc _
    rw [zero_cells]
    have : (List.replicate 4 zeroTok).getD (o / 4) zeroTok = zeroTok := by
      simp only [List.getD_eq_getElem?_getD, List.getElem?_replicate]
      split <;> rfl
    unfold bufF
    rw [this]
set_option maxHeartbeats 400000 in
theorem mnewL (w : World) : Calls Tryz.prog 61 #[] w fun e w' => (∃ q, e = .returned (.pointer q)) ∧ Fr (fun _ => False) w w' := by
  go_enter Tryz.func61, Tryz.ntmps61
  go_wp2_with fail
  go_ret
  exact ⟨⟨_, rfl⟩, (Fr.refl _ _).alloc _⟩
set_option maxRecDepth 100000 in
set_option maxHeartbeats 4000000 in
theorem joinL (reg s : ByteArray) (hr : reg.size ≤ 4097) (w : World) : Calls Tryz.prog 11 #[.string reg, .string s, .int .i64 4096] w fun e w' => (∃ t : ByteArray, e = .returned (.string t) ∧ t.size ≤ 4097) ∧ w' = w := by
  by_cases h1 : reg.size = 4097
  · go_enter Tryz.func11, Tryz.ntmps11
    go_wp2
    go_ret
    exact ⟨⟨_, rfl, hr⟩, rfl⟩
  · have hr2 : reg.size < 4097 := by omega
    clear hr h1
    by_cases h2 : (4097 : Int) - reg.size < s.size
    · go_enter Tryz.func11, Tryz.ntmps11
      go_wp2
      go_ret
      refine ⟨⟨_, rfl, ?_⟩, rfl⟩
      simp [ByteArray.size_append, ByteArray.size_extract]
      omega
    · go_enter Tryz.func11, Tryz.ntmps11
      go_wp2
      go_ret
      refine ⟨⟨_, rfl, ?_⟩, rfl⟩
      simp [ByteArray.size_append]
      omega
end Go.Proofs.Qxb6500277aGreat
