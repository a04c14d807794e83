/- After every call of Lex the invariant that Check asks stands; what both sides answer. -/
import Derived.Test.Qxb6500279aW20
namespace Go.Proofs.Qxb6500279a
open Go Go.RowKit

theorem fin_mi {src : ByteArray} : ∀ (n i : Nat) (r : R), i + n = src.size → MI src i r → (finR src i r).fail = 0 → MI src src.size (finR src i r) ∧ (finR src i r).state = 0
  | n, i, r, hn, hm, hf => by
    by_cases h0 : r.fail = 0
    · match n with
      | 0 =>
        have e : i = src.size := by omega
        subst e
        rw [fin_end h0] at hf ⊢
        obtain ⟨a, b⟩ := (end_mi hm h0).2 hf
        exact ⟨a, b.1⟩
      | n + 1 =>
        rw [fin_step (by omega) h0] at hf ⊢
        exact fin_mi n (i + 1) _ (by omega) (step_mi hm h0 (by omega)) hf
    · rw [fin_fail h0] at hf; exact absurd hf h0
theorem FineT.pos {ts : List Tok} {e : Int} (h : FineT ts e) : ∀ k j, j + k + 1 = ts.length → (hj : j < ts.length) → ts[j].pos ≤ e
  | 0, j, hk, hj => by
    obtain ⟨h1, _, h3⟩ := h j hj
    rw [dif_neg (by omega)] at h3
    have := (width_bounds h1).1
    omega
  | k + 1, j, hk, hj => by
    obtain ⟨h1, _, h3⟩ := h j hj
    rw [dif_pos (by omega)] at h3
    have := (width_bounds h1).1
    have := FineT.pos h k (j + 1) (by omega) (by omega)
    omega
theorem FineT.ord {ts : List Tok} {e : Int} (h : FineT ts e) (j : Nat) (hj : j + 1 < ts.length) : ts[j].pos + widthT ts[j] ≤ ts[j + 1].pos := by
  obtain ⟨_, _, h3⟩ := h j (by omega)
  rwa [dif_pos hj] at h3
theorem check_fail {src : ByteArray} {r : R} (hsz : src.size ≤ 4096) (hm : MI src (src.size + 1) r) (h0 : r.fail ≠ 0) : CheckOK r := by
  have hf : FineT r.toks ((src.size : Int) + 1) := hm.fine.mono (by have := hm.le; split <;> omega)
  refine ⟨hm.st5, fun j hj => (hf j hj).1, fun j hj => hf.ord j hj, fun j hj => ⟨fun e => absurd e (hf j hj).2.1, fun e => absurd e.2 h0⟩, fun j hj => ?_⟩
  have := hf.pos (r.toks.length - j - 1) j (by omega) hj
  omega
theorem eof_sound (n : Nat) : SoundT (eofT n) := ⟨by simp [eofT], by simp [eofT], by simp [eofT], fun h => by simp [eofT] at h, fun h => by simp [eofT] at h, fun _ _ => ⟨rfl, rfl⟩⟩
theorem check_ok {src : ByteArray} {r : R} (hsz : src.size ≤ 4096) (hm : MI src src.size r) (h0 : r.fail = 0) (hs : r.state = 0) : CheckOK (pushR r (eofT src.size)) := by
  have hf := hm.fine
  rw [if_pos hs] at hf
  have hl : (pushR r (eofT src.size)).toks.length = r.toks.length + 1 := by simp [pushR]
  have hlt : ∀ j (h : j < r.toks.length) (h' : j < (pushR r (eofT src.size)).toks.length), (pushR r (eofT src.size)).toks[j] = r.toks[j] := fun j h h' => by simp [pushR, List.getElem_append_left h]
  have hge : ∀ j (h' : j < (pushR r (eofT src.size)).toks.length), j = r.toks.length → (pushR r (eofT src.size)).toks[j] = eofT src.size := fun j h' e => by subst e; simp [pushR]
  refine ⟨hm.st5, fun j hj => ?_, fun j hj => ?_, fun j hj => ?_, fun j hj => ?_⟩
  · by_cases h : j < r.toks.length
    · rw [hlt j h hj]; exact (hf j h).1
    · rw [hge j hj (by omega)]; exact eof_sound _
  · rw [hlt j (by omega) (by omega)]
    by_cases h : j + 1 < r.toks.length
    · rw [hlt (j + 1) h hj]; exact hf.ord j h
    · rw [hge (j + 1) hj (by omega)]
      have := (hf j (by omega)).2.2
      rw [dif_neg h] at this
      simpa [eofT] using this
  · by_cases h : j < r.toks.length
    · rw [hlt j h hj]
      exact ⟨fun e => absurd e (hf j h).2.1, fun e => by rw [hl] at e; omega⟩
    · rw [hge j hj (by omega)]
      exact ⟨fun _ => ⟨by rw [hl]; omega, h0⟩, fun _ => rfl⟩
  · by_cases h : j < r.toks.length
    · rw [hlt j h hj]
      have := hf.pos (r.toks.length - j - 1) j (by omega) h
      omega
    · rw [hge j hj (by omega)]
      simp [eofT]; omega

/-- What both sides answer. -/
def ansTs (src : ByteArray) : List Tok := if src.size ≤ 4096 ∧ (finR src 0 r0).fail = 0 then (finR src 0 r0).toks ++ [eofT src.size] else []
def ansErr (src : ByteArray) : Int := if src.size ≤ 4096 then (finR src 0 r0).fail else 31
def ansPos (src : ByteArray) : Int := if src.size ≤ 4096 then (if (finR src 0 r0).fail = 0 then 0 else ((finR src 0 r0).start : Int)) else 4096
theorem ansTs_len (src : ByteArray) : (ansTs src).length ≤ 8192 := by
  unfold ansTs
  split
  · rename_i h
    have := (fin_mi src.size 0 r0 (by omega) (r0_mi src) h.2).1.len
    simp; omega
  · simp
theorem real_any {w : World} {x bb : Nat} {r : R} (h : LRep w x bb r) (hc : CheckOK r) (src : ByteArray) : Calls Try.prog 9 #[.pointer (some ⟨x, 0, none⟩), .string src] w fun e w' =>
    ∃ bb' r' v, e = .returned (toksV v (ansErr src) (ansPos src)) ∧ LRep w' x bb' r' ∧ CheckOK r' ∧ Fr (lS x bb) w w' ∧ (bb' = bb ∨ w.heap.size ≤ bb') ∧ LV w' v (ansTs src) ∧ ∀ b, isBlk v b → w.heap.size ≤ b ∧ b ≠ bb' := by
  unfold ansErr ansPos ansTs
  by_cases hsz : src.size ≤ 4096
  · refine (lex_any h src hsz).mono ?_
    rintro e w' ⟨⟨bb', f, hb, h1⟩, hm⟩
    rcases h1 with ⟨h0, rfl, hr⟩ | ⟨h0, hr, b, rfl, ht, hb1, hb2⟩
    · refine ⟨bb', _, _, ?_, hr, check_fail hsz hm h0, f, hb, .inl ⟨rfl, ?_⟩, fun b hb => by obtain ⟨n, c, e⟩ := hb; cases e⟩
      · rw [if_pos hsz, if_pos hsz, if_neg h0]
      · rw [if_neg (fun e => h0 e.2)]
    · obtain ⟨a, b'⟩ := fin_mi src.size 0 r0 (by omega) (r0_mi src) h0
      refine ⟨bb', _, (.slice (some ⟨b, 0, none⟩) ((finR src 0 r0).toks.length + 1) ((finR src 0 r0).toks.length + 1)), ?_, hr, check_ok hsz a h0 b', f, hb, .inr ⟨b, ?_, ?_, ?_⟩, fun c hc => by obtain ⟨n, c', e⟩ := hc; cases e; exact ⟨hb1, hb2⟩⟩
      · rw [if_pos hsz, if_pos hsz, if_pos h0, h0]; rfl
      · rw [if_pos ⟨hsz, h0⟩]; simp
      · rw [if_pos ⟨hsz, h0⟩]; exact ht
      · rw [if_pos ⟨hsz, h0⟩]; simp
  · refine (lex_long src hsz).mono ?_
    rintro e w' ⟨rfl, f⟩
    refine ⟨bb, r, _, ?_, h.frame f (by simp) (by simp), hc, f.mono (fun _ _ h => h.elim), .inl rfl, .inl ⟨rfl, ?_⟩, fun b hb => by obtain ⟨n, c, e⟩ := hb; cases e⟩
    · rw [if_neg hsz, if_neg hsz]
    · rw [if_neg (fun e => hsz e.1)]
theorem model_any (v0 : Value) {w : World} (src : ByteArray) : Calls Try.prog 27 #[v0, .string src] w fun e w' =>
    ∃ v, e = .returned (toksV v (ansErr src) (ansPos src)) ∧ Fr (fun _ => False) w w' ∧ LV w' v (ansTs src) ∧ ∀ b, isBlk v b → w.heap.size ≤ b := by
  unfold ansErr ansPos ansTs
  by_cases hsz : src.size ≤ 4096
  · refine (mlex_any v0 src hsz).mono ?_
    rintro e w' ⟨f, ⟨h0, rfl⟩ | ⟨h0, b, rfl, ht, hb⟩⟩
    · refine ⟨_, ?_, f, .inl ⟨rfl, ?_⟩, fun b hb => by obtain ⟨n, c, e⟩ := hb; cases e⟩
      · rw [if_pos hsz, if_pos hsz, if_neg h0]
      · rw [if_neg (fun e => h0 e.2)]
    · refine ⟨(.slice (some ⟨b, 0, none⟩) ((finR src 0 r0).toks.length + 1) ((finR src 0 r0).toks.length + 1)), ?_, f, .inr ⟨b, ?_, ?_, ?_⟩, fun c hc => by obtain ⟨n, c', e⟩ := hc; cases e; exact hb⟩
      · rw [if_pos hsz, if_pos hsz, if_pos h0, h0]; rfl
      · rw [if_pos ⟨hsz, h0⟩]; simp
      · rw [if_pos ⟨hsz, h0⟩]; exact ht
      · rw [if_pos ⟨hsz, h0⟩]; simp
  · refine (mlex_long v0 src hsz).mono ?_
    rintro e w' ⟨rfl, f⟩
    refine ⟨_, ?_, f, .inl ⟨rfl, ?_⟩, fun b hb => by obtain ⟨n, c, e⟩ := hb; cases e⟩
    · rw [if_neg hsz, if_neg hsz]
    · rw [if_neg (fun e => hsz e.1)]
end Go.Proofs.Qxb6500279a
