import Derived.Test.Qxb6500279aW16
namespace Go.Proofs.Qxb6500279a
open Go Go.RowKit

set_option maxRecDepth 100000 in
set_option maxHeartbeats 4000000 in
theorem sameTok_any (t : Tok) (w : World) : Calls Try.prog 48 #[tokV t, tokV t] w fun e w' => e = .returned (.bool true) ∧ Fr (fun _ => False) w w' := by
  unfold tokV
  go_enter Try.func48, Try.ntmps48
  go_wp2_with fail
  go_ret
  exact ⟨rfl, ((Fr.refl _ _).alloc _).alloc _⟩

def stampT : Tok := ⟨-1, -1, -1, ⟨#[109, 105, 110, 101]⟩⟩
set_option maxHeartbeats 400000 in
theorem stamp_any (w : World) : Calls Try.prog 45 #[] w fun e w' => e = .returned (tokV stampT) ∧ Fr (fun _ => False) w w' := by
  go_enter Try.func45, Try.ntmps45
  go_wp2_with fail
  exact bodyPost_ret (v := tokV stampT) (by simp [results, Try.results45, go_sem, tokV, stampT]) rfl ⟨rfl, (Fr.refl _ _).alloc _⟩

/-- A list value that holds the tokens ts and has no spare room. -/
def LV (w : World) (v : Value) (ts : List Tok) : Prop := (v = .slice none 0 0 ∧ ts = []) ∨ ∃ b, v = .slice (some ⟨b, 0, none⟩) ts.length ts.length ∧ TokAt w b ts ∧ 0 < ts.length
def isBlk (v : Value) (b : Nat) : Prop := ∃ n c, v = .slice (some ⟨b, 0, none⟩) n c
theorem LV.frame {S : Nat → Prop} {w w' : World} {v : Value} {ts : List Tok} (h : LV w v ts) (k : Fr S w w') (hb : ∀ b, isBlk v b → ¬ S b) : LV w' v ts := by
  rcases h with h | ⟨b, rfl, ht, hp⟩
  · exact .inl h
  · exact .inr ⟨b, rfl, ht.frame k (hb b ⟨_, _, rfl⟩), hp⟩
theorem LV.lt {w : World} {v : Value} {ts : List Tok} (h : LV w v ts) {b : Nat} (hb : isBlk v b) : b < w.heap.size := by
  obtain ⟨n, c, e⟩ := hb
  rcases h with ⟨rfl, _⟩ | ⟨b', rfl, ht, hp⟩
  · cases e
  · cases e; exact Blk.lt ht
theorem TokAt.tok {w : World} {b : Nat} {ts : List Tok} (h : TokAt w b ts) (j : Nat) (hj : j < ts.length) (o : Nat) (ho : o < 4) : w.cell? ⟨b, j * 4 + o, none⟩ = some (tokCell ts[j] o) := by
  rw [Blk.cell h (by omega), bufF_at _ _ _ ho]
  simp [hj]

set_option maxRecDepth 100000 in
set_option maxHeartbeats 4000000 in
theorem sameList_any {w : World} {v1 v2 : Value} {ts : List Tok} (h1 : LV w v1 ts) (h2 : LV w v2 ts) (hl : ts.length ≤ 8192) :
    Calls Try.prog 43 #[v1, v2] w fun e w' => e = .returned (.bool true) ∧ Fr (fun _ => False) w w' := by
  rcases h1 with ⟨rfl, rfl⟩ | ⟨b1, rfl, ht1, hp⟩
  · rcases h2 with ⟨rfl, _⟩ | ⟨b2, rfl, ht2, hp⟩
    · go_enter Try.func43, Try.ntmps43
      go_wp2_with fail
      refine wp_loop_rounds 1 ?_
      rw [rounds_succ]
      go_wp2_with fail
      go_ret
      exact ⟨rfl, Fr.refl _ _⟩
    · simp at hp
  · rcases h2 with ⟨_, rfl⟩ | ⟨b2, rfl, ht2, hp2⟩
    · simp at hp
    go_enter Try.func43, Try.ntmps43
    go_wp2_with fail
    go_loopg [5] ts.length (fun g iv wr => ∃ i : Nat, iv = .int .i64 i ∧ i + g = ts.length ∧ Fr (fun _ => False) w wr)
    case atStart => exact ⟨0, rfl, by omega, Fr.refl _ _⟩
    case round =>
      obtain ⟨i, rfl, hg, hfr⟩ := hrel
      have hg' : i + gk = ts.length := hg
      clear hg
      by_cases hlt : i < ts.length
      · have k1 : TokAt wr b1 ts := ht1.frame hfr (by simp)
        have k2 : TokAt wr b2 ts := ht2.frame hfr (by simp)
        have a0 := k1.tok i hlt 0 (by omega)
        have a1 := k1.tok i hlt 1 (by omega)
        have a2 := k1.tok i hlt 2 (by omega)
        have a3 := k1.tok i hlt 3 (by omega)
        have c0 := k2.tok i hlt 0 (by omega)
        have c1 := k2.tok i hlt 1 (by omega)
        have c2 := k2.tok i hlt 2 (by omega)
        have c3 := k2.tok i hlt 3 (by omega)
        simp only [tokCell, Nat.add_zero] at a0 a1 a2 a3 c0 c1 c2 c3
        go_wp2_with fail
        refine wp_region_text (by kernel_rfl) (by kernel_rfl) ?_
        go_wp2_with fail
        refine (sameTok_any ts[i] _).mono ?_
        rintro e w3 ⟨rfl, f3⟩
        go_wp2_with fail
        refine ⟨by kernel_rfl, ?_⟩
        go_wp2_with fail
        go_roundg (gk - 1)
        case measure => omega
        case rel => exact ⟨i + 1, by simp, by omega, hfr.drew.trans f3 (fun _ _ h => h)⟩
      · go_wp2_with fail
        go_ret
        exact ⟨rfl, hfr⟩
end Go.Proofs.Qxb6500279a
