import Derived.Test.Qxb6500279aW19
namespace Go.Proofs.Qxb6500279a
open Go Go.RowKit

def KeepPost (w : World) (x d : Nat) (mp : Value) (D : DD) (ml : List (Nat × Nat)) (p : Nat × Nat) : Ending → World → Prop := fun e w' =>
  e = .returned (.tuple #[]) ∧ ∃ mv' ml', Blk w' d 10 (dcell x mp { D with mv := mv' }) ∧ MineAt w' mv' ml' ∧ ml'.length ≤ 16 ∧ (∀ q ∈ ml', q ∈ ml ∨ q = p) ∧
    Fr (fun c => c = d ∨ isBlk D.mv c) w w' ∧ ∀ c, isBlk mv' c → isBlk D.mv c ∨ w.heap.size ≤ c
theorem MineAt.sl {w : World} {v : Value} {p : List (Nat × Nat)} (h : MineAt w v p) : ∃ a cap, v = .slice a p.length cap := by
  rcases h with ⟨rfl, rfl⟩ | ⟨b, cap, f, rfl, _⟩
  · exact ⟨none, 0, rfl⟩
  · exact ⟨_, _, rfl⟩
set_option maxRecDepth 100000 in
set_option maxHeartbeats 4000000 in
theorem keep_nil {w : World} {d : Nat} : Calls Try.prog 33 #[.pointer (some ⟨d, 0, none⟩), .slice none 0 0] w fun e w' => e = .returned (.tuple #[]) ∧ w' = w := by
  go_enter Try.func33, Try.ntmps33
  go_wp2_with fail
  exact bodyPost_ret (v := .tuple #[]) (by simp [results, Try.results33, go_sem]) rfl ⟨rfl, rfl⟩

set_option maxRecDepth 100000 in
set_option maxHeartbeats 4000000 in
theorem keep_room {w : World} {x d : Nat} {mp : Value} {D : DD} {ml : List (Nat × Nat)} {p : Nat × Nat} (hd : Blk w d 10 (dcell x mp D)) (hm : MineAt w D.mv ml) (hl : ml.length < 16) (hp : 0 < p.2) (hdm : ¬ isBlk D.mv d) :
    Calls Try.prog 33 #[.pointer (some ⟨d, 0, none⟩), mineV p] w (KeepPost w x d mp D ml p) := by
  obtain ⟨a, cap, e⟩ := hm.sl
  have c9 : w.cell? ⟨d, 9, none⟩ = some (.slice a ml.length cap) := by rw [hd.cell (by omega)]; simp [dcell, e]
  have z0 := hd.frozen
  have hdl := hd.lt
  have hm1 : MineAt (w.alloc (.cells #[mineV p] 29)) (.slice a ml.length cap) ml := by rw [← e]; exact hm.frame ((Fr.refl (fun _ => False) w).alloc _) (fun _ _ h => h)
  have hx1 : (w.alloc (.cells #[mineV p] 29)).cell? ⟨w.heap.size, 0, none⟩ = some (mineV p) := World.cell?_alloc_new _ _ _ _
  have t1 : ((p.2 : Int) == 0) = false := by simp; omega
  have He : Hid _ := e
  unfold mineV at hm1 hx1 ⊢
  clear e
  go_enter Try.func33, Try.ntmps33
  go_wp2_with (at_builtin; refine wpList_appendMine (by rfl) _ _ (by rfl) (.slice a ml.length cap) ml p w.heap.size 1 (by rfl) (by rfl) hm1 hx1 (by omega) ?_; intro v' w4 hc4 hb4 f4; obtain ⟨va, vcap, rfl⟩ := hc4.sl; rw [← He.out] at hb4 f4; have hd4 := (hd.alloc _).frame f4 hdm; have z4 := hd4.frozen; have q9 := hd4.cell (o := 9) (by omega))
  have hl2 : (ml ++ [p]).length = ml.length + 1 := by simp
  rw [hl2] at hc4 hb4
  have hz : (w.alloc (.cells #[mineV p] 29)).heap.size = w.heap.size + 1 := by simp
  refine bodyPost_ret (v := .tuple #[]) (by simp [results, Try.results33, go_sem]) rfl ⟨rfl, _, ml ++ [p], (hd4.set 9 _).congr (dcell_mv x mp D _), hc4.frame (S := fun c => c = d) ((Fr.refl (fun c => c = d) w4).setC d 9 _ (fun _ => rfl)) (fun b hb e => ?_), by omega, fun q hq => by simpa using hq, ?_, fun c hc => ?_⟩
  · have e' : b = d := e
    subst e'
    rcases hb4 _ hb with h | h
    · have h' : (w.alloc (.cells #[mineV p] 29)).heap.size ≤ b := h
      omega
    · exact hdm h
  · exact ((((Fr.refl (fun c => c = d ∨ isBlk D.mv c) w).alloc _).trans f4 (fun _ _ h => .inr h)).setC d 9 _ (fun _ => .inl rfl))
  · rcases hb4 _ hc with h | h
    · have h' : (w.alloc (.cells #[mineV p] 29)).heap.size ≤ c := h
      exact .inr (by omega)
    · exact .inl h

/-- The lists as they lie when the shift has come to place i. -/
def shiftF (ml : List (Nat × Nat)) (i j : Nat) : Nat × Nat := if j + 1 < i then ml.getD (j + 1) (0, 0) else ml.getD j (0, 0)
set_option maxRecDepth 100000 in
set_option maxHeartbeats 4000000 in
theorem keep_full {w : World} {x d : Nat} {mp : Value} {D : DD} {ml : List (Nat × Nat)} {p : Nat × Nat} (hd : Blk w d 10 (dcell x mp D)) (hm : MineAt w D.mv ml) (hl : ml.length = 16) (hp : 0 < p.2) (hdm : ¬ isBlk D.mv d) :
    Calls Try.prog 33 #[.pointer (some ⟨d, 0, none⟩), mineV p] w (KeepPost w x d mp D ml p) := by
  rcases hm with ⟨_, rfl⟩ | ⟨mb, cap, f, e, hc, hb, hf⟩
  · simp at hl
  rw [hl] at e hc
  have hmd : mb ≠ d := fun h => hdm (by rw [e, h]; exact ⟨_, _, rfl⟩)
  have c9 : w.cell? ⟨d, 9, none⟩ = some (.slice (some ⟨mb, 0, none⟩) 16 cap) := by rw [hd.cell (by omega)]; simp [dcell, e]
  have t1 : ((p.2 : Int) == 0) = false := by simp; omega
  have He : Hid _ := e
  have Hl : Hid _ := hl
  unfold mineV
  have Hf : Hid _ := hf
  clear e hl hf
  go_enter Try.func33, Try.ntmps33
  go_wp2_with fail
  go_loopg [4] 15 (fun g iv wr => ∃ (i : Nat) (F : Nat → Value), iv = .int .i64 i ∧ i + g = 16 ∧ 1 ≤ i ∧ Blk wr mb cap F ∧ (∀ j, j < 16 → F j = mineV (shiftF ml i j)) ∧ Fr (fun c => c = mb) w wr)
  case atStart =>
    refine ⟨1, f, rfl, by omega, by omega, hb, fun j hj => ?_, Fr.refl _ _⟩
    rw [Hf.out j (by rw [Hl.out]; exact hj), shiftF, if_neg (by omega)]
  case round =>
    obtain ⟨i, F, rfl, hg, hi1, hb1, hF, hfr⟩ := hrel
    have hg' : i + gk = 16 := hg
    have hd1 := hd.frame hfr (fun h => hmd h.symm)
    have d9 : wr.cell? ⟨d, 9, none⟩ = some (.slice (some ⟨mb, 0, none⟩) 16 cap) := by rw [hd1.cell (by omega)]; simp [dcell, He.out]
    have z1 := hb1.frozen
    clear hg
    by_cases hlt : i < 16
    · obtain ⟨k, rfl⟩ : ∃ k, i = k + 1 := ⟨i - 1, by omega⟩
      have m1 : wr.cell? ⟨mb, k + 1, none⟩ = some (mineV (shiftF ml (k + 1) (k + 1))) := by rw [hb1.cell (by omega), hF _ (by omega)]
      have m0 : wr.cell? ⟨mb, k, none⟩ = some (F k) := hb1.cell (by omega)
      unfold mineV at m1
      have HF : Hid _ := hF
      have hk15 : k < 15 := by omega
      clear hF
      go_wp2_with fail
      refine wp_region_text (by kernel_rfl) (by kernel_rfl) ?_
      go_wp2_with fail
      refine ⟨by kernel_rfl, ?_⟩
      go_wp2_with fail
      go_roundg (gk - 1)
      case measure => omega
      case rel =>
        refine ⟨k + 1 + 1, _, by simp, by omega, by omega, (hb1.set k _).drew, fun j hj => ?_, (hfr.setC mb k _ (fun _ => rfl)).drew⟩
        unfold upd
        split
        · rename_i ejk
          subst ejk
          simp only [shiftF]
          rw [if_neg (by omega), if_pos (by omega)]
          rfl
        · rename_i ejk
          rw [HF.out j hj]
          unfold shiftF
          by_cases h1 : j + 1 < k + 1
          · rw [if_pos h1, if_pos (by omega)]
          · rw [if_neg h1, if_neg (by omega)]
    · have hie : i = 16 := by omega
      subst hie
      have m0 : wr.cell? ⟨mb, 15, none⟩ = some (F 15) := hb1.cell (by omega)
      clear hlt
      go_wp2_with fail
      refine wp_region_text (by kernel_rfl) (by kernel_rfl) ?_
      go_wp2_with fail
      refine ⟨by kernel_rfl, ?_⟩
      go_wp2_with fail
      have hl16 := Hl.out
      refine bodyPost_end (results_none (by kernel_rfl) _ _ _) rfl ⟨rfl, D.mv, ml.tail ++ [p], (hd1.setOther _ _ (fun h => hmd h.symm)).drew, ?_, by simp; omega, fun q hq => ?_, ((hfr.setC mb 15 _ (fun _ => rfl)).drew).mono (fun c _ e => .inr (by rw [He.out]; exact ⟨_, _, by rw [e]⟩)), fun c hc => .inl hc⟩
      · refine .inr ⟨mb, cap, _, by rw [He.out]; simp [hl16], by simp [hl16]; omega, (hb1.set 15 _).drew, fun j hj => ?_⟩
        have hj16 : j < 16 := by simp [hl16] at hj; omega
        unfold upd
        split
        · rename_i ej
          subst ej
          simp [hl16, mineV]
        · rw [hF j hj16, shiftF, if_pos (by omega)]
          have : j < 15 := by omega
          simp [List.getElem?_append_left, hl16, this]
          rw [List.getElem?_eq_getElem (show j + 1 < ml.length by omega)]
          rfl
      · simp at hq
        rcases hq with h | h
        · exact .inl (List.mem_of_mem_tail h)
        · exact .inr h
theorem keep_any {w : World} {x d : Nat} {mp : Value} {D : DD} {ml : List (Nat × Nat)} {p : Nat × Nat} (hd : Blk w d 10 (dcell x mp D)) (hm : MineAt w D.mv ml) (hl : ml.length ≤ 16) (hp : 0 < p.2) (hdm : ¬ isBlk D.mv d) :
    Calls Try.prog 33 #[.pointer (some ⟨d, 0, none⟩), mineV p] w (KeepPost w x d mp D ml p) := by
  by_cases h : ml.length < 16
  · exact keep_room hd hm h hp hdm
  · exact keep_full hd hm (by omega) hp hdm
end Go.Proofs.Qxb6500279a
