/- The law: what the walk holds; Ground. -/
import Derived.Test.Qxb6500278aKL4
import Derived.Test.Qxb6500278aKL5
namespace Go.Proofs.Qxb6500278a
open Go Go.RowKit

/-- The stamped lists. -/
structure Hf (lo : Nat) (w : World) (h : Nat) (O : Nat → Prop) (mv : Value) (n : Nat) (f : Nat → Value) : Prop where
  mn : MnA w mv n f
  ap : ∀ c, isB mv c → ∀ j, j < n → ¬ isB (f j) c
  far : ∀ c, (isB mv c ∨ ∃ j, j < n ∧ isB (f j) c) → c ≠ h ∧ ¬ O c ∧ lo ≤ c
/-- With the last Dumps. -/
structure Bk (lo : Nat) (w : World) (h : Nat) (O : Nat → Prop) (wv xv mv : Value) (p : List Int) (n : Nat) (f : Nat → Value) : Prop where
  hf : Hf lo w h O mv n f
  le : p.length ≤ 1000
  wa : KiAt w wv p
  wm : KiAt w xv p
  ap : ∀ c, isB mv c → ¬ isB wv c
  ap2 : ∀ c, isB wv c → ∀ j, j < n → ¬ isB (f j) c
  far : ∀ c, isB wv c ∨ isB xv c → c ≠ h ∧ ¬ O c ∧ lo ≤ c
section
variable {lo : Nat} {w w1 w2 w' : World} {h m : Nat} {O O' : Nat → Prop} {wv xv mv mv' : Value} {p : List Int} {n n' : Nat} {f f' : Nat → Value} {S S' : HS} {M M' : MS} {N : Nat}
theorem MnA.frame {F : Nat → Prop} (H : MnA w mv n f) (k : Fr F w w') (h1 : ∀ c, isB mv c ∨ (∃ j, j < n ∧ isB (f j) c) → ¬ F c) : MnA w' mv n f :=
  ⟨H.le, H.os.frame k (fun c hc => h1 c (.inl hc)), fun j hj => (H.st j hj).frame k (fun c hc => h1 c (.inr ⟨j, hj, hc⟩))⟩
theorem MnA.lt (H : MnA w mv n f) {c : Nat} (hc : isB mv c ∨ ∃ j, j < n ∧ isB (f j) c) : c < w.heap.size := by
  rcases hc with hc | ⟨j, hj, hc⟩
  · exact H.os.bk hc
  · exact (H.st j hj).bk hc
theorem Bk.lt (B : Bk lo w h O wv xv mv p n f) {c : Nat} (hc : isB wv c ∨ isB xv c) : c < w.heap.size := hc.elim B.wa.bk B.wm.bk
/-- A change that does not meet the lists. -/
theorem Hf.frame {F : Nat → Prop} (H : Hf lo w h O mv n f) (k : Fr F w w') (hF : ∀ c, c < w.heap.size → F c → c = h ∨ O c) (hO : ∀ c, O' c → O c ∨ w.heap.size ≤ c) : Hf lo w' h O' mv n f := by
  refine ⟨H.mn.frame k (fun c hc hh => ?_), H.ap, fun c hc => ?_⟩
  · obtain ⟨h1, h2, _⟩ := H.far c hc
    exact (hF c (H.mn.lt hc) hh).elim h1 h2
  · obtain ⟨h1, h2, h3⟩ := H.far c hc
    refine ⟨h1, fun hh => ?_, h3⟩
    rcases hO c hh with h4 | h4
    · exact h2 h4
    · have := H.mn.lt hc; omega
theorem Bk.frame {F : Nat → Prop} (B : Bk lo w h O wv xv mv p n f) (k : Fr F w w') (hF : ∀ c, c < w.heap.size → F c → c = h ∨ O c) (hO : ∀ c, O' c → O c ∨ w.heap.size ≤ c) : Bk lo w' h O' wv xv mv p n f := by
  have hn : ∀ c, isB wv c ∨ isB xv c → ¬ F c := fun c hc hh => by
    obtain ⟨h1, h2, _⟩ := B.far c hc
    exact (hF c (B.lt hc) hh).elim h1 h2
  refine ⟨B.hf.frame k hF hO, B.le, B.wa.frame k (fun c hc => hn c (.inl hc)), B.wm.frame k (fun c hc => hn c (.inr hc)), B.ap, B.ap2, fun c hc => ?_⟩
  obtain ⟨h1, h2, h3⟩ := B.far c hc
  refine ⟨h1, fun hh => ?_, h3⟩
  rcases hO c hh with h4 | h4
  · exact h2 h4
  · have := B.lt hc; omega
theorem Bk.same (B : Bk lo w h O wv xv mv p n f) (k : Fr (fun _ => False) w w') : Bk lo w' h O wv xv mv p n f := B.frame k (fun _ _ h => h.elim) (fun _ h => .inl h)
theorem Bk.step (B : Bk lo w h O wv xv mv p n f) (k : Fr (fun c => c = h ∨ O c) w w') (hO : ∀ c, O' c → O c ∨ w.heap.size ≤ c) : Bk lo w' h O' wv xv mv p n f := B.frame k (fun _ _ h => h) hO
theorem HLaw.lt (L : HLaw w h m S M O N) : h < w.heap.size ∧ ∀ c, O c → c < w.heap.size := by
  obtain ⟨ov, rv, g, V⟩ := L.mm
  exact ⟨L.hm.lt, V.lt⟩
theorem HLaw.frame {F : Nat → Prop} (L : HLaw w h m S M O N) (k : Fr F w w') (h1 : ¬ F h) (h2 : ∀ c, O c → ¬ F c) : HLaw w' h m S M O N := ⟨L.hm.frame k h1, L.mm.frame k h2, L.rel, L.ap, L.tn⟩
theorem HLaw.le {N' : Nat} (L : HLaw w h m S M O N) (hN : N ≤ N') : HLaw w h m S M O N' := ⟨L.hm, L.mm, L.rel, L.ap, Nat.le_trans L.tn hN⟩
/-- Spoil and Keep. -/
structure Kp (lo : Nat) (w : World) (h m : Nat) (S : HS) (M : MS) (O : Nat → Prop) (N : Nat) (wv mv mv' : Value) (n' : Nat) (f' : Nat → Value) (w2 : World) : Prop where
  hf : Hf lo w2 h O mv' n' f'
  L : HLaw w2 h m S M O N
  bk : ∀ c, isB mv' c → w.heap.size ≤ c ∨ isB mv c
  flt : ∀ j, j < n' → ∀ c, isB (f' j) c → c < w.heap.size
  fr : Fr (fun c => isB wv c ∨ isB mv c) w w2
theorem Bk.keep (B : Bk lo w h O wv xv mv p n f) (L : HLaw w h m S M O N) (hlo : lo ≤ h) (k1 : Fr (isB wv) w w1) (R : KeepR w1 mv wv n f mv' n' f' w2) : Kp lo w h m S M O N wv mv mv' n' f' w2 := by
  obtain ⟨lh, lO⟩ := L.lt
  have s1 := k1.size
  have s2 := R.fr.size
  have L1 : HLaw w1 h m S M O N := L.frame k1 (fun hh => (B.far h (.inl hh)).1 rfl) (fun c hc hh => (B.far c (.inl hh)).2.1 hc)
  have L2 : HLaw w2 h m S M O N := L1.frame R.fr (fun hh => (B.hf.far h (.inl hh)).1 rfl) (fun c hc hh => (B.hf.far c (.inl hh)).2.1 hc)
  have ffar : ∀ c, (∃ j, j < n' ∧ isB (f' j) c) → c ≠ h ∧ ¬ O c ∧ lo ≤ c := fun c ⟨j, hj, hc⟩ => by
    rcases R.of j hj with e | ⟨i, hi, e⟩
    · rw [e] at hc; exact B.far c (.inl hc)
    · rw [e] at hc; exact B.hf.far c (.inr ⟨i, hi, hc⟩)
  have flt : ∀ j, j < n' → ∀ c, isB (f' j) c → c < w.heap.size := fun j hj c hc => by
    rcases R.of j hj with e | ⟨i, hi, e⟩
    · rw [e] at hc; exact B.lt (.inl hc)
    · rw [e] at hc; exact B.hf.mn.lt (.inr ⟨i, hi, hc⟩)
  refine ⟨⟨R.mn, fun c hc j hj hh => ?_, fun c hc => ?_⟩, L2, fun c hc => ?_, flt, (k1.mono (fun _ _ h => .inl h)).trans R.fr (fun _ _ h => .inr h)⟩
  · rcases R.bk c hc with h1 | h1
    · have := flt j hj c hh; omega
    · rcases R.of j hj with e | ⟨i, hi, e⟩
      · rw [e] at hh; exact B.ap c h1 hh
      · rw [e] at hh; exact B.hf.ap c h1 i hi hh
  · rcases hc with hc | hc
    · rcases R.bk c hc with h1 | h1
      · exact ⟨by omega, fun hh => by have := lO c hh; omega, by omega⟩
      · exact B.hf.far c (.inl h1)
    · exact ffar c hc
  · rcases R.bk c hc with h1 | h1
    · exact .inl (by omega)
    · exact .inr h1
theorem Bk.mn1 (B : Bk lo w h O wv xv mv p n f) (k1 : Fr (isB wv) w w1) : MnA w1 mv n f := B.hf.mn.frame k1 fun c hc hh => by
  rcases hc with hc | ⟨j, hj, hc⟩
  · exact B.ap c hc hh
  · exact B.ap2 c hh j hj hc
theorem Bk.ne (B : Bk lo w h O wv xv mv p n f) : ∀ c, isB mv c → ¬ isB wv c ∧ ∀ j, j < n → ¬ isB (f j) c := fun c hc => ⟨B.ap c hc, B.hf.ap c hc⟩
/-- New last Dumps. -/
theorem Hf.bk {q : List Int} {v1 v2 : Value} (H : Hf lo w h O mv n f) (hq : q.length ≤ 1000) (k1 : KiAt w v1 q) (k2 : KiAt w v2 q) (h1 : ∀ c, isB mv c → ¬ isB v1 c) (h3 : ∀ c, isB v1 c → ∀ j, j < n → ¬ isB (f j) c) (h2 : ∀ c, isB v1 c ∨ isB v2 c → c ≠ h ∧ ¬ O c ∧ lo ≤ c) : Bk lo w h O v1 v2 mv q n f := ⟨H, hq, k1, k2, h1, h3, h2⟩
end
theorem nilBk (lo : Nat) (w : World) (h : Nat) (O : Nat → Prop) : Bk lo w h O (.slice none 0 0) (.slice none 0 0) (.slice none 0 0) [] 0 (fun _ => .slice none 0 0) :=
  ⟨⟨⟨by omega, .inl ⟨rfl, rfl⟩, fun j hj => by omega⟩, fun c hc => absurd hc (nil_noB c), fun c hc => by
    rcases hc with hc | ⟨j, hj, _⟩
    · exact absurd hc (nil_noB c)
    · omega⟩, by simp, .inl ⟨rfl, rfl⟩, .inl ⟨rfl, rfl⟩, fun c hc => absurd hc (nil_noB c), fun c hc => absurd hc (nil_noB c), fun c hc => by
    rcases hc with hc | hc
    · exact absurd hc (nil_noB c)
    · exact absurd hc (nil_noB c)⟩
theorem new_rel : Rel hsNew ⟨[], []⟩ := by
  refine ⟨⟨fun _ _ => False, [], hsNew_inv, ⟨⟨fun _ _ h => h.elim, fun _ _ _ _ h => h.elim⟩, ?_, fun _ _ h => h.elim⟩, fun _ _ h => h.elim⟩, ⟨by simp, by simp, by simp, by simp⟩⟩
  simp only [HS.gh, MS.gh, hsNew, hs0, List.range_zero, List.map_nil]
  exact .nil
set_option maxHeartbeats 1000000 in
theorem groundF (w : World) : Calls Try.prog 7 #[] w fun e w' => (∃ v, e = .returned v) ∧ Fr (fun _ => False) w w' := by
  have k0 := (Fr.refl (fun _ => False) w).alloc (.cells #[] 28)
  go_enter Try.func7, Try.ntmps7
  go_wp2_with fail
  refine bodyPost_ret (v := .agg #[]) (by simp [results, Try.results7, go_sem]) rfl ?_
  exact ⟨⟨_, rfl⟩, k0⟩
end Go.Proofs.Qxb6500278a
