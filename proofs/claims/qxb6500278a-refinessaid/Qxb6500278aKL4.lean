/- The law's own lists: Keep; what the walk holds. -/
import Derived.Test.Qxb6500278aKL3
namespace Go.Proofs.Qxb6500278a
open Go Go.RowKit

def sh (f : Nat → Value) (j : Nat) : Nat → Value := fun o => if o < j then f (o + 1) else f o
theorem sh_zero (f : Nat → Value) : sh f 0 = f := by funext o; simp [sh]
theorem sh_at (f : Nat → Value) (j : Nat) : sh f j (j + 1) = f (j + 1) := by simp only [sh]; rw [if_neg (by omega)]
theorem sh_succ (f : Nat → Value) (j : Nat) : upd (sh f j) j (f (j + 1)) = sh f (j + 1) := by
  funext o
  simp only [upd, sh]
  by_cases e : o = j
  · subst e; simp
  · rw [if_neg e]
    by_cases h : o < j
    · rw [if_pos h, if_pos (by omega)]
    · rw [if_neg h, if_neg (by omega)]
structure KeepR (w : World) (mv xv : Value) (n : Nat) (f : Nat → Value) (mv' : Value) (n' : Nat) (f' : Nat → Value) (w' : World) : Prop where
  mn : MnA w' mv' n' f'
  bk : ∀ c, isB mv' c → w.heap.size ≤ c ∨ isB mv c
  of : ∀ j, j < n' → f' j = xv ∨ ∃ i, i < n ∧ f' j = f i
  fr : Fr (isB mv) w w'
theorem KeepR.mk' {w w' : World} {mv xv mv' : Value} {n n' q : Nat} {f f' : Nat → Value} (hM : MnA w mv n f) (hx : KiAt w xv (List.replicate q stmp)) (hq : q ≤ 1000) (hne : ∀ c, isB mv c → ¬ isB xv c ∧ ∀ j, j < n → ¬ isB (f j) c)
    (hl : n' ≤ 16) (ho : OS w' mv' n' f') (bk : ∀ c, isB mv' c → w.heap.size ≤ c ∨ isB mv c) (of : ∀ j, j < n' → f' j = xv ∨ ∃ i, i < n ∧ f' j = f i) (fr : Fr (isB mv) w w') : KeepR w mv xv n f mv' n' f' w' := by
  refine ⟨⟨hl, ho, fun j hj => ?_⟩, bk, of, fr⟩
  rcases of j hj with e | ⟨i, hi, e⟩
  · rw [e]; exact ⟨q, hq, hx.frame fr (fun c hc hm => (hne c hm).1 hc)⟩
  · rw [e]; exact (hM.st i hi).frame fr (fun c hc hm => (hne c hm).2 i hi hc)
set_option maxHeartbeats 1000000 in
theorem keepF {w : World} {mv xv : Value} {n q : Nat} {f : Nat → Value} (hM : MnA w mv n f) (hx : KiAt w xv (List.replicate q stmp)) (hq : q ≤ 1000) (hne : ∀ c, isB mv c → ¬ isB xv c ∧ ∀ j, j < n → ¬ isB (f j) c) :
    Calls Try.prog 19 #[mv, xv] w fun e w' => ∃ mv' n' f', e = .returned mv' ∧ KeepR w mv xv n f mv' n' f' w' := by
  obtain ⟨a, k, hv, _⟩ := hx.sl
  obtain ⟨a2, k2, hv2⟩ := hM.os.sl
  have hle := hM.le
  simp only [List.length_replicate] at hv
  by_cases hq0 : q = 0
  · subst hq0
    have res : KeepR w mv xv n f mv n f w := .mk' hM hx hq hne hM.le hM.os (fun c hc => .inr hc) (fun j hj => .inr ⟨j, hj, rfl⟩) (Fr.refl _ _)
    rw [hv, hv2] at res ⊢
    go_enter Try.func19, Try.ntmps19
    go_wp2_with fail
    go_ret
    exact ⟨_, _, _, rfl, res⟩
  have hqi : ((q : Int) == 0) = false := by simp; omega
  by_cases hn : n < 16
  · have hni : (n : Int) < 16 := by omega
    have kA := (Fr.refl (fun _ => False) w).alloc (.cells #[xv] 36)
    have x0 : (w.alloc (.cells #[xv] 36)).cell? ⟨w.heap.size, 0, none⟩ = some xv := (Blk.new w #[xv] 36 (fun _ => xv) (fun o ho => by
      have ho : o < 1 := by simpa using ho
      obtain rfl : o = 0 := by omega
      rfl)).cell (by simp)
    have OA' := hM.os.frame kA (fun _ _ h => h)
    have kz := kA.size
    have hone : xv.oneCell' = true := by rw [hv]; rfl
    have HK : Hid (∀ v' w' f', OS w' v' (n + 1) f' → (∀ j, j < n → f' j = f j) → f' n = xv → (∀ b, isB v' b → (w.alloc (.cells #[xv] 36)).heap.size ≤ b ∨ isB mv b) → Fr (isB mv) (w.alloc (.cells #[xv] 36)) w' → KeepR w mv xv n f v' (n + 1) f' w') := by
      refine fun v' w' f' h1 h2 h3 h4 h5 => .mk' hM hx hq hne (by omega) h1 (fun c hc => ?_) (fun j hj => ?_) ((kA.mono (fun _ _ h => h.elim)).trans h5 (fun _ _ h => h))
      · rcases h4 c hc with h | h
        · exact .inl (Nat.le_trans kz h)
        · exact .inr h
      · by_cases e : j < n
        · exact .inr ⟨j, e, h2 j e⟩
        · obtain rfl : j = n := by omega
          exact .inl h3
    subst hv hv2
    clear hM hx hne kA kz
    go_enter Try.func19, Try.ntmps19
    go_wp2_with (
      at_builtin
      refine wpList_appendS (by rfl) _ _ (by rfl) _ n f _ w.heap.size 1 (by rfl) (by rfl) OA' x0 hone (by omega) ?_
      intro v' w5 f' h1 h2 h3 h4 h5)
    have R := HK.out v' w5 f' h1 h2 h3 h4 h5
    clear h4 h5 HK
    go_wp2_with fail
    go_ret
    exact ⟨_, _, _, rfl, R⟩
  · obtain rfl : n = 16 := by omega
    rcases hM.os with ⟨_, h0⟩ | ⟨b, cap, e1, hc, hB⟩
    · omega
    have hone : ∀ j, j < 16 → ∃ a k n, f j = .slice a n k := fun j hj => by
      obtain ⟨n, _, hK⟩ := hM.st j hj
      obtain ⟨a, k, e, _⟩ := hK.sl
      exact ⟨a, k, _, e⟩
    have e2 := hv2.symm.trans e1
    cases e2
    have HK : Hid (∀ w', Blk w' b k2 (upd (sh f 15) 15 xv) → Fr (isB mv) w w' → KeepR w mv xv 16 f mv 16 (upd (sh f 15) 15 xv) w') := by
      refine fun w' h1 h2 => .mk' hM hx hq hne (by omega) (.inr ⟨b, k2, hv2, hc, h1⟩) (fun c hc => .inr hc) (fun j hj => ?_) h2
      simp only [upd]
      by_cases e : j = 15
      · rw [if_pos e]; exact .inl rfl
      · rw [if_neg e]
        refine .inr ⟨j + 1, by omega, ?_⟩
        simp only [sh]; rw [if_pos (by omega)]
    have hfr0 : Fr (isB mv) w w := Fr.refl _ _
    have hmb : isB mv b := ⟨_, _, hv2⟩
    have Hmb : Hid _ := hmb
    subst hv hv2
    clear hM hne hx e1 hmb
    go_enter Try.func19, Try.ntmps19
    go_wp2_with fail
    go_loopg [5] 15 (fun g iv wr => ∃ j : Nat, iv = .int .i64 ((j + 1 : Nat) : Int) ∧ j + g = 15 ∧ Blk wr b k2 (sh f j) ∧ Fr (isB (.slice (some ⟨b, 0, none⟩) 16 k2)) w wr)
    case atStart => exact ⟨0, rfl, by omega, by rw [sh_zero]; exact hB, hfr0⟩
    case round =>
      obtain ⟨j, rfl, hg, hb, hfr⟩ := hrel
      have hg' : j + gk = 15 := hg
      clear hg hB hfr0
      have hbl := hb.lt
      have hbz := hb.frozen
      by_cases hlt : j < 15
      · have hI : decide (((j + 1 : Nat) : Int) < 16) = true := decide_eq_true (by omega)
        have hj1 : ((j + 1 : Nat) : Int) - 1 = j := by omega
        have hj2 : ((j + 1 : Nat) : Int) ≤ 16 := by omega
        obtain ⟨a3, k3, n3, hf3⟩ := hone (j + 1) (by omega)
        have c1 := hb.cell (o := j + 1) (by omega)
        rw [sh_at, hf3] at c1
        have c0 := hb.cell (o := j) (by omega)
        have hs := hb.set j (f (j + 1))
        rw [sh_succ] at hs
        have F := hfr.setC b j (f (j + 1)) (fun _ => Hmb.out)
        rw [hf3] at hs F
        have Hk : Hid (_ ∧ _) := ⟨hs, F⟩
        clear hb hfr hs F
        go_wp2_with fail
        go_roundg (gk - 1)
        case measure => omega
        case rel => exact ⟨j + 1, by simp, by omega, Hk.out.1, Hk.out.2⟩
      · obtain rfl : j = 15 := by omega
        have c0 := hb.cell (o := 15) (by omega)
        have hs := hb.set 15 (.slice a q k)
        have F := hfr.setC b 15 (.slice a q k) (fun _ => Hmb.out)
        have R := HK.out _ hs F
        have Hk : Hid _ := R
        clear hb hfr hs F R HK
        go_wp2_with fail
        go_ret
        exact ⟨_, _, _, rfl, Hk.out⟩
end Go.Proofs.Qxb6500278a
