/- The real heap: Check, New. -/
import Derived.Test.Qxb6500277aGreatKW10
import Derived.Deep.QuietTactic
import Derived.BigQuiet
namespace Go.Proofs.Qxb6500277aGreat
open Go Go.RowKit

/-- The marked heads. -/
structure HD (w : World) (b : Nat) (l : List Int) : Prop where
  blk : ∃ f, Blk w b 96 f ∧ (∀ o, o < 96 → ∃ v, f o = .bool v) ∧ ∀ x ∈ l, f x.toNat = .bool true
section
variable {w w' : World} {b : Nat} {l : List Int}
theorem HD.lt (h : HD w b l) : b < w.heap.size := by obtain ⟨f, hb, _⟩ := h; exact hb.lt
theorem HD.any (h : HD w b l) {o : Nat} (ho : o < 96) : ∃ v, w.cell? ⟨b, o, none⟩ = some (.bool v) := by
  obtain ⟨f, hb, h1, _⟩ := h
  obtain ⟨v, hv⟩ := h1 o ho
  exact ⟨v, by rw [hb.cell ho, hv]⟩
theorem HD.at (h : HD w b l) {o : Nat} (ho : o < 96) (hm : (o : Int) ∈ l) : w.cell? ⟨b, o, none⟩ = some (.bool true) := by
  obtain ⟨f, hb, _, h2⟩ := h
  have := h2 _ hm
  simp only [Int.toNat_natCast] at this
  rw [hb.cell ho, this]
theorem HD.frozen (h : HD w b l) (o : Nat) : w.frozen? ⟨b, o, none⟩ = false := by obtain ⟨f, hb, _⟩ := h; exact hb.frozen o
theorem HD.frame {S : Nat → Prop} (h : HD w b l) (k : Fr S w w') (hn : ¬ S b) : HD w' b l := by
  obtain ⟨f, hb, h2⟩ := h; exact ⟨f, hb.frame k hn, h2⟩
theorem HD.mark (h : HD w b l) (o : Nat) : HD (w.setCell ⟨b, o, none⟩ (.bool true)) b (l ++ [(o : Int)]) := by
  obtain ⟨f, hb, h1, h2⟩ := h
  refine ⟨_, hb.set o (.bool true), fun k hk => ?_, fun x hx => ?_⟩
  · simp only [upd]; split
    · exact ⟨_, rfl⟩
    · exact h1 k hk
  · simp only [upd]
    rcases List.mem_append.1 hx with hx | hx
    · split
      · rfl
      · exact h2 x hx
    · simp at hx
      subst hx
      simp
theorem z96 : (#[.bool false, .bool false, .bool false, .bool false, .bool false, .bool false, .bool false, .bool false, .bool false, .bool false, .bool false, .bool false, .bool false, .bool false, .bool false, .bool false, .bool false, .bool false, .bool false, .bool false, .bool false, .bool false, .bool false, .bool false, .bool false, .bool false, .bool false, .bool false, .bool false, .bool false, .bool false, .bool false, .bool false, .bool false, .bool false, .bool false, .bool false, .bool false, .bool false, .bool false, .bool false, .bool false, .bool false, .bool false, .bool false, .bool false, .bool false, .bool false, .bool false, .bool false, .bool false, .bool false, .bool false, .bool false, .bool false, .bool false, .bool false, .bool false, .bool false, .bool false, .bool false, .bool false, .bool false, .bool false, .bool false, .bool false, .bool false, .bool false, .bool false, .bool false, .bool false, .bool false, .bool false, .bool false, .bool false, .bool false, .bool false, .bool false, .bool false, .bool false, .bool false, .bool false, .bool false, .bool false, .bool false, .bool false, .bool false, .bool false, .bool false, .bool false, .bool false, .bool false, .bool false, .bool false, .bool false, .bool false] : Array Value) = Array.replicate 96 (.bool false) := by kernel_rfl
theorem HD.new (w : World) : HD (w.alloc (.cells #[.bool false, .bool false, .bool false, .bool false, .bool false, .bool false, .bool false, .bool false, .bool false, .bool false, .bool false, .bool false, .bool false, .bool false, .bool false, .bool false, .bool false, .bool false, .bool false, .bool false, .bool false, .bool false, .bool false, .bool false, .bool false, .bool false, .bool false, .bool false, .bool false, .bool false, .bool false, .bool false, .bool false, .bool false, .bool false, .bool false, .bool false, .bool false, .bool false, .bool false, .bool false, .bool false, .bool false, .bool false, .bool false, .bool false, .bool false, .bool false, .bool false, .bool false, .bool false, .bool false, .bool false, .bool false, .bool false, .bool false, .bool false, .bool false, .bool false, .bool false, .bool false, .bool false, .bool false, .bool false, .bool false, .bool false, .bool false, .bool false, .bool false, .bool false, .bool false, .bool false, .bool false, .bool false, .bool false, .bool false, .bool false, .bool false, .bool false, .bool false, .bool false, .bool false, .bool false, .bool false, .bool false, .bool false, .bool false, .bool false, .bool false, .bool false, .bool false, .bool false, .bool false, .bool false, .bool false, .bool false] 75)) w.heap.size [] := by
  have hb := Blk.new w (Array.replicate 96 (.bool false)) 75 (fun _ => .bool false) (fun o ho => by simp at ho; simp [ho])
  rw [z96]
  simp only [Array.size_replicate] at hb
  exact ⟨⟨_, hb, fun k _ => ⟨false, rfl⟩, fun x hx => by simp at hx⟩⟩
end
theorem Row.lt_inv {m : Nat → Int} {a e : Nat} {os : List Int} (h : Row m a e os) (hl : a < e) : ∃ os', os = (a : Int) :: os' ∧ 0 ≤ m a ∧ Row m (a + wdO m a) e os' := by
  cases h with
  | nil => omega
  | cons h0 hr => exact ⟨_, rfl, h0, hr⟩
theorem Row.eq_inv {m : Nat → Int} {a e : Nat} {os : List Int} (h : Row m a e os) (hl : ¬ a < e) : os = [] ∧ a = e := by
  cases h with
  | nil => exact ⟨rfl, rfl⟩
  | cons h0 hr => have := hr.le; have := wdO_pos m a; omega
def hs0 : HS := ⟨fun _ => 0, 0, 0, fun _ => 0, 0, 0⟩
theorem z124 : (#[.int .i64 0, .int .i64 0, .int .i64 0, .int .i64 0, .int .i64 0, .int .i64 0, .int .i64 0, .int .i64 0, .int .i64 0, .int .i64 0, .int .i64 0, .int .i64 0, .int .i64 0, .int .i64 0, .int .i64 0, .int .i64 0, .int .i64 0, .int .i64 0, .int .i64 0, .int .i64 0, .int .i64 0, .int .i64 0, .int .i64 0, .int .i64 0, .int .i64 0, .int .i64 0, .int .i64 0, .int .i64 0, .int .i64 0, .int .i64 0, .int .i64 0, .int .i64 0, .int .i64 0, .int .i64 0, .int .i64 0, .int .i64 0, .int .i64 0, .int .i64 0, .int .i64 0, .int .i64 0, .int .i64 0, .int .i64 0, .int .i64 0, .int .i64 0, .int .i64 0, .int .i64 0, .int .i64 0, .int .i64 0, .int .i64 0, .int .i64 0, .int .i64 0, .int .i64 0, .int .i64 0, .int .i64 0, .int .i64 0, .int .i64 0, .int .i64 0, .int .i64 0, .int .i64 0, .int .i64 0, .int .i64 0, .int .i64 0, .int .i64 0, .int .i64 0, .int .i64 0, .int .i64 0, .int .i64 0, .int .i64 0, .int .i64 0, .int .i64 0, .int .i64 0, .int .i64 0, .int .i64 0, .int .i64 0, .int .i64 0, .int .i64 0, .int .i64 0, .int .i64 0, .int .i64 0, .int .i64 0, .int .i64 0, .int .i64 0, .int .i64 0, .int .i64 0, .int .i64 0, .int .i64 0, .int .i64 0, .int .i64 0, .int .i64 0, .int .i64 0, .int .i64 0, .int .i64 0, .int .i64 0, .int .i64 0, .int .i64 0, .int .i64 0, .int .i64 0, .int .i64 0, .int .i64 0, .int .i64 0, .int .i64 0, .int .i64 0, .int .i64 0, .int .i64 0, .int .i64 0, .int .i64 0, .int .i64 0, .int .i64 0, .int .i64 0, .int .i64 0, .int .i64 0, .int .i64 0, .int .i64 0, .int .i64 0, .int .i64 0, .int .i64 0, .int .i64 0, .int .i64 0, .int .i64 0, .int .i64 0, .int .i64 0, .int .i64 0, .int .i64 0, .int .i64 0] : Array Value) = Array.replicate 124 (.int .i64 0) := by kernel_rfl
theorem HM.new (w : World) : HM (w.alloc (.cells #[.int .i64 0, .int .i64 0, .int .i64 0, .int .i64 0, .int .i64 0, .int .i64 0, .int .i64 0, .int .i64 0, .int .i64 0, .int .i64 0, .int .i64 0, .int .i64 0, .int .i64 0, .int .i64 0, .int .i64 0, .int .i64 0, .int .i64 0, .int .i64 0, .int .i64 0, .int .i64 0, .int .i64 0, .int .i64 0, .int .i64 0, .int .i64 0, .int .i64 0, .int .i64 0, .int .i64 0, .int .i64 0, .int .i64 0, .int .i64 0, .int .i64 0, .int .i64 0, .int .i64 0, .int .i64 0, .int .i64 0, .int .i64 0, .int .i64 0, .int .i64 0, .int .i64 0, .int .i64 0, .int .i64 0, .int .i64 0, .int .i64 0, .int .i64 0, .int .i64 0, .int .i64 0, .int .i64 0, .int .i64 0, .int .i64 0, .int .i64 0, .int .i64 0, .int .i64 0, .int .i64 0, .int .i64 0, .int .i64 0, .int .i64 0, .int .i64 0, .int .i64 0, .int .i64 0, .int .i64 0, .int .i64 0, .int .i64 0, .int .i64 0, .int .i64 0, .int .i64 0, .int .i64 0, .int .i64 0, .int .i64 0, .int .i64 0, .int .i64 0, .int .i64 0, .int .i64 0, .int .i64 0, .int .i64 0, .int .i64 0, .int .i64 0, .int .i64 0, .int .i64 0, .int .i64 0, .int .i64 0, .int .i64 0, .int .i64 0, .int .i64 0, .int .i64 0, .int .i64 0, .int .i64 0, .int .i64 0, .int .i64 0, .int .i64 0, .int .i64 0, .int .i64 0, .int .i64 0, .int .i64 0, .int .i64 0, .int .i64 0, .int .i64 0, .int .i64 0, .int .i64 0, .int .i64 0, .int .i64 0, .int .i64 0, .int .i64 0, .int .i64 0, .int .i64 0, .int .i64 0, .int .i64 0, .int .i64 0, .int .i64 0, .int .i64 0, .int .i64 0, .int .i64 0, .int .i64 0, .int .i64 0, .int .i64 0, .int .i64 0, .int .i64 0, .int .i64 0, .int .i64 0, .int .i64 0, .int .i64 0, .int .i64 0, .int .i64 0, .int .i64 0, .int .i64 0] 117)) w.heap.size hs0 := by
  have hb := Blk.new w (Array.replicate 124 (.int .i64 0)) 117 (fun _ => .int .i64 0) (fun o ho => by simp at ho; simp [ho])
  rw [z124]
  simp only [Array.size_replicate] at hb
  exact hb.congr fun o _ => by simp [ints, hInt, hs0]
def rootsN (i : Nat) : Nat → Int := fun o => if o < i then -1 else 0
theorem rootsN_succ (i : Nat) : upd (rootsN i) i (-1) = rootsN (i + 1) := by
  funext o; simp only [upd, rootsN]
  by_cases e : o = i
  · subst e; simp
  · rw [if_neg e]
    by_cases h : o < i
    · rw [if_pos h, if_pos (by omega)]
    · rw [if_neg h, if_neg (by omega)]
def hsNew : HS := { hs0 with roots := rootsN 24 }
theorem hsNew_inv : HInv hsNew [] := ⟨.inl rfl, .nil 0, by simp [hsNew, hs0], by simp [hsNew, hs0], fun i hi => by simp [hsNew, hs0] at hi, fun a ha => by cases ha⟩
set_option maxRecDepth 100000 in
set_option maxHeartbeats 4000000 in
theorem newHF (w : World) : Calls Tryz.prog 23 #[] w fun e w' => e = .returned (.pointer (some ⟨w.heap.size, 0, none⟩)) ∧ HM w' w.heap.size hsNew ∧ Fr (fun _ => False) w w' := by
  have k0 := (Fr.refl (fun _ => False) w).alloc (.cells #[.int .i64 0, .int .i64 0, .int .i64 0, .int .i64 0, .int .i64 0, .int .i64 0, .int .i64 0, .int .i64 0, .int .i64 0, .int .i64 0, .int .i64 0, .int .i64 0, .int .i64 0, .int .i64 0, .int .i64 0, .int .i64 0, .int .i64 0, .int .i64 0, .int .i64 0, .int .i64 0, .int .i64 0, .int .i64 0, .int .i64 0, .int .i64 0, .int .i64 0, .int .i64 0, .int .i64 0, .int .i64 0, .int .i64 0, .int .i64 0, .int .i64 0, .int .i64 0, .int .i64 0, .int .i64 0, .int .i64 0, .int .i64 0, .int .i64 0, .int .i64 0, .int .i64 0, .int .i64 0, .int .i64 0, .int .i64 0, .int .i64 0, .int .i64 0, .int .i64 0, .int .i64 0, .int .i64 0, .int .i64 0, .int .i64 0, .int .i64 0, .int .i64 0, .int .i64 0, .int .i64 0, .int .i64 0, .int .i64 0, .int .i64 0, .int .i64 0, .int .i64 0, .int .i64 0, .int .i64 0, .int .i64 0, .int .i64 0, .int .i64 0, .int .i64 0, .int .i64 0, .int .i64 0, .int .i64 0, .int .i64 0, .int .i64 0, .int .i64 0, .int .i64 0, .int .i64 0, .int .i64 0, .int .i64 0, .int .i64 0, .int .i64 0, .int .i64 0, .int .i64 0, .int .i64 0, .int .i64 0, .int .i64 0, .int .i64 0, .int .i64 0, .int .i64 0, .int .i64 0, .int .i64 0, .int .i64 0, .int .i64 0, .int .i64 0, .int .i64 0, .int .i64 0, .int .i64 0, .int .i64 0, .int .i64 0, .int .i64 0, .int .i64 0, .int .i64 0, .int .i64 0, .int .i64 0, .int .i64 0, .int .i64 0, .int .i64 0, .int .i64 0, .int .i64 0, .int .i64 0, .int .i64 0, .int .i64 0, .int .i64 0, .int .i64 0, .int .i64 0, .int .i64 0, .int .i64 0, .int .i64 0, .int .i64 0, .int .i64 0, .int .i64 0, .int .i64 0, .int .i64 0, .int .i64 0, .int .i64 0, .int .i64 0, .int .i64 0, .int .i64 0, .int .i64 0] 117)
  have H0 := HM.new w
  have Hk0 : Hid (_ ∧ _) := ⟨H0, k0⟩
  clear H0 k0
  obtain ⟨b, hb⟩ : ∃ b, w.heap.size = b := ⟨_, rfl⟩
  rw [hb] at Hk0 ⊢
  go_enter Tryz.func23, Tryz.ntmps23
  go_wp2_with fail
  have Hb : Hid _ := hb
  clear hb
  go_loopg [2] 24 (fun g kv wr => ∃ i : Nat, kv = .int .i64 i ∧ i + g = 24 ∧ HM wr b { hs0 with roots := rootsN i } ∧ Fr (fun _ => False) w wr)
  case atStart => exact ⟨0, rfl, by omega, Hk0.out.1, Hk0.out.2⟩
  case round =>
    clear Hk0
    obtain ⟨i, rfl, hig, H, hfr⟩ := hrel
    have hig' : i + gk = 24 := hig
    clear hig
    have hlt := H.lt
    by_cases hi : i < 24
    · have hi' : (i : Int) < 24 := by omega
      have cr := H.root hi
      have z := Blk.frozen H (98 + i)
      have key := H.setRoot hi (-1)
      simp only at key
      rw [rootsN_succ] at key
      have keyF := hfr.setC b (98 + i) (.int .i64 (-1)) (fun hb' => by have := Hb.out; omega)
      have Hk2 : Hid (_ ∧ _) := ⟨key, keyF⟩
      clear key keyF H hfr
      go_wp2_with fail
      go_roundg (gk - 1)
      case measure => omega
      case rel => exact ⟨i + 1, by simp, by omega, Hk2.out.1, Hk2.out.2⟩
    · have hin : i = 24 := by omega
      subst hin
      go_wp2_with fail
      go_ret
      exact ⟨rfl, H, hfr⟩
end Go.Proofs.Qxb6500277aGreat
