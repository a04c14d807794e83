import Derived.Test.Qxb6500282aF15
namespace Go.Proofs.Qxb6500282a
open Go Go.RowKit

theorem metB_succ (str : ByteArray) (from_ i b : Nat) (h : from_ ≤ i) : metB str from_ (i + 1) b = (metB str from_ i b || decide (bt str i = b)) := by
  unfold metB
  rw [show i + 1 - from_ = (i - from_) + 1 by omega, List.range_succ, List.any_append]
  simp only [List.any_cons, List.any_nil, Bool.or_false]
  rw [show from_ + (i - from_) = i by omega]
  rfl
theorem kinds_new (str : ByteArray) (from_ i : Nat) (h : from_ ≤ i) (hm : metB str from_ i (bt str i) = false) : kindsN str from_ (i + 1) = kindsN str from_ i + 1 := by
  unfold kindsN
  rw [filter_add (fun b => metB str from_ i b) (fun b => metB str from_ (i + 1) b) (bt str i) hm (fun j => metB_succ str from_ i j h) _ List.nodup_range]
  simp [bt_lt' str i]
theorem kinds_old (str : ByteArray) (from_ i : Nat) (h : from_ ≤ i) (hm : metB str from_ i (bt str i) = true) : ∀ b, metB str from_ (i + 1) b = metB str from_ i b := fun b => by
  rw [metB_succ str from_ i b h]
  by_cases e : bt str i = b
  · subst e; rw [hm]; simp
  · simp [e]
theorem kinds_le (str : ByteArray) (from_ i : Nat) : kindsN str from_ i ≤ 256 := Nat.le_trans (List.length_filter_le _ _) (by simp)
def zeros256 : Array Value := Array.replicate 256 (Value.bool false)
set_option maxRecDepth 100000 in
theorem zero72 (w : World) : (zeroValue 72).run Try.prog w = .ok (.agg zeros256) w := by
  have e : (Try.prog.info? 72).bind (·.zero) = some (.agg zeros256) := by kernel_rfl
  cases hi : Try.prog.info? 72 with
  | none => rw [hi] at e; cases e
  | some i =>
    rw [hi] at e
    simp only [Option.bind_some] at e
    simp [zeroValue, typeInfo, hi, e]
theorem Blk.zeros (w : World) : Blk (w.alloc (.cells zeros256 72)) w.heap.size 256 (fun _ => .bool false) := by
  have := Blk.new w zeros256 72 (fun _ => .bool false) (fun o ho => by
    have ho' : o < 256 := by simpa [zeros256] using ho
    simp [zeros256, ho'])
  simpa [zeros256] using this
def mets (str : ByteArray) (from_ i : Nat) : Nat → Value := fun b => .bool (metB str from_ i b)
set_option maxRecDepth 100000 in
set_option maxHeartbeats 4000000 in
theorem kinds_any (str : ByteArray) (n : Nat) (hn : n ≤ str.size) (hs : str.size ≤ 256) (w : World) : Calls Try.prog 18 #[.string str, .int .i64 n] w fun e w' => e = .returned (.int .i64 (kindsN str n str.size)) ∧ Fr (fun _ => False) w w' := by
  have hz := zero72
  have hb0 := Blk.zeros w
  have f0 := (Fr.refl (fun _ => False) w).alloc (.cells zeros256 72)
  go_enter Try.func18, Try.ntmps18
  go_wp2_with fail
  go_loopg [6, 7] (str.size - n) (fun g kv iv wr => ∃ i : Nat, kv = .int .i64 (kindsN str n i) ∧ iv = .int .i64 i ∧ n ≤ i ∧ i + g = str.size ∧ Blk wr w.heap.size 256 (mets str n i) ∧ Fr (fun _ => False) w wr)
  case atStart =>
    refine ⟨n, ?_, rfl, Nat.le_refl _, by omega, hb0.congr fun o _ => ?_, f0⟩
    · have : kindsN str n n = 0 := by simp [kindsN, metB]
      rw [this]; rfl
    · simp [mets, metB]
  case round =>
    obtain ⟨i, rfl, rfl, hni, hg, hb, hfr⟩ := hrel
    have hg' : i + gk = str.size := hg
    have hkl := kinds_le str n i
    obtain ⟨k, hk⟩ : ∃ k, k = kindsN str n i := ⟨_, rfl⟩
    rw [← hk] at hkl ⊢
    have Hk : Hid _ := hk
    clear hg hk
    by_cases hlt : i < str.size
    · have hbt := bt_at' str i hlt
      have hb256 := bt_lt' str i
      have m0 : wr.cell? ⟨w.heap.size, str[i].toNat, none⟩ = some (.bool (metB str n i (bt str i))) := by rw [← hbt]; exact hb.cell hb256
      have z0 := hb.frozen
      have h256 : str[i].toNat < 256 := by rw [← hbt]; exact hb256
      have h256' : (str[i].toNat : Int) < 256 := by omega
      cases hm : metB str n i (bt str i) with
      | true =>
        rw [hm] at m0
        have hold := kinds_old str n i hni hm
        have Hold : Hid _ := hold
        clear hm hbt hold
        go_wp2_with fail
        go_roundg (gk - 1)
        case measure => omega
        case rel =>
          refine ⟨i + 1, ?_, by simp, by omega, by omega, hb.congr fun o _ => ?_, hfr⟩
          · rw [Hk.out]
            unfold kindsN
            simp only [Hold.out]
          · simp only [mets, Hold.out]
      | false =>
        rw [hm] at m0
        have hnew := kinds_new str n i hni hm
        have Hnew : Hid _ := hnew
        have Hbt : Hid _ := hbt
        clear hm hnew hbt
        go_wp2_with fail
        go_roundg (gk - 1)
        case measure => omega
        case rel =>
          refine ⟨i + 1, ?_, by simp, by omega, by omega, (hb.set _ _).congr fun o _ => ?_, hfr.setNew (Nat.le_refl _)⟩
          · rw [Hnew.out, Hk.out]; simp
          · simp only [mets, upd, metB_succ str n i o hni, ← Hbt.out]
            by_cases e : o = bt str i
            · subst e; simp
            · simp [e, Ne.symm e]
    · have hie : i = str.size := by omega
      subst hie
      go_wp2_with fail
      go_ret
      rw [← Hk.out]
      exact ⟨rfl, hfr⟩
end Go.Proofs.Qxb6500282a
