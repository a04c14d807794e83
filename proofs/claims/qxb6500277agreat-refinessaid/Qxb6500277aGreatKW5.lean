/- The real heap: move. -/
import Derived.Test.Qxb6500277aGreatKW4
import Derived.Deep.LoopGhost
namespace Go.Proofs.Qxb6500277aGreat
open Go Go.RowKit

theorem cpy_zero (m : Nat → Int) (a to : Nat) : cpy m a to 0 = m := by
  funext o; unfold cpy; rw [if_neg (by omega)]
theorem cpy_succ {m : Nat → Int} {a to k n : Nat} (hk : k < n) (hd : a + n ≤ to ∨ to + n ≤ a) : upd (cpy m a to k) (to + k) (cpy m a to k (a + k)) = cpy m a to (k + 1) := by
  funext o
  have h1 : cpy m a to k (a + k) = m (a + k) := by unfold cpy; rw [if_neg (by omega)]
  rw [h1]
  unfold upd cpy
  by_cases e : o = to + k
  · subst e
    rw [if_pos rfl, if_pos (by omega)]
    congr 1
    omega
  · rw [if_neg e]
    by_cases h2 : to ≤ o ∧ o < to + k
    · rw [if_pos h2, if_pos (by omega)]
    · rw [if_neg h2, if_neg (by omega)]
def movedS (S : HS) (a n : Nat) : HS := { S with mem := fun o => if o = a then -1 - (S.free : Int) else cpy S.mem a S.free n o, free := S.free + n }
section
variable {w : World} {h : Nat} {S : HS}
set_option maxHeartbeats 800000 in
theorem move_none (H : HM w h S) : Calls Tryz.prog 229 #[.pointer (some ⟨h, 0, none⟩), .int .i64 (-1)] w fun e w' => e = .returned (.int .i64 (-1)) ∧ HM w' h S ∧ Fr (OnlyH h) w w' := by
  go_enter Tryz.func229, Tryz.ntmps229
  go_wp2_with fail
  go_ret
  exact ⟨rfl, H, Fr.refl _ _⟩
set_option maxHeartbeats 800000 in
theorem move_old (H : HM w h S) {a : Nat} (ha : a < 96) {t : Nat} (ht : t ≤ 96) (hm : S.mem a = -1 - t) : Calls Tryz.prog 229 #[.pointer (some ⟨h, 0, none⟩), .int .i64 a] w fun e w' => e = .returned (.int .i64 t) ∧ HM w' h S ∧ Fr (OnlyH h) w w' := by
  have c := H.mem ha
  rw [hm] at c
  have hlt := H.lt
  have e1 : -1 - (-1 - (t : Int)) = t := by omega
  clear hm
  go_enter Tryz.func229, Tryz.ntmps229
  go_wp2_with fail
  go_ret
  exact ⟨rfl, H, Fr.refl _ _⟩
set_option maxHeartbeats 4000000 in
theorem move_new (H : HM w h S) {a n : Nat} (hn : wdO S.mem a = n) (ha : a + n ≤ 96) (hf : S.free + n ≤ 96) (hd : a + n ≤ S.free ∨ S.free + n ≤ a) (h0 : 0 ≤ S.mem a) : Calls Tryz.prog 229 #[.pointer (some ⟨h, 0, none⟩), .int .i64 a] w fun e w' => e = .returned (.int .i64 S.free) ∧ HM w' h (movedS S a n) ∧ Fr (OnlyH h) w w' := by
  have hpos := wdO_pos S.mem a
  have hn0 : 0 < n := by omega
  have ha2 : a < 96 := by omega
  have c := H.mem ha2
  have cf := H.free
  have hlt := H.lt
  have hW : (S.mem a).toNat / 49 + (S.mem a).toNat % 49 + 1 = n := by rw [← hn]; unfold wdO nrO niO; omega
  have h1 : S.mem a < 1000000 := by omega
  have hw := fun w => words_any (S.mem a) h0 h1 w
  rw [show 1 + (S.mem a).toNat / 49 + (S.mem a).toNat % 49 = n by omega] at hw
  clear hn hpos hW
  go_enter Tryz.func229, Tryz.ntmps229
  go_wp2_with fail
  refine (hw _).mono ?_
  rintro e w1 ⟨rfl, rfl⟩
  go_wp2_with fail
  go_loopg [8] n (fun g kv wr => ∃ k : Nat, kv = .int .i64 k ∧ k + g = n ∧ HM wr h { S with mem := cpy S.mem a S.free k } ∧ Fr (OnlyH h) w1 wr)
  case atStart => exact ⟨0, rfl, by omega, by rw [cpy_zero]; exact H, Fr.refl _ _⟩
  case round =>
    obtain ⟨k, rfl, hkg, HK, hfr⟩ := hrel
    have hkg' : k + gk = n := hkg
    clear hkg c cf hlt H
    have hlt := HK.lt
    by_cases hk : k < n
    · have hk' : (k : Int) < n := by omega
      have c1 := HK.mem (o := a + k) (by omega)
      have c2 := HK.mem (o := S.free + k) (by omega)
      have z := Blk.frozen HK (S.free + k)
      have key := (HK.setMem (o := S.free + k) (by omega) (cpy S.mem a S.free k (a + k)))
      have e2 := cpy_succ (m := S.mem) hk hd
      have keyF := hfr.setC h (S.free + k) (.int .i64 (cpy S.mem a S.free k (a + k))) (fun _ => rfl)
      simp only at key
      rw [e2] at key
      have Hk2 : Hid (_ ∧ _) := ⟨key, keyF⟩
      clear key keyF e2 HK hfr
      go_wp2_with fail
      refine wp_region_text (by kernel_rfl) (by kernel_rfl) ?_
      go_wp2_with fail
      refine ⟨by kernel_rfl, ?_⟩
      go_wp2_with fail
      go_roundg (gk - 1)
      case measure => omega
      case rel => exact ⟨k + 1, by simp, by omega, Hk2.out.1, Hk2.out.2.drew⟩
    · have hkn : k = n := by omega
      subst hkn
      have c1 := HK.mem (o := a) (by omega)
      have c2 := HK.free
      have z := Blk.frozen HK a
      have z2 := Blk.frozen HK 97
      have key := (HK.setMem (o := a) (by omega) (-1 - (S.free : Int))).setFree (S.free + k)
      have keyF := (hfr.setC h a (.int .i64 (-1 - (S.free : Int))) (fun _ => rfl)).setC h 97 (.int .i64 ((S.free + k : Nat) : Int)) (fun _ => rfl)
      have Hk2 : Hid (_ ∧ _) := ⟨key, keyF⟩
      clear key keyF HK hfr
      go_wp2_with fail
      go_ret
      exact ⟨rfl, Hk2.out⟩
end
end Go.Proofs.Qxb6500277aGreat
