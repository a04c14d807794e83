/- The real heap in memory; the small functions. -/
import Derived.Test.Qxb6500277aGreatK8
import Derived.Test.Qxb6500277aGreatText
import Derived.Test.Qxb6500277aGreatProg
import Derived.Test.Qxb6500277aGreatPast
namespace Go.Proofs.Qxb6500277aGreat
open Go Go.RowKit

def hInt (S : HS) (o : Nat) : Int := if o < 96 then S.mem o else if o = 96 then (S.base : Int) else if o = 97 then (S.free : Int) else if o < 122 then S.roots (o - 98) else if o = 122 then (S.top : Int) else (S.turns : Int)
def HM (w : World) (h : Nat) (S : HS) : Prop := Blk w h 124 (ints (hInt S))
section
variable {w w' : World} {h : Nat} {S : HS}
theorem HM.mem (H : HM w h S) {o : Nat} (ho : o < 96) : w.cell? ⟨h, o, none⟩ = some (.int .i64 (S.mem o)) := by
  have := Blk.cell H (o := o) (by omega)
  simpa [ints, hInt, ho] using this
theorem HM.base (H : HM w h S) : w.cell? ⟨h, 96, none⟩ = some (.int .i64 S.base) := Blk.cell H (by omega)
theorem HM.free (H : HM w h S) : w.cell? ⟨h, 97, none⟩ = some (.int .i64 S.free) := Blk.cell H (by omega)
theorem HM.root (H : HM w h S) {i : Nat} (hi : i < 24) : w.cell? ⟨h, 98 + i, none⟩ = some (.int .i64 (S.roots i)) := by
  have := Blk.cell H (o := 98 + i) (by omega)
  rw [this]
  simp only [ints, hInt]
  rw [if_neg (by omega), if_neg (by omega), if_neg (by omega), if_pos (by omega)]
  congr 3
  omega
theorem HM.top (H : HM w h S) : w.cell? ⟨h, 122, none⟩ = some (.int .i64 S.top) := Blk.cell H (by omega)
theorem HM.turns (H : HM w h S) : w.cell? ⟨h, 123, none⟩ = some (.int .i64 S.turns) := Blk.cell H (by omega)
theorem HM.lt (H : HM w h S) : h < w.heap.size := Blk.lt H
theorem HM.frame {F : Nat → Prop} (H : HM w h S) (k : Fr F w w') (hn : ¬ F h) : HM w' h S := Blk.frame H k hn
theorem HM.setMem (H : HM w h S) {o : Nat} (ho : o < 96) (v : Int) : HM (w.setCell ⟨h, o, none⟩ (.int .i64 v)) h { S with mem := upd S.mem o v } := by
  have := Blk.set H o (.int .i64 v)
  rw [ints_upd] at this
  refine this.congr fun k hk => ?_
  simp only [ints, hInt, upd]
  by_cases e : k = o
  · subst e; simp [ho]
  · simp only [if_neg e]
theorem HM.setRoot (H : HM w h S) {i : Nat} (hi : i < 24) (v : Int) : HM (w.setCell ⟨h, 98 + i, none⟩ (.int .i64 v)) h { S with roots := upd S.roots i v } := by
  have := Blk.set H (98 + i) (.int .i64 v)
  rw [ints_upd] at this
  refine this.congr fun k hk => ?_
  simp only [ints, hInt, upd]
  by_cases e : k = 98 + i
  · subst e
    rw [if_pos rfl, if_neg (by omega), if_neg (by omega), if_neg (by omega), if_pos (by omega), if_pos (by omega)]
  · rw [if_neg e]
    by_cases h1 : k < 96
    · simp [h1]
    · by_cases h2 : k = 96
      · simp [h2]
      · by_cases h3 : k = 97
        · simp [h3]
        · by_cases h4 : k < 122
          · simp only [h1, h2, h3, h4, if_true, if_false]
            rw [if_neg (by omega)]
          · simp [h1, h2, h3, h4]
theorem HM.setTop (H : HM w h S) (n : Nat) : HM (w.setCell ⟨h, 122, none⟩ (.int .i64 n)) h { S with top := n } := by
  have := Blk.set H 122 (.int .i64 n)
  rw [ints_upd] at this
  refine this.congr fun k hk => ?_
  simp only [ints, hInt, upd]
  by_cases e : k = 122
  · subst e; simp
  · simp [e]
theorem HM.setFree (H : HM w h S) (n : Nat) : HM (w.setCell ⟨h, 97, none⟩ (.int .i64 n)) h { S with free := n } := by
  have := Blk.set H 97 (.int .i64 n)
  rw [ints_upd] at this
  refine this.congr fun k hk => ?_
  simp only [ints, hInt, upd]
  by_cases e : k = 97
  · subst e; simp
  · simp [e]
theorem HM.setBase (H : HM w h S) (n : Nat) : HM (w.setCell ⟨h, 96, none⟩ (.int .i64 n)) h { S with base := n } := by
  have := Blk.set H 96 (.int .i64 n)
  rw [ints_upd] at this
  refine this.congr fun k hk => ?_
  simp only [ints, hInt, upd]
  by_cases e : k = 96
  · subst e; simp
  · simp [e]
theorem HM.setTurns (H : HM w h S) (n : Int) : HM (w.setCell ⟨h, 123, none⟩ (.int .i64 n)) h { S with turns := n } := by
  have := Blk.set H 123 (.int .i64 n)
  rw [ints_upd] at this
  refine this.congr fun k hk => ?_
  simp only [ints, hInt, upd]
  by_cases e : k = 123
  · subst e; simp
  · by_cases h1 : k < 96
    · simp [e, h1]
    · by_cases h2 : k = 96
      · simp [h2]
      · by_cases h3 : k = 97
        · simp [h3]
        · by_cases h4 : k < 122
          · simp [h1, h2, h3, h4, e]
          · have : k = 122 := by omega
            simp [this]
end
set_option maxHeartbeats 400000 in
theorem quo_any (a : Nat) (ha : a < 1000000) (w : World) : Calls Tryz.prog 157 #[.int .i64 a, .int .i64 49] w fun e w' => e = .returned (.int .i64 ((a / 49 : Nat) : Int)) ∧ w' = w := by
  go_enter Tryz.func157, Tryz.ntmps157
  go_wp2
  go_ret
  exact ⟨by simp, rfl⟩
set_option maxHeartbeats 400000 in
theorem rem_any (a : Nat) (ha : a < 1000000) (w : World) : Calls Tryz.prog 158 #[.int .i64 a, .int .i64 49] w fun e w' => e = .returned (.int .i64 ((a % 49 : Nat) : Int)) ∧ w' = w := by
  go_enter Tryz.func158, Tryz.ntmps158
  go_wp2
  go_ret
  exact ⟨by simp, rfl⟩
set_option maxHeartbeats 400000 in
theorem refs_any (a : Int) (h0 : 0 ≤ a) (h1 : a < 1000000) (w : World) : Calls Tryz.prog 208 #[.int .i64 a] w fun e w' => e = .returned (.int .i64 ((a.toNat / 49 : Nat) : Int)) ∧ w' = w := by
  obtain ⟨n, rfl⟩ := Int.eq_ofNat_of_zero_le h0
  go_enter Tryz.func208, Tryz.ntmps208
  go_wp2_with fail
  refine (quo_any n (by omega) _).mono ?_
  rintro e w1 ⟨rfl, rfl⟩
  go_wp2_with fail
  go_ret
  exact ⟨rfl, rfl⟩
set_option maxHeartbeats 400000 in
theorem ints_any (a : Int) (h0 : 0 ≤ a) (h1 : a < 1000000) (w : World) : Calls Tryz.prog 209 #[.int .i64 a] w fun e w' => e = .returned (.int .i64 ((a.toNat % 49 : Nat) : Int)) ∧ w' = w := by
  obtain ⟨n, rfl⟩ := Int.eq_ofNat_of_zero_le h0
  go_enter Tryz.func209, Tryz.ntmps209
  go_wp2_with fail
  refine (rem_any n (by omega) _).mono ?_
  rintro e w1 ⟨rfl, rfl⟩
  go_wp2_with fail
  go_ret
  exact ⟨rfl, rfl⟩
set_option maxHeartbeats 400000 in
theorem words_any (a : Int) (h0 : 0 ≤ a) (h1 : a < 1000000) (w : World) : Calls Tryz.prog 230 #[.int .i64 a] w fun e w' => e = .returned (.int .i64 ((1 + a.toNat / 49 + a.toNat % 49 : Nat) : Int)) ∧ w' = w := by
  obtain ⟨n, rfl⟩ := Int.eq_ofNat_of_zero_le h0
  simp only [Int.toNat_natCast]
  go_enter Tryz.func230, Tryz.ntmps230
  go_wp2_with fail
  refine (refs_any n h0 h1 _).mono ?_
  rintro e w1 ⟨rfl, rfl⟩
  go_wp2_with fail
  refine (ints_any n h0 h1 _).mono ?_
  rintro e w1 ⟨rfl, rfl⟩
  simp only [Int.toNat_natCast]
  have k1 : n / 49 < 1000000 := by omega
  have k2 : n % 49 < 49 := by omega
  generalize hx : n / 49 = x at *
  generalize hy : n % 49 = y at *
  go_wp2_with fail
  go_ret
  exact ⟨by simp; omega, rfl⟩
set_option maxHeartbeats 400000 in
theorem header_any (p q : Nat) (hp : p ≤ 48) (hq : q ≤ 48) (w : World) : Calls Tryz.prog 204 #[.int .i64 p, .int .i64 q] w fun e w' => e = .returned (.int .i64 ((p * 49 + q : Nat) : Int)) ∧ w' = w := by
  go_enter Tryz.func204, Tryz.ntmps204
  go_wp2_with fail
  go_ret
  exact ⟨by simp, rfl⟩
end Go.Proofs.Qxb6500277aGreat
