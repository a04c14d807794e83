/- width and lay. -/
import Derived.Test.Qxb6500283aGreatHF3
namespace Go.Proofs.Qxb6500283aGreat
open Go Go.RowKit

def pcV (p : Pc) : Value := .agg #[.int .i64 (p.lo : Nat), .int .i64 (p.hi : Nat), .int .i64 p.g]
def cpV (c : Nat → Int) : Value := .agg #[.int .i64 (c 0), .int .i64 (c 1), .int .i64 (c 2), .int .i64 (c 3), .int .i64 (c 4), .int .i64 (c 5), .int .i64 (c 6), .int .i64 (c 7)]
/-- A piece that compile makes. -/
structure PcOk (p : Pc) : Prop where
  run : p.g < 0 → p.g = -1 ∧ p.lo < p.hi ∧ p.hi ≤ 32
  grp : 0 ≤ p.g → p.g ≤ 3 ∧ p.lo = 0 ∧ p.hi = 0
/-- Captures: each group is unset or a stretch of the subject. -/
def CapOk (N : Nat) (c : Nat → Int) : Prop := ∀ g, g < 4 → (c (2 * g) = -1 ∧ c (2 * g + 1) = -1) ∨ (0 ≤ c (2 * g) ∧ c (2 * g) ≤ c (2 * g + 1) ∧ c (2 * g + 1) ≤ N)
def wdP (p : Pc) (c : Nat → Int) : Nat := if p.g < 0 then p.hi - p.lo else if c (2 * p.g.toNat) < 0 then 0 else (c (2 * p.g.toNat + 1) - c (2 * p.g.toNat)).toNat
set_option maxRecDepth 100000 in
set_option maxHeartbeats 8000000 in
theorem width_any (p : Pc) (c : Nat → Int) (N : Nat) (hN : N ≤ 256) (hp : PcOk p) (hc : CapOk N c) (w : World) :
    Calls Tryz.prog 76 #[pcV p, cpV c] w fun v w' => v = .returned (.int .i64 (wdP p c : Nat)) ∧ Fr (fun _ => False) w w' := by
  unfold pcV cpV
  have FR := ((Fr.refl (fun _ => False) w).alloc (.cells #[.int .i64 (p.lo : Nat), .int .i64 (p.hi : Nat), .int .i64 p.g] 84)).alloc (.cells #[.int .i64 (c 0), .int .i64 (c 1), .int .i64 (c 2), .int .i64 (c 3), .int .i64 (c 4), .int .i64 (c 5), .int .i64 (c 6), .int .i64 (c 7)] 64)
  by_cases hg : p.g < 0
  · obtain ⟨h1, h2, h3⟩ := hp.run hg
    have t1 : decide (p.g < 0) = true := decide_eq_true hg
    have b1 : (p.hi : Int) ≤ 32 := by omega
    have b2 : (p.lo : Int) ≤ 32 := by omega
    have e : (p.hi : Int) - p.lo = ((wdP p c : Nat) : Int) := by unfold wdP; rw [if_pos hg]; omega
    clear hg h1
    go_enter Tryz.func76, Tryz.ntmps76
    go_wp2_with fail
    go_ret
    exact ⟨rfl, FR⟩
  · obtain ⟨h1, h2, h3⟩ := hp.grp (by omega)
    obtain ⟨g, hgd⟩ : ∃ g : Nat, p.g = g := ⟨p.g.toNat, by omega⟩
    have hw : wdP p c = if c (2 * g) < 0 then 0 else (c (2 * g + 1) - c (2 * g)).toNat := by
      unfold wdP; rw [if_neg hg, hgd, Int.toNat_natCast]
    have hcg := hc g (by omega)
    rw [hgd] at FR ⊢
    have hg3 : g < 4 := by omega
    clear hc hgd hg h1 hp
    rw [hw]
    clear hw
    obtain rfl | rfl | rfl | rfl : g = 0 ∨ g = 1 ∨ g = 2 ∨ g = 3 := by omega
    all_goals
      simp only [Nat.mul_zero, Nat.mul_one, Nat.reduceMul, Nat.reduceAdd] at hcg ⊢
      rcases hcg with ⟨a1, a2⟩ | ⟨a1, a2, a3⟩
      · simp only [a1, a2] at FR ⊢
        go_enter Tryz.func76, Tryz.ntmps76
        go_wp2_with fail
        go_ret
        exact ⟨rfl, ((Fr.refl _ _).alloc _).alloc _⟩
      · rw [if_neg (by omega), Int.toNat_of_nonneg (Int.sub_nonneg.2 a2)]
        have hNb : (N : Int) ≤ 256 := by omega
        go_enter Tryz.func76, Tryz.ntmps76
        go_wp2_with fail
        go_ret
        exact ⟨rfl, ((Fr.refl _ _).alloc _).alloc _⟩
/-- The bytes t[lo:hi] laid at at. -/
def layF (f : Nat → Value) (at_ : Nat) (t : ByteArray) (lo n : Nat) : Nat → Value := fun o => if at_ ≤ o ∧ o < at_ + n then .int .u8 ((t.data.getD (lo + (o - at_)) 0).toNat : Nat) else f o
theorem layF_zero (f : Nat → Value) (at_ : Nat) (t : ByteArray) (lo : Nat) : layF f at_ t lo 0 = f := by
  funext o; unfold layF; rw [if_neg (by omega)]
theorem layF_succ (f : Nat → Value) (at_ : Nat) (t : ByteArray) (lo n : Nat) (h : lo + n < t.size) : upd (layF f at_ t lo n) (at_ + n) (.int .u8 (t[lo + n].toNat : Nat)) = layF f at_ t lo (n + 1) := by
  funext o
  simp only [upd, layF]
  by_cases e : o = at_ + n
  · subst e
    rw [if_pos rfl, if_pos (by omega)]
    have : t.data.getD (lo + (at_ + n - at_)) 0 = t[lo + n] := by
      rw [show lo + (at_ + n - at_) = lo + n by omega, Array.getD_eq_getD_getElem?, Array.getElem?_eq_getElem (by exact h)]
      rfl
    rw [this]
  · rw [if_neg e]
    by_cases h2 : at_ ≤ o ∧ o < at_ + n
    · rw [if_pos h2, if_pos (by omega)]
    · rw [if_neg h2, if_neg (by omega)]
set_option maxRecDepth 100000 in
set_option maxHeartbeats 8000000 in
theorem lay_any {w : World} {bb len cap : Nat} {f : Nat → Value} (hb : Blk w bb len f) (hlen : len ≤ 1000000) (t : ByteArray) (at_ lo hi : Nat) (h1 : lo ≤ hi) (h2 : hi ≤ t.size) (h3 : at_ + (hi - lo) ≤ len) (ht : t.size ≤ 1000000) :
    Calls Tryz.prog 77 #[.slice (some ⟨bb, 0, none⟩) len cap, .int .i64 (at_ : Nat), .string t, .int .i64 (lo : Nat), .int .i64 (hi : Nat)] w fun v w' => v = .returned (.int .i64 ((at_ + (hi - lo) : Nat) : Int)) ∧ Blk w' bb len (layF f at_ t lo (hi - lo)) ∧ Fr (fun c => c = bb) w w' := by
  go_enter Tryz.func77, Tryz.ntmps77
  go_wp2_with fail
  go_loopg [1, 11] (hi - lo) (fun g av iv wr => ∃ n : Nat, av = .int .i64 ((at_ + n : Nat) : Int) ∧ iv = .int .i64 ((lo + n : Nat) : Int) ∧ n + g = hi - lo ∧ Blk wr bb len (layF f at_ t lo n) ∧ Fr (fun c => c = bb) w wr)
  case atStart => exact ⟨0, rfl, rfl, by omega, by rw [layF_zero]; exact hb, Fr.refl _ _⟩
  case round =>
    obtain ⟨n, rfl, rfl, hg, hB, hfr⟩ := hrel
    have hg' : n + gk = hi - lo := hg
    clear hg
    by_cases hlt : n < hi - lo
    · have hI : decide (((lo + n : Nat) : Int) < (hi : Nat)) = true := decide_eq_true (by omega)
      have hx : lo + n < t.size := by omega
      have hy : at_ + n < len := by omega
      have c0 := hB.cell (o := at_ + n) hy
      have z := hB.frozen
      have lb := hB.lt
      have key := hB.set (at_ + n) (.int .u8 (t[lo + n].toNat : Nat))
      rw [layF_succ f at_ t lo n hx] at key
      have FR := hfr.setC bb (at_ + n) (.int .u8 (t[lo + n].toNat : Nat)) (fun _ => rfl)
      have b1 : ((at_ + n : Nat) : Int) ≤ 1000000 := by omega
      have b2 : ((lo + n : Nat) : Int) ≤ 1000000 := by omega
      go_wp2_with fail
      go_roundg (gk - 1)
      case measure => omega
      case rel => exact ⟨n + 1, by simp; omega, by simp; omega, by omega, key, FR⟩
    · have hI : decide (((lo + n : Nat) : Int) < (hi : Nat)) = false := decide_eq_false (by omega)
      have hn : n = hi - lo := by omega
      subst hn
      go_wp2_with fail
      go_ret
      exact ⟨rfl, hB, hfr⟩
end Go.Proofs.Qxb6500283aGreat
