/- The real checker's tables: find, push, pop, clear. -/
import Derived.Test.Qxb6500277aGreatCW2
import Derived.Test.Qxb6500277aGreatW13
namespace Go.Proofs.Qxb6500277aGreat
open Go Go.RowKit

section
variable {w : World} {c n o : Nat} {f : Nat → Value} {vs : List Vr}
def OnlyC (c : Nat) (b : Nat) : Prop := b = c
set_option maxRecDepth 100000 in
set_option maxHeartbeats 2000000 in
theorem findT (B : Blk w c n f) (T : Tab f o vs) (hn : o + 161 ≤ n) (s : ByteArray) (hs : s.size ≤ 4096) : Calls Tryz.prog 67 #[.pointer (some ⟨c, o, none⟩), .string s] w fun e w' => e = .returned (.int .i64 (oi (fndV s vs))) ∧ ∃ m, w' = w.drewN m := by
  have hb := bk_lt s
  have hlt := B.lt
  have c0 := B.cell (o := o + bk s) (by omega)
  rw [T.hd (bk s) hb] at c0
  have hB := fun w => bucketF s hs w
  have hle := T.le
  obtain ⟨v0, hv0⟩ : ∃ v0, oi (lb vs (bk s) vs.length) = v0 := ⟨_, rfl⟩
  rw [hv0] at c0
  have Hv0 : Hid _ := hv0
  clear hv0
  go_enter Tryz.func67, Tryz.ntmps67
  go_wp2_with fail
  go_quiet (first | (go_at_call 92; refine Calls.quiet_of_same (hB _)))
  go_wp2_with fail
  generalize hw0 : w.drewN _ = w0
  have B0 : Blk w0 c n f := by rw [← hw0]; exact B.drewN _
  clear hB
  go_loopg [5] vs.length (fun g ev wr => ∃ m : Nat, ev = .int .i64 (oi (lb vs (bk s) m)) ∧ NoHit vs s m ∧ m ≤ g ∧ wr = w0)
  case atStart => exact ⟨vs.length, by rw [Hv0.out], ⟨Nat.le_refl _, fun j h1 h2 => by omega⟩, Nat.le_refl _, rfl⟩
  case round =>
    obtain ⟨m, rfl, hN, hm, rfl⟩ := hrel
    have hlt2 := B0.lt
    cases hl : lb vs (bk s) m with
    | none =>
      have hr : Hid (_ = _) := hN.none hl
      rw [show oi none = -1 from rfl]
      have z1 : decide ((-1 : Int) ≥ 0) = false := by decide
      clear hN hl B B0
      go_wp2_with fail
      go_ret
      exact ⟨by rw [hr.out]; rfl, _, hw0.symm⟩
    | some k =>
      obtain ⟨k1, k2, k3, k4, k5⟩ := hN.some hl
      rw [show oi (some k) = (k : Int) from rfl]
      have c1 := B0.cell (o := o + 16 + k * 6) (by omega)
      rw [T.nm k k1] at c1
      have c2 := B0.cell (o := o + 16 + k * 6 + 5) (by omega)
      rw [T.nx k k1, k3] at c2
      have z1 : decide ((k : Int) ≥ 0) = true := decide_eq_true (by omega)
      have hk24 : k < 24 := by omega
      by_cases e : (vAt vs k).name = s
      · have hr : Hid (_ = _) := k4 e
        have z2 := strEq e
        clear k4 k5 hN hl B B0 e
        go_wp2_with fail
        go_ret
        exact ⟨by rw [hr.out]; rfl, _, hw0.symm⟩
      · have hN2 := k5 e
        have z2 := strNe e
        have Hx : Hid (NoHit vs s k ∧ k < m) := ⟨hN2, k2⟩
        clear k4 k5 hN hl hN2
        go_wp2_with fail
        go_roundg k
        case measure => have := Hx.out.2; omega
        case rel => exact ⟨k, rfl, Hx.out.1, Nat.le_refl _, rfl⟩
set_option maxRecDepth 100000 in
set_option maxHeartbeats 2000000 in
theorem clearT (B : Blk w c n f) (hn : o + 161 ≤ n) : Calls Tryz.prog 60 #[.pointer (some ⟨c, o, none⟩)] w fun e w' => e = .returned (.tuple #[]) ∧ (∃ f', Blk w' c n f' ∧ Tab f' o [] ∧ ∀ k, k < o ∨ o + 161 ≤ k → f' k = f k) ∧ Fr (fun b => b = c) w w' := by
  go_enter Tryz.func60, Tryz.ntmps60
  go_wp2_with fail
  go_loopg [2] 16 (fun g bv wr => ∃ (b : Nat) (f' : Nat → Value), bv = .int .i64 b ∧ b + g = 16 ∧ Blk wr c n f' ∧ (∀ j, j < b → f' (o + j) = .int .i64 (-1)) ∧ (∀ k, k < o ∨ o + 161 ≤ k → f' k = f k) ∧ Fr (fun b => b = c) w wr)
  case atStart => exact ⟨0, f, rfl, rfl, B, fun j hj => by omega, fun k _ => rfl, Fr.refl _ _⟩
  case round =>
    obtain ⟨b, f1, rfl, hg, B1, h1, h2, hfr⟩ := hrel
    have Hg : Hid _ := hg
    have hl := B1.lt
    have hz := B1.frozen
    by_cases hb : b < 16
    · have z1 : decide ((b : Int) < 16) = true := decide_eq_true (by omega)
      have c1 := B1.cell (o := o + b) (by omega)
      have Hk : Hid (_ ∧ _) := ⟨B1.set (o + b) (.int .i64 (-1)), hfr.setC c (o + b) (.int .i64 (-1)) (fun _ => rfl)⟩
      clear hg hfr
      go_wp2_with fail
      go_roundg (gk - 1)
      case measure => have := Hg.out; omega
      case rel => exact ⟨b + 1, _, by simp, by have := Hg.out; omega, Hk.out.1, fun j hj => by
          by_cases e : j = b
          · subst e; rw [upd_same]
          · rw [upd_other _ _ _ _ (by omega)]; exact h1 j (by omega), fun k hk => by rw [upd_other _ _ _ _ (by omega)]; exact h2 k hk, Hk.out.2⟩
    · have z1 : decide ((b : Int) < 16) = false := decide_eq_false (by omega)
      obtain rfl : b = 16 := by omega
      have c1 := B1.cell (o := o + 160) (by omega)
      have Hk : Hid (_ ∧ _) := ⟨B1.set (o + 160) (.int .i64 0), hfr.setC c (o + 160) (.int .i64 0) (fun _ => rfl)⟩
      clear hg hfr hb
      go_wp2_with fail
      go_end0
      exact ⟨rfl, ⟨_, Hk.out.1, Tab.empty (by rw [upd_same]; rfl) (fun b hb => by rw [upd_other _ _ _ _ (by omega)]; exact h1 b hb), fun k hk => by rw [upd_other _ _ _ _ (by omega)]; exact h2 k hk⟩, Hk.out.2⟩
theorem Blk.set6 (B : Blk w c n f) (k : Nat) (a0 a1 a2 a3 a4 a5 : Value) : ∃ f', Blk ((((((w.setCell ⟨c, k, none⟩ a0).setCell ⟨c, k + 1, none⟩ a1).setCell ⟨c, k + 2, none⟩ a2).setCell ⟨c, k + 3, none⟩ a3).setCell ⟨c, k + 4, none⟩ a4).setCell ⟨c, k + 5, none⟩ a5) c n f' ∧ f' k = a0 ∧ f' (k + 1) = a1 ∧ f' (k + 2) = a2 ∧ f' (k + 3) = a3 ∧ f' (k + 4) = a4 ∧ f' (k + 5) = a5 ∧ ∀ j, j < k ∨ k + 6 ≤ j → f' j = f j := by
  refine ⟨_, (((((B.set k a0).set (k + 1) a1).set (k + 2) a2).set (k + 3) a3).set (k + 4) a4).set (k + 5) a5, ?_, ?_, ?_, ?_, ?_, ?_, fun j hj => ?_⟩
  all_goals simp only [upd, if_true]
  all_goals repeat (rw [if_neg (by omega)])
theorem Fr.set6 {S : Nat → Prop} {a : World} (h : Fr S a w) (hc : S c) (k : Nat) (a0 a1 a2 a3 a4 a5 : Value) : Fr S a ((((((w.setCell ⟨c, k, none⟩ a0).setCell ⟨c, k + 1, none⟩ a1).setCell ⟨c, k + 2, none⟩ a2).setCell ⟨c, k + 3, none⟩ a3).setCell ⟨c, k + 4, none⟩ a4).setCell ⟨c, k + 5, none⟩ a5) :=
  (((((h.setC c k a0 (fun _ => hc)).setC c (k + 1) a1 (fun _ => hc)).setC c (k + 2) a2 (fun _ => hc)).setC c (k + 3) a3 (fun _ => hc)).setC c (k + 4) a4 (fun _ => hc)).setC c (k + 5) a5 (fun _ => hc)
set_option maxRecDepth 100000 in
set_option maxHeartbeats 2000000 in
theorem pushT (B : Blk w c n f) (T : Tab f o vs) (hn : o + 161 ≤ n) (hl : vs.length < 24) (v : Vr) (hs : v.name.size ≤ 4096) (st lv : Int) (e1 : st = v.slot) (e2 : lv = v.level) : Calls Tryz.prog 87 #[.pointer (some ⟨c, o, none⟩), .string v.name, .int .i64 v.ty, .int .i64 st, .int .i64 lv] w fun e w' => e = .returned (.tuple #[]) ∧ (∃ f', Blk w' c n f' ∧ Tab f' o (vs ++ [v]) ∧ ∀ k, k < o ∨ o + 161 ≤ k → f' k = f k) ∧ Fr (fun b => b = c) w w' := by
  subst e1 e2
  have hb := bk_lt v.name
  have hlt := B.lt
  have hz := B.frozen
  have c0 := B.cell (o := o + bk v.name) (by omega)
  rw [T.hd (bk v.name) hb] at c0
  have c1 := B.cell (o := o + 160) (by omega)
  rw [T.n] at c1
  have a0 := B.cell (o := o + 16 + vs.length * 6) (by omega)
  have a1 := B.cell (o := o + 16 + vs.length * 6 + 1) (by omega)
  have a2 := B.cell (o := o + 16 + vs.length * 6 + 2) (by omega)
  have a3 := B.cell (o := o + 16 + vs.length * 6 + 3) (by omega)
  have a4 := B.cell (o := o + 16 + vs.length * 6 + 4) (by omega)
  have a5 := B.cell (o := o + 16 + vs.length * 6 + 5) (by omega)
  have hB := bucketF v.name hs w
  obtain ⟨f1, B1, g0, g1, g2, g3, g4, g5, g6⟩ := B.set6 (o + 16 + vs.length * 6) (.string v.name) (.int .i64 v.ty) (.int .i64 v.slot) (.int .i64 v.level) (.int .i64 (bk v.name)) (.int .i64 (oi (lb vs (bk v.name) vs.length)))
  have F1 := (Fr.refl (fun b => b = c) w).set6 (c := c) rfl (o + 16 + vs.length * 6) (.string v.name) (.int .i64 v.ty) (.int .i64 v.slot) (.int .i64 v.level) (.int .i64 (bk v.name)) (.int .i64 (oi (lb vs (bk v.name) vs.length)))
  have H1 : Hid (_ ∧ _) := ⟨B1, F1⟩
  clear B1 F1 B
  go_enter Tryz.func87, Tryz.ntmps87
  go_wp2_with fail
  refine hB.mono ?_
  rintro e w2 ⟨rfl, rfl⟩
  go_wp2_with fail
  refine wp_region_text (by kernel_rfl) (by kernel_rfl) ?_
  go_wp2_with fail
  refine ⟨by kernel_rfl, ?_⟩
  go_wp2_with fail
  generalize hw : World.drew _ = w3
  have B1 : Blk w3 c n f1 := by rw [← hw]; exact H1.out.1.drew
  have F1 : Fr (fun b => b = c) w2 w3 := by rw [← hw]; exact H1.out.2.drew
  clear hw H1 c0 c1 a0 a1 a2 a3 a4 a5 hz hlt
  have hlt := B1.lt
  have hz := B1.frozen
  have c0 := B1.cell (o := o + bk v.name) (by omega)
  have c1 := B1.cell (o := o + 160) (by omega)
  rw [g6 _ (by omega), T.n] at c1
  have B2 := ((B1.set (o + bk v.name) (.int .i64 (vs.length : Nat))).set (o + 160) (.int .i64 ((vs.length : Nat) + 1))).drew
  have F2 := ((F1.setC c (o + bk v.name) (.int .i64 (vs.length : Nat)) (fun _ => rfl)).setC c (o + 160) (.int .i64 ((vs.length : Nat) + 1)) (fun _ => rfl)).drew
  have H2 : Hid (_ ∧ _) := ⟨B2, F2⟩
  clear B2 F2 F1 B1
  refine wp_region_text (by kernel_rfl) (by kernel_rfl) ?_
  go_wp2_with fail
  refine ⟨by kernel_rfl, ?_⟩
  go_wp2_with fail
  go_end0
  refine ⟨rfl, ⟨_, H2.out.1, T.push hl ?_ ?_ ?_ ?_ ?_ ?_ ?_ ?_ (fun k k1 k2 k3 k4 => ?_), fun k hk => ?_⟩, H2.out.2⟩
  · rw [upd_same]; simp
  · rw [upd_other _ _ _ _ (by omega), upd_same]
  · rw [upd_other _ _ _ _ (by omega), upd_other _ _ _ _ (by omega)]; exact g0
  · rw [upd_other _ _ _ _ (by omega), upd_other _ _ _ _ (by omega)]; exact g1
  · rw [upd_other _ _ _ _ (by omega), upd_other _ _ _ _ (by omega)]; exact g2
  · rw [upd_other _ _ _ _ (by omega), upd_other _ _ _ _ (by omega)]; exact g3
  · rw [upd_other _ _ _ _ (by omega), upd_other _ _ _ _ (by omega)]; exact g4
  · rw [upd_other _ _ _ _ (by omega), upd_other _ _ _ _ (by omega)]; exact g5
  · rw [upd_other _ _ _ _ (by omega), upd_other _ _ _ _ (by omega)]; exact g6 k (by omega)
  · rw [upd_other _ _ _ _ (by omega), upd_other _ _ _ _ (by omega)]; exact g6 k (by omega)
set_option maxRecDepth 100000 in
set_option maxHeartbeats 2000000 in
theorem popT {l : List Vr} {v : Vr} (B : Blk w c n f) (T : Tab f o (l ++ [v])) (hn : o + 161 ≤ n) : Calls Tryz.prog 151 #[.pointer (some ⟨c, o, none⟩)] w fun e w' => e = .returned (.int .i64 v.ty) ∧ (∃ f', Blk w' c n f' ∧ Tab f' o l ∧ ∀ k, k < o ∨ o + 161 ≤ k → f' k = f k) ∧ Fr (fun b => b = c) w w' := by
  have hb := bk_lt v.name
  have hle := T.le
  have hlen : (l ++ [v]).length = l.length + 1 := by simp
  have new : vAt (l ++ [v]) l.length = v := vAt_last l v
  have tn := T.n
  have t1 := T.ty l.length (by omega)
  have t4 := T.bu l.length (by omega)
  have t5 := T.nx l.length (by omega)
  rw [hlen] at hle tn
  rw [new] at t1 t4 t5
  have hlt := B.lt
  have hz := B.frozen
  have c1 := B.cell (o := o + 160) (by omega)
  rw [tn] at c1
  have B1 := B.set (o + 160) (.int .i64 (l.length : Nat))
  have F1 := (Fr.refl (fun b => b = c) w).setC c (o + 160) (.int .i64 (l.length : Nat)) (fun _ => rfl)
  have H1 : Hid (_ ∧ _) := ⟨B1, F1⟩
  have e1 : ((l.length + 1 : Nat) : Int) - 1 = (l.length : Nat) := by omega
  clear B1 F1 B
  go_enter Tryz.func151, Tryz.ntmps151
  go_wp2_with fail
  generalize hw : w.setCell _ _ = w3
  have B1 : Blk w3 c n (upd f (o + 160) (.int .i64 (l.length : Nat))) := by rw [← hw]; exact H1.out.1
  have F1 : Fr (fun b => b = c) w w3 := by rw [← hw]; exact H1.out.2
  clear hw H1 c1 hz hlt
  have hlt := B1.lt
  have hz := B1.frozen
  have c0 := B1.cell (o := o + 160) (by omega)
  rw [upd_same] at c0
  have c1 := B1.cell (o := o + 16 + l.length * 6 + 1) (by omega)
  rw [upd_other _ _ _ _ (by omega), t1] at c1
  have c4 := B1.cell (o := o + 16 + l.length * 6 + 4) (by omega)
  rw [upd_other _ _ _ _ (by omega), t4] at c4
  have c5 := B1.cell (o := o + 16 + l.length * 6 + 5) (by omega)
  rw [upd_other _ _ _ _ (by omega), t5] at c5
  have c6 := B1.cell (o := o + bk v.name) (by omega)
  have B2 := B1.set (o + bk v.name) (.int .i64 (oi (lb (l ++ [v]) (bk v.name) l.length)))
  have F2 := F1.setC c (o + bk v.name) (.int .i64 (oi (lb (l ++ [v]) (bk v.name) l.length))) (fun _ => rfl)
  have H2 : Hid (_ ∧ _) := ⟨B2, F2⟩
  have hl24 : l.length < 24 := by omega
  have hl24i : (l.length : Int) < 24 := by omega
  clear B2 F2 F1 B1 hle
  refine wp_region_text (by kernel_rfl) (by kernel_rfl) ?_
  go_wp2_with fail
  refine ⟨by kernel_rfl, ?_⟩
  go_wp2_with fail
  go_quiet (fail)
  go_wp2_with fail
  go_ret
  refine ⟨rfl, ⟨_, (H2.out.1.drew).drewN _, T.pop ?_ ?_ (fun k k1 k2 k3 => ?_), fun k hk => ?_⟩, (H2.out.2.drew).drewN _⟩
  · rw [upd_other _ _ _ _ (by omega), upd_same]
  · rw [upd_same]
  · rw [upd_other _ _ _ _ (by omega), upd_other _ _ _ _ (by omega)]
  · rw [upd_other _ _ _ _ (by omega), upd_other _ _ _ _ (by omega)]
end
end Go.Proofs.Qxb6500277aGreat
