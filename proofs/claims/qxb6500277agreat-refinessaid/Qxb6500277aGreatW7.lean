import Derived.Test.Qxb6500277aGreatW6
namespace Go.Proofs.Qxb6500277aGreat
open Go Go.RowKit

theorem LTo.set {w w1 : World} {x bb bb1 : Nat} {all : List Tok} {r : R} {o : Nat} {v : Value} (k : Fr (lS x bb) w w1) (hb : bb1 = bb ∨ w.heap.size ≤ bb1) (h : LRepA (w1.setCell ⟨x, o, none⟩ v) x bb1 all r) : LTo w (w1.setCell ⟨x, o, none⟩ v) x bb r :=
  ⟨bb1, ⟨all, h⟩, k.setC _ _ _ (fun _ => .inl rfl), hb⟩

structure FP (r : R) (src : ByteArray) (i c k : Nat) : Prop where
  nl : r.toks.length ≤ 4096
  sz : src.size ≤ 4096
  hi : i ≤ src.size
  st : r.start ≤ i
  cl : c < 256
  v : r.val ≤ 9223372036854775807
  d : k = 2 → 48 ≤ c ∧ c ≤ 57
section
variable {w : World} {x bb : Nat} {r : R} {src : ByteArray} {i c k : Nat}
set_option maxRecDepth 100000 in
set_option maxHeartbeats 4000000 in
theorem feed1 (h : LRep w x bb r) (hp : FP r src i c k) (hs : r.state = 1) :
    Calls Tryz.prog 143 #[.pointer (some ⟨x, 0, none⟩), .string src, .int .i64 i, .int .u8 c, .int .i64 k] w fun e w' => e = .returned (.bool (feedR src i c k r).2) ∧ LTo w w' x bb (feedR src i c k r).1 := by
  obtain ⟨hr, hsz, hi, hst, hc, hv, hd⟩ := hp
  clear hv hd
  have hA := h
  obtain ⟨all, hA⟩ := hA
  have c2 : w.cell? ⟨x, 2, none⟩ = some (.int .i64 1) := by rw [hA.main.cell (by omega)]; simp [lcell, hs]
  have c3 : w.cell? ⟨x, 3, none⟩ = some (.int .i64 r.start) := hA.main.cell (by omega)
  have c6 : w.cell? ⟨x, 6, none⟩ = some (.int .i64 r.fail) := hA.main.cell (by omega)
  have z0 := hA.main.frozen
  obtain ⟨F, hF⟩ : ∃ F, F = feedR src i c k r := ⟨_, rfl⟩
  rw [← hF]
  by_cases hk : k = 1 ∨ k = 2
  · have t1 : ((k : Int) == 1 || (k : Int) == 2) = true := by simp; omega
    by_cases h8 : r.start + 8 ≤ i
    · have e1 : feedR src i c k r = ({ r with fail := 9 }, true) := by unfold feedR; simp [hs, hk, h8]
      rw [e1] at hF
      subst hF
      have t8 : decide (8 ≤ (i : Int) - r.start) = true := by simp; omega
      have Hk := hA.fail 9
      clear e1 hs
      rcases hk with rfl | rfl
      all_goals
        clear t1
        go_enter Tryz.func143, Tryz.ntmps143
        go_wp2_with fail
        go_ret
        exact ⟨rfl, LTo.set (Fr.refl _ _) (.inl rfl) Hk⟩
    · have e1 : feedR src i c k r = (r, true) := by unfold feedR; simp [hs, hk, h8]
      rw [e1] at hF
      subst hF
      have t8 : decide (8 ≤ (i : Int) - r.start) = false := by simp; omega
      clear e1 hs
      rcases hk with rfl | rfl
      all_goals
        clear t1
        go_enter Tryz.func143, Tryz.ntmps143
        go_wp2_with fail
        go_ret
        exact ⟨rfl, LTo.refl h⟩
  · have e1 : feedR src i c k r = ({ pushR r (wordT r (src.extract r.start i)) with state := 0 }, false) := by unfold feedR; simp [hs, hk]
    rw [e1] at hF
    subst hF
    have t1 : ((k : Int) == 1) = false := by simp; omega
    have t2 : ((k : Int) == 2) = false := by simp; omega
    clear e1 hs hk
    go_enter Tryz.func143, Tryz.ntmps143
    go_wp2_with fail
    refine (word_any h hr _).mono ?_
    rintro e w1 ⟨rfl, bb1, ⟨all1, hA1⟩, f1, hb1⟩
    have d2 : w1.cell? ⟨x, 2, none⟩ = some (.int .i64 r.state) := hA1.main.cell (by omega)
    have z1 := hA1.main.frozen
    have Hk := hA1.state 0
    go_wp2_with fail
    go_ret
    exact ⟨rfl, LTo.set f1 hb1 Hk⟩
set_option maxRecDepth 100000 in
set_option maxHeartbeats 4000000 in
theorem feed2 (h : LRep w x bb r) (hp : FP r src i c k) (hs : r.state = 2) :
    Calls Tryz.prog 143 #[.pointer (some ⟨x, 0, none⟩), .string src, .int .i64 i, .int .u8 c, .int .i64 k] w fun e w' => e = .returned (.bool (feedR src i c k r).2) ∧ LTo w w' x bb (feedR src i c k r).1 := by
  obtain ⟨hr, hsz, hi, hst, hc, hv, hd⟩ := hp
  have hA := h
  obtain ⟨all, hA⟩ := hA
  have c2 : w.cell? ⟨x, 2, none⟩ = some (.int .i64 2) := by rw [hA.main.cell (by omega)]; simp [lcell, hs]
  have c3 : w.cell? ⟨x, 3, none⟩ = some (.int .i64 r.start) := hA.main.cell (by omega)
  have c4 : w.cell? ⟨x, 4, none⟩ = some (.int .u8 r.first) := hA.main.cell (by omega)
  have c5 : w.cell? ⟨x, 5, none⟩ = some (.int .i64 r.val) := hA.main.cell (by omega)
  have c6 : w.cell? ⟨x, 6, none⟩ = some (.int .i64 r.fail) := hA.main.cell (by omega)
  have z0 := hA.main.frozen
  obtain ⟨F, hF⟩ : ∃ F, F = feedR src i c k r := ⟨_, rfl⟩
  rw [← hF]
  by_cases hk : k = 2
  · subst hk
    obtain ⟨hc1, hc2⟩ := hd rfl
    obtain ⟨d, rfl⟩ : ∃ d, c = d + 48 := ⟨c - 48, by omega⟩
    have hd9 : d ≤ 9 := by omega
    by_cases hv2 : 9223372036854775807 < r.val * 10 + d
    · have e1 : feedR src i (d + 48) 2 r = ({ r with fail := 8 }, true) := by unfold feedR; simp [hs, hv2]
      rw [e1] at hF
      subst hF
      have Hk := hA.fail 8
      have hv3 : 922337203685477580 < r.val ∨ (r.val = 922337203685477580 ∧ 7 < d) := by omega
      clear e1 hs hd
      rcases hv3 with hv3 | ⟨hv3, hd7⟩
      · have t1 : decide ((922337203685477580 : Int) < (r.val : Int)) = true := by simp; omega
        clear hv3 hv2
        go_enter Tryz.func143, Tryz.ntmps143
        go_wp2_with fail
        go_ret
        exact ⟨rfl, LTo.set (Fr.refl _ _) (.inl rfl) Hk⟩
      · rw [hv3] at c5
        clear hv3 hv2
        go_enter Tryz.func143, Tryz.ntmps143
        go_wp2_with fail
        go_ret
        exact ⟨rfl, LTo.set (Fr.refl _ _) (.inl rfl) Hk⟩
    · have e1 : feedR src i (d + 48) 2 r = ({ r with val := r.val * 10 + d }, true) := by unfold feedR; simp [hs, hv2]
      rw [e1] at hF
      subst hF
      have Hk := hA.val (r.val * 10 + d)
      have hv3 : r.val < 922337203685477580 ∨ (r.val = 922337203685477580 ∧ d ≤ 7) := by omega
      clear e1 hs hd
      rcases hv3 with hv3 | ⟨hv3, hd7⟩
      · have t1 : decide ((922337203685477580 : Int) < (r.val : Int)) = false := by simp; omega
        have t2 : ((r.val : Int) == 922337203685477580) = false := by simp; omega
        go_enter Tryz.func143, Tryz.ntmps143
        go_wp2_with fail
        go_ret
        exact ⟨rfl, LTo.set (Fr.refl _ _) (.inl rfl) Hk⟩
      · rw [hv3] at c5
        have e9 : ((r.val * 10 + d : Nat) : Int) = 9223372036854775800 + d := by omega
        rw [e9] at Hk
        clear e9
        go_enter Tryz.func143, Tryz.ntmps143
        go_wp2_with fail
        go_ret
        exact ⟨rfl, LTo.set (Fr.refl _ _) (.inl rfl) Hk⟩
  · have e1 : feedR src i c k r = ({ pushR r ⟨2, r.start, r.val, ⟨#[]⟩⟩ with state := 0 }, false) := by unfold feedR; simp [hs, hk]
    rw [e1] at hF
    subst hF
    have t2 : ((k : Int) == 2) = false := by simp; omega
    clear e1 hs hk hd hv
    go_enter Tryz.func143, Tryz.ntmps143
    go_wp2_with fail
    refine wp_region_text (by kernel_rfl) (by kernel_rfl) ?_
    go_wp2_with fail
    refine (push_any (r := r) (x := x) (bb := bb) ⟨all, hA.drew⟩ hr ⟨2, r.start, r.val, ⟨#[]⟩⟩).mono ?_
    rintro e w1 ⟨rfl, bb1, ⟨all1, hA1⟩, f1', hb1⟩
    have f1 : Fr (lS x bb) w w1 := ((Fr.refl (lS x bb) w).drew).trans f1' (fun _ _ h => h)
    have d2 : w1.cell? ⟨x, 2, none⟩ = some (.int .i64 r.state) := hA1.main.cell (by omega)
    have z1 := hA1.main.frozen
    have Hk := hA1.state 0
    go_wp2_with fail
    refine ⟨by kernel_rfl, ?_⟩
    go_wp2_with fail
    go_ret
    exact ⟨rfl, LTo.set f1 hb1 Hk⟩

set_option maxRecDepth 100000 in
set_option maxHeartbeats 4000000 in
theorem feed3 (h : LRep w x bb r) (hp : FP r src i c k) (hs : r.state = 3) :
    Calls Tryz.prog 143 #[.pointer (some ⟨x, 0, none⟩), .string src, .int .i64 i, .int .u8 c, .int .i64 k] w fun e w' => e = .returned (.bool (feedR src i c k r).2) ∧ LTo w w' x bb (feedR src i c k r).1 := by
  obtain ⟨hr, hsz, hi, hst, hc, hv, hd⟩ := hp
  have hA := h
  obtain ⟨all, hA⟩ := hA
  have c2 : w.cell? ⟨x, 2, none⟩ = some (.int .i64 3) := by rw [hA.main.cell (by omega)]; simp [lcell, hs]
  have c3 : w.cell? ⟨x, 3, none⟩ = some (.int .i64 r.start) := hA.main.cell (by omega)
  have c4 : w.cell? ⟨x, 4, none⟩ = some (.int .u8 r.first) := hA.main.cell (by omega)
  have c5 : w.cell? ⟨x, 5, none⟩ = some (.int .i64 r.val) := hA.main.cell (by omega)
  have c6 : w.cell? ⟨x, 6, none⟩ = some (.int .i64 r.fail) := hA.main.cell (by omega)
  have z0 := hA.main.frozen
  obtain ⟨F, hF⟩ : ∃ F, F = feedR src i c k r := ⟨_, rfl⟩
  rw [← hF]
  clear hv hd
  by_cases hk : k ≠ 7 ∧ c ≠ 10
  · have e1 : feedR src i c k r = (r, true) := by unfold feedR; simp [hs, hk]
    rw [e1] at hF
    subst hF
    have t2 : ((k : Int) != 7) = true := by simp; omega
    have t3 : ((c : Int) != 10) = true := by simp; omega
    have t4 : (k : Int) ≠ 7 := by omega
    have t5 : (c : Int) ≠ 10 := by omega
    clear e1 hs hk
    go_enter Tryz.func143, Tryz.ntmps143
    go_wp2_with fail
    go_ret
    exact ⟨rfl, LTo.refl h⟩
  · have e1 : feedR src i c k r = ({ r with state := 0 }, false) := by unfold feedR; simp [hs, hk]
    rw [e1] at hF
    subst hF
    have Hk := hA.state 0
    have hk2 : k = 7 ∨ (k ≠ 7 ∧ c = 10) := by omega
    clear e1 hs hk
    rcases hk2 with rfl | ⟨hk, rfl⟩
    · go_enter Tryz.func143, Tryz.ntmps143
      go_wp2_with fail
      go_ret
      exact ⟨rfl, LTo.set (Fr.refl _ _) (.inl rfl) Hk⟩
    · have t2 : ((k : Int) != 7) = true := by simp; omega
      have t4 : (k : Int) ≠ 7 := by omega
      clear hk
      go_enter Tryz.func143, Tryz.ntmps143
      go_wp2_with fail
      go_ret
      exact ⟨rfl, LTo.set (Fr.refl _ _) (.inl rfl) Hk⟩

set_option maxRecDepth 100000 in
set_option maxHeartbeats 4000000 in
theorem feed4 (h : LRep w x bb r) (hp : FP r src i c k) (hs : r.state = 4) :
    Calls Tryz.prog 143 #[.pointer (some ⟨x, 0, none⟩), .string src, .int .i64 i, .int .u8 c, .int .i64 k] w fun e w' => e = .returned (.bool (feedR src i c k r).2) ∧ LTo w w' x bb (feedR src i c k r).1 := by
  obtain ⟨hr, hsz, hi, hst, hc, hv, hd⟩ := hp
  have hA := h
  obtain ⟨all, hA⟩ := hA
  have c2 : w.cell? ⟨x, 2, none⟩ = some (.int .i64 4) := by rw [hA.main.cell (by omega)]; simp [lcell, hs]
  have c3 : w.cell? ⟨x, 3, none⟩ = some (.int .i64 r.start) := hA.main.cell (by omega)
  have c4 : w.cell? ⟨x, 4, none⟩ = some (.int .u8 r.first) := hA.main.cell (by omega)
  have c5 : w.cell? ⟨x, 5, none⟩ = some (.int .i64 r.val) := hA.main.cell (by omega)
  have c6 : w.cell? ⟨x, 6, none⟩ = some (.int .i64 r.fail) := hA.main.cell (by omega)
  have z0 := hA.main.frozen
  obtain ⟨F, hF⟩ : ∃ F, F = feedR src i c k r := ⟨_, rfl⟩
  rw [← hF]
  clear hv hd
  by_cases ht : twinN r.first c = 0
  · by_cases hg : singleN r.first = 0
    · have e1 : feedR src i c k r = ({ r with fail := 7 }, true) := by unfold feedR; simp [hs, ht, hg]
      rw [e1] at hF
      subst hF
      have Hk := hA.fail 7
      have H1 : Hid _ := ht
      have H2 : Hid _ := hg
      clear e1 hs ht hg
      go_enter Tryz.func143, Tryz.ntmps143
      go_wp2_with fail
      refine (twin_any _ _ _).mono ?_
      rintro e w1 ⟨rfl, rfl⟩
      rw [H1.out]
      go_wp2_with fail
      refine (single_any _ _).mono ?_
      rintro e w2 ⟨rfl, rfl⟩
      rw [H2.out]
      go_wp2_with fail
      go_ret
      exact ⟨rfl, LTo.set (Fr.refl _ _) (.inl rfl) Hk⟩
    · obtain ⟨g, hgg⟩ : ∃ g, g = singleN r.first := ⟨_, rfl⟩
      have e1 : feedR src i c k r = ({ pushR r ⟨g, r.start, 0, ⟨#[]⟩⟩ with state := 0 }, false) := by unfold feedR; simp [hs, ht, hg, hgg]
      rw [e1] at hF
      subst hF
      rw [← hgg] at hg
      have H1 : Hid _ := ht
      have H2 : Hid _ := hgg
      have t1 : ((g : Int) == 0) = false := by simp; omega
      clear e1 hs ht hg hgg
      go_enter Tryz.func143, Tryz.ntmps143
      go_wp2_with fail
      refine (twin_any _ _ _).mono ?_
      rintro e w1 ⟨rfl, rfl⟩
      rw [H1.out]
      go_wp2_with fail
      refine (single_any _ _).mono ?_
      rintro e w2 ⟨rfl, rfl⟩
      rw [← H2.out]
      go_wp2_with fail
      refine (push_any h hr ⟨g, r.start, 0, ⟨#[]⟩⟩).mono ?_
      rintro e w1 ⟨rfl, bb1, ⟨all1, hA1⟩, f1, hb1⟩
      have d2 : w1.cell? ⟨x, 2, none⟩ = some (.int .i64 r.state) := hA1.main.cell (by omega)
      have z1 := hA1.main.frozen
      have Hk := hA1.state 0
      go_wp2_with fail
      go_ret
      exact ⟨rfl, LTo.set f1 hb1 Hk⟩
  · obtain ⟨g, hgg⟩ : ∃ g, g = twinN r.first c := ⟨_, rfl⟩
    have e1 : feedR src i c k r = ({ pushR r ⟨g, r.start, 0, ⟨#[]⟩⟩ with state := 0 }, true) := by unfold feedR; simp [hs, ht, hgg]
    rw [e1] at hF
    subst hF
    rw [← hgg] at ht
    have H2 : Hid _ := hgg
    have t1 : ((g : Int) != 0) = true := by simp; omega
    have t2 : (g : Int) ≠ 0 := by omega
    clear e1 hs ht hgg
    go_enter Tryz.func143, Tryz.ntmps143
    go_wp2_with fail
    refine (twin_any _ _ _).mono ?_
    rintro e w1 ⟨rfl, rfl⟩
    rw [← H2.out]
    go_wp2_with fail
    refine (push_any h hr ⟨g, r.start, 0, ⟨#[]⟩⟩).mono ?_
    rintro e w1 ⟨rfl, bb1, ⟨all1, hA1⟩, f1, hb1⟩
    have d2 : w1.cell? ⟨x, 2, none⟩ = some (.int .i64 r.state) := hA1.main.cell (by omega)
    have z1 := hA1.main.frozen
    have Hk := hA1.state 0
    go_wp2_with fail
    go_ret
    exact ⟨rfl, LTo.set f1 hb1 Hk⟩

set_option maxRecDepth 100000 in
set_option maxHeartbeats 4000000 in
theorem feed0 (h : LRep w x bb r) (hp : FP r src i c k) (hs : r.state = 0) :
    Calls Tryz.prog 143 #[.pointer (some ⟨x, 0, none⟩), .string src, .int .i64 i, .int .u8 c, .int .i64 k] w fun e w' => e = .returned (.bool (feedR src i c k r).2) ∧ LTo w w' x bb (feedR src i c k r).1 := by
  obtain ⟨hr, hsz, hi, hst, hc, hv, hd⟩ := hp
  have hA := h
  obtain ⟨all, hA⟩ := hA
  have c2 : w.cell? ⟨x, 2, none⟩ = some (.int .i64 0) := by rw [hA.main.cell (by omega)]; simp [lcell, hs]
  have c3 : w.cell? ⟨x, 3, none⟩ = some (.int .i64 r.start) := hA.main.cell (by omega)
  have c4 : w.cell? ⟨x, 4, none⟩ = some (.int .u8 r.first) := hA.main.cell (by omega)
  have c5 : w.cell? ⟨x, 5, none⟩ = some (.int .i64 r.val) := hA.main.cell (by omega)
  have c6 : w.cell? ⟨x, 6, none⟩ = some (.int .i64 r.fail) := hA.main.cell (by omega)
  have z0 := hA.main.frozen
  obtain ⟨F, hF⟩ : ∃ F, F = feedR src i c k r := ⟨_, rfl⟩
  rw [← hF]
  clear hv hd
  have e1 : feedR src i c k r = ({ r with state := 0 }, false) := by unfold feedR; simp [hs]
  rw [e1] at hF
  subst hF
  have Hk := hA.state 0
  clear e1 hs
  go_enter Tryz.func143, Tryz.ntmps143
  go_wp2_with fail
  go_ret
  exact ⟨rfl, LTo.set (Fr.refl _ _) (.inl rfl) Hk⟩

theorem feed_any (h : LRep w x bb r) (hp : FP r src i c k) (hs : r.state < 5) :
    Calls Tryz.prog 143 #[.pointer (some ⟨x, 0, none⟩), .string src, .int .i64 i, .int .u8 c, .int .i64 k] w fun e w' => e = .returned (.bool (feedR src i c k r).2) ∧ LTo w w' x bb (feedR src i c k r).1 := by
  rcases (show r.state = 0 ∨ r.state = 1 ∨ r.state = 2 ∨ r.state = 3 ∨ r.state = 4 by omega) with e | e | e | e | e
  · exact feed0 h hp e
  · exact feed1 h hp e
  · exact feed2 h hp e
  · exact feed3 h hp e
  · exact feed4 h hp e
end
end Go.Proofs.Qxb6500277aGreat
