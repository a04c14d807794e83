import Derived.Test.Qxb6500279aW17
namespace Go.Proofs.Qxb6500279a
open Go Go.RowKit

theorem LV.sl {w : World} {v : Value} {ts : List Tok} (h : LV w v ts) : ∃ a, v = .slice a ts.length ts.length := by
  rcases h with ⟨rfl, rfl⟩ | ⟨b, rfl, _⟩
  · exact ⟨none, rfl⟩
  · exact ⟨_, rfl⟩
set_option maxRecDepth 100000 in
set_option maxHeartbeats 4000000 in
theorem sameToks_any {w : World} {v1 v2 : Value} {ts : List Tok} (h1 : LV w v1 ts) (h2 : LV w v2 ts) (hl : ts.length ≤ 8192) (err pos : Int) :
    Calls Try.prog 28 #[toksV v1 err pos, toksV v2 err pos] w fun e w' => e = .returned (.bool true) ∧ Fr (fun _ => False) w w' := by
  unfold toksV
  obtain ⟨a1, rfl⟩ := h1.sl
  obtain ⟨a2, rfl⟩ := h2.sl
  have f2 := ((Fr.refl (fun _ => False) w).alloc (.cells #[.slice a1 ts.length ts.length, .int .i64 err, .int .i64 pos] 32)).alloc (.cells #[.slice a2 ts.length ts.length, .int .i64 err, .int .i64 pos] 32)
  have k1 := h1.frame f2 (fun _ _ h => h)
  have k2 := h2.frame f2 (fun _ _ h => h)
  go_enter Try.func28, Try.ntmps28
  go_wp2_with fail
  refine (sameList_any k1 k2 hl).mono ?_
  rintro e w3 ⟨rfl, f3⟩
  go_wp2_with fail
  go_ret
  exact ⟨rfl, f2.trans f3 (fun _ _ h => h)⟩
set_option maxRecDepth 100000 in
set_option maxHeartbeats 4000000 in
theorem nilIfEmpty_any {w : World} {v : Value} {ts : List Tok} (h : LV w v ts) : Calls Try.prog 29 #[v] w fun e w' => e = .returned (.bool true) ∧ w' = w := by
  rcases h with ⟨rfl, rfl⟩ | ⟨b, rfl, _, hp⟩
  · have e0 : ∀ w, (binOp .eql 29 (.slice none 0 0) (.slice none 0 0)).run Try.prog w = .ok (.bool true) w := fun w => run_eql_nil_slice w 29 36 none 0 0 0 0 Try.underlying29
    go_enter Try.func29, Try.ntmps29
    go_wp2_with fail
    go_ret
    exact ⟨rfl, rfl⟩
  · have t1 : decide ((0 : Int) < (ts.length : Int)) = true := by simp; omega
    go_enter Try.func29, Try.ntmps29
    go_wp2_with fail
    go_ret
    exact ⟨rfl, rfl⟩
set_option maxRecDepth 100000 in
set_option maxHeartbeats 4000000 in
theorem exact_any {w : World} {v : Value} {ts : List Tok} (h : LV w v ts) : Calls Try.prog 30 #[v] w fun e w' => e = .returned (.bool true) ∧ w' = w := by
  obtain ⟨a, rfl⟩ := h.sl
  go_enter Try.func30, Try.ntmps30
  go_wp2_with fail
  go_ret
  exact ⟨rfl, rfl⟩

def stamps (n : Nat) : List Tok := List.replicate n stampT
/-- The first i of the tokens are stamped over. -/
def half (ts : List Tok) (i : Nat) : List Tok := List.replicate i stampT ++ ts.drop i
theorem half_length (ts : List Tok) (i : Nat) (h : i ≤ ts.length) : (half ts i).length = ts.length := by simp [half]; omega
theorem half_zero (ts : List Tok) : half ts 0 = ts := by simp [half]
theorem half_all (ts : List Tok) : half ts ts.length = stamps ts.length := by simp [half, stamps]
theorem half_succ (ts : List Tok) (i : Nat) (h : i < ts.length) : half ts (i + 1) = (half ts i).set i stampT := by
  unfold half
  rw [List.set_append_right _ _ (by simp)]
  simp only [List.length_replicate, Nat.sub_self]
  rw [List.drop_eq_getElem_cons h, List.set_cons_zero, List.replicate_succ']
  simp
theorem bufF_set (ts : List Tok) (i : Nat) (t : Tok) (h : i < ts.length) : ∀ o, o < ts.length * 4 →
    upd (upd (upd (upd (bufF ts) (i * 4) (.int .i64 t.kind)) (i * 4 + 1) (.int .i64 t.pos)) (i * 4 + 2) (.int .i64 t.val)) (i * 4 + 3) (.string t.text) o = bufF (ts.set i t) o := by
  intro o ho
  have e1 : o = o / 4 * 4 + o % 4 := by omega
  have h4 : o % 4 < 4 := by omega
  generalize ha : o / 4 = a at e1
  generalize hj : o % 4 = j at e1 h4
  subst e1
  rw [bufF_at _ _ _ h4]
  by_cases hab : a = i
  · subst hab
    have : (ts.set a t).getD a zeroTok = t := by simp [h]
    rw [this]
    rcases (show j = 0 ∨ j = 1 ∨ j = 2 ∨ j = 3 by omega) with rfl | rfl | rfl | rfl <;> simp [upd, tokCell]
  · have : (ts.set i t).getD a zeroTok = ts.getD a zeroTok := by simp [Ne.symm hab]
    rw [this]
    simp only [upd, show a * 4 + j ≠ i * 4 + 3 by omega, show a * 4 + j ≠ i * 4 + 2 by omega, show a * 4 + j ≠ i * 4 + 1 by omega, show a * 4 + j ≠ i * 4 by omega, if_false]
    exact bufF_at ts a j h4
set_option maxRecDepth 100000 in
set_option maxHeartbeats 4000000 in
theorem spoil_any {w : World} {v : Value} {ts : List Tok} (h : LV w v ts) (hl : ts.length ≤ 8192) :
    Calls Try.prog 32 #[v] w fun e w' => e = .returned (.tuple #[]) ∧ LV w' v (stamps ts.length) ∧ Fr (isBlk v) w w' := by
  rcases h with ⟨rfl, rfl⟩ | ⟨b, rfl, ht, hp⟩
  · go_enter Try.func32, Try.ntmps32
    go_wp2_with fail
    refine wp_loop_rounds 1 ?_
    rw [rounds_succ]
    go_wp2_with fail
    go_end0
    exact ⟨rfl, .inl ⟨rfl, rfl⟩, Fr.refl _ _⟩
  · go_enter Try.func32, Try.ntmps32
    go_wp2_with fail
    go_loopg [2] ts.length (fun g iv wr => ∃ i : Nat, iv = .int .i64 i ∧ i + g = ts.length ∧ Blk wr b (ts.length * 4) (bufF (half ts i)) ∧ Fr (fun c => c = b) w wr)
    case atStart => exact ⟨0, rfl, by omega, by rw [half_zero]; exact ht, Fr.refl _ _⟩
    case round =>
      obtain ⟨i, rfl, hg, hb, hfr⟩ := hrel
      have hg' : i + gk = ts.length := hg
      clear hg
      by_cases hlt : i < ts.length
      · go_wp2_with fail
        refine (stamp_any _).mono ?_
        rintro e w3 ⟨rfl, f3⟩
        unfold tokV
        have hb3 := hb.frame f3 (by simp)
        have a0 := hb3.cell (o := i * 4) (by omega)
        have a1 := hb3.cell (o := i * 4 + 1) (by omega)
        have a2 := hb3.cell (o := i * 4 + 2) (by omega)
        have a3 := hb3.cell (o := i * 4 + 3) (by omega)
        have z3 := hb3.frozen
        have key := ((((hb3.set (i * 4) (.int .i64 stampT.kind)).set (i * 4 + 1) (.int .i64 stampT.pos)).set (i * 4 + 2) (.int .i64 stampT.val)).set (i * 4 + 3) (.string stampT.text)).congr (g := bufF ((half ts i).set i stampT)) (fun o ho => bufF_set _ _ _ (by rw [half_length _ _ (by omega)]; exact hlt) o (by rw [half_length _ _ (by omega)]; exact ho))
        rw [← half_succ _ _ hlt] at key
        have Hk : Hid _ := key
        clear key
        go_wp2_with fail
        go_roundg (gk - 1)
        case measure => omega
        case rel =>
          refine ⟨i + 1, by simp, by omega, Hk.out, ?_⟩
          iterate 4 refine Fr.setC ?_ _ _ _ (fun _ => rfl)
          exact hfr.trans f3 (fun _ _ h => h.elim)
      · have hie : i = ts.length := by omega
        subst hie
        go_wp2_with fail
        go_end0
        rw [half_all] at hb
        refine ⟨rfl, .inr ⟨b, by simp [stamps], by unfold TokAt; simpa [stamps] using hb, by simpa [stamps] using hp⟩, hfr.mono (fun c _ e => by subst e; exact ⟨_, _, rfl⟩)⟩
set_option maxRecDepth 100000 in
set_option maxHeartbeats 4000000 in
theorem spoilt_any {w : World} {v : Value} {n : Nat} (h : LV w v (stamps n)) (hl : n ≤ 8192) :
    Calls Try.prog 44 #[v] w fun e w' => e = .returned (.bool true) ∧ Fr (fun _ => False) w w' := by
  rcases h with ⟨rfl, he⟩ | ⟨b, rfl, ht, hp⟩
  · go_enter Try.func44, Try.ntmps44
    go_wp2_with fail
    refine (stamp_any _).mono ?_
    rintro e w3 ⟨rfl, f3⟩
    unfold tokV
    go_wp2_with fail
    refine wp_loop_rounds 1 ?_
    rw [rounds_succ]
    go_wp2_with fail
    go_ret
    exact ⟨rfl, f3.alloc _⟩
  · have hz : (stamps n).length = n := by simp [stamps]
    rw [hz]
    have Hz : Hid _ := hz
    clear hz
    go_enter Try.func44, Try.ntmps44
    go_wp2_with fail
    refine (stamp_any _).mono ?_
    rintro e w3 ⟨rfl, f3⟩
    unfold tokV
    go_wp2_with fail
    go_loopg [4] n (fun g iv wr => ∃ i : Nat, iv = .int .i64 i ∧ i + g = n ∧ Fr (fun _ => False) (w3.alloc (.cells #[.int .i64 stampT.kind, .int .i64 stampT.pos, .int .i64 stampT.val, .string stampT.text] 36)) wr)
    case atStart => exact ⟨0, rfl, by omega, Fr.refl _ _⟩
    case round =>
      obtain ⟨i, rfl, hg, hfr⟩ := hrel
      have hg' : i + gk = n := hg
      clear hg
      by_cases hlt : i < n
      · have fall : Fr (fun _ => False) w wr := (f3.alloc _).trans hfr (fun _ _ h => h)
        have k1 : TokAt wr b (stamps n) := ht.frame fall (by simp)
        have hi2 : i < (stamps n).length := by rw [Hz.out]; exact hlt
        have eT : (stamps n)[i] = stampT := by simp [stamps]
        have a0 := k1.tok i hi2 0 (by omega)
        have a1 := k1.tok i hi2 1 (by omega)
        have a2 := k1.tok i hi2 2 (by omega)
        have a3 := k1.tok i hi2 3 (by omega)
        rw [eT] at a0 a1 a2 a3
        simp only [tokCell, Nat.add_zero] at a0 a1 a2 a3
        have hq := fun o => hfr.newCell (by simp) o
        have q0 : wr.cell? ⟨w3.heap.size, 0, none⟩ = some (.int .i64 stampT.kind) := hq 0
        have q1 : wr.cell? ⟨w3.heap.size, 1, none⟩ = some (.int .i64 stampT.pos) := hq 1
        have q2 : wr.cell? ⟨w3.heap.size, 2, none⟩ = some (.int .i64 stampT.val) := hq 2
        have q3 : wr.cell? ⟨w3.heap.size, 3, none⟩ = some (.string stampT.text) := hq 3
        clear hq
        go_wp2_with fail
        refine wp_region_text (by kernel_rfl) (by kernel_rfl) ?_
        go_wp2_with fail
        refine (sameTok_any stampT _).mono ?_
        rintro e w4 ⟨rfl, f4⟩
        go_wp2_with fail
        refine ⟨by kernel_rfl, ?_⟩
        go_wp2_with fail
        go_roundg (gk - 1)
        case measure => omega
        case rel => exact ⟨i + 1, by simp, by omega, hfr.drew.trans f4 (fun _ _ h => h)⟩
      · go_wp2_with fail
        go_ret
        exact ⟨rfl, (f3.alloc _).trans hfr (fun _ _ h => h)⟩
end Go.Proofs.Qxb6500279a
