import Derived.Test.Qxb6500283aGreatPkIn
namespace Go.Proofs.Qxb6500283aGreat
open Go Go.RowKit


def okInB (m pc : Nat) (i : In) : Bool :=
  if i.op = 0 ∨ i.op = 4 ∨ i.op = 5 then decide (pc + 1 < m)
  else if i.op = 3 then decide (pc + 1 < m ∧ 2 ≤ i.x ∧ i.x < 8)
  else if i.op = 1 then decide (0 ≤ i.x ∧ i.x < m ∧ 0 ≤ i.y ∧ i.y < m)
  else if i.op = 2 then decide (0 ≤ i.x ∧ i.x < m)
  else decide (i.op = 6)
theorem okInB_iff (m pc : Nat) (i : In) : okInB m pc i = true ↔ okIn m pc i := by
  unfold okInB okIn
  split
  · simp; omega
  · split
    · simp; omega
    · split
      · simp; omega
      · split
        · simp; omega
        · simp; omega
def progOK (p : List In) : Bool := decide (1 ≤ p.length) && decide (p.length ≤ 64) && (List.range p.length).all fun pc => match p[pc]? with
  | some i => okInB p.length pc i
  | none => false
theorem progOK_iff (p : List In) : progOK p = true ↔ OkProg p := by
  unfold progOK
  simp only [Bool.and_eq_true, decide_eq_true_eq, List.all_eq_true, List.mem_range]
  constructor
  · rintro ⟨⟨h1, h2⟩, h3⟩
    refine ⟨h1, h2, fun pc h => ?_⟩
    have := h3 pc h
    simp only [h, List.getElem?_eq_getElem] at this
    exact (okInB_iff _ _ _).1 this
  · rintro ⟨h1, h2, h3⟩
    refine ⟨⟨h1, h2⟩, fun pc h => ?_⟩
    simp only [h, List.getElem?_eq_getElem]
    exact (okInB_iff _ _ _).2 (h3 pc h)
def noCapsV : Value := .agg #[.int .i64 (-1), .int .i64 (-1), .int .i64 (-1), .int .i64 (-1), .int .i64 (-1), .int .i64 (-1), .int .i64 (-1), .int .i64 (-1)]
set_option maxHeartbeats 1000000 in
theorem nocapsK_any (w : World) : Calls Tryz.prog 53 #[] w fun e w' => e = .returned noCapsV ∧ Fr (fun _ => False) w w' := by
  go_enter Tryz.func53, Tryz.ntmps53
  go_wp2
  refine wp_loop_rounds 9 ?_
  repeat any_goals (rw [rounds_succ]; go_wp2)
  exact bodyPost_ret (v := noCapsV) (by simp [results, Tryz.results53, go_sem, noCapsV]) rfl ⟨rfl, ((Fr.refl _ _).alloc _).alloc _⟩
def foundK (err pos : Int) (ok : Bool) (c : Nat → Int) : Value :=
  .agg #[.int .i64 err, .int .i64 pos, .bool ok, .int .i64 (c 0), .int .i64 (c 1), .int .i64 (c 2), .int .i64 (c 3), .int .i64 (c 4), .int .i64 (c 5), .int .i64 (c 6), .int .i64 (c 7)]
set_option maxHeartbeats 1000000 in
theorem refusedK_any (err pos : Int) (w : World) : Calls Tryz.prog 39 #[.int .i64 err, .int .i64 pos] w fun e w' => e = .returned (foundK err pos false fun _ => -1) ∧ Fr (fun _ => False) w w' := by
  go_enter Tryz.func39, Tryz.ntmps39
  go_wp2_with fail
  refine (nocapsK_any _).mono ?_
  rintro e w1 ⟨rfl, f1⟩
  have hc := f1.newCell (by simp)
  have hf := f1.newFrozen (by simp)
  unfold noCapsV
  go_wp2_with fail
  refine bodyPost_ret (v := foundK err pos false fun _ => -1) (by simp [results, Tryz.results39, go_sem, hc, foundK]) rfl ⟨rfl, ?_⟩
  repeat' refine Fr.setNew ?_ (Nat.le_refl _)
  exact ((Fr.refl _ _).alloc _).trans f1 (fun _ _ h => h)
set_option maxHeartbeats 1000000 in
theorem nothingK_any (w : World) : Calls Tryz.prog 73 #[] w fun e w' => e = .returned (foundK 0 0 false fun _ => -1) ∧ Fr (fun _ => False) w w' := by
  go_enter Tryz.func73, Tryz.ntmps73
  go_wp2_with fail
  refine (nocapsK_any _).mono ?_
  rintro e w1 ⟨rfl, f1⟩
  have hc := f1.newCell (by simp)
  have hf := f1.newFrozen (by simp)
  unfold noCapsV
  go_wp2_with fail
  refine bodyPost_ret (v := foundK 0 0 false fun _ => -1) (by simp [results, Tryz.results73, go_sem, hc, foundK]) rfl ⟨rfl, ?_⟩
  repeat' refine Fr.setNew ?_ (Nat.le_refl _)
  exact ((Fr.refl _ _).alloc _).trans f1 (fun _ _ h => h)

theorem retF {b : Bool} (h : b = false) : Ending.returned (.bool false) = .returned (.bool b) := by rw [h]
theorem progOK_len (p : List In) (h : ¬ (1 ≤ p.length ∧ p.length ≤ 64)) : progOK p = false := by
  cases hq : progOK p with
  | false => rfl
  | true => have := (progOK_iff p).1 hq; exact absurd ⟨this.pos, this.max⟩ h
theorem progOK_at (p : List In) (k : Nat) (hk : k < p.length) (h : ¬ okIn p.length k p[k]) : progOK p = false := by
  cases hq : progOK p with
  | false => rfl
  | true => exact absurd (((progOK_iff p).1 hq).all k hk) h
set_option maxRecDepth 100000 in
set_option maxHeartbeats 2000000 in
theorem progok_any {w : World} (p : List In) (pb cap : Nat) (hp : PAt w pb p) (hlen : p.length < 1000000) :
    Calls Tryz.prog 70 #[.slice (some ⟨pb, 0, none⟩) p.length cap] w fun e w' => e = .returned (.bool (progOK p)) ∧ Fr (fun _ => False) w w' := by
  by_cases hl : 1 ≤ p.length ∧ p.length ≤ 64
  · obtain ⟨hl1, hl2⟩ := hl
    go_enter Tryz.func70, Tryz.ntmps70
    go_wp2_with fail
    go_loopg [3] p.length (fun g kv wr => ∃ k : Nat, kv = .int .i64 k ∧ k + g = p.length ∧ (∀ j (h : j < p.length), j < k → okIn p.length j p[j]) ∧ Fr (fun _ => False) w wr)
    case atStart => exact ⟨0, rfl, by omega, fun j h h' => by omega, Fr.refl _ _⟩
    case round =>
      obtain ⟨k, rfl, hkg, hall, hfr⟩ := hrel
      have Hall : Hid _ := hall
      have Hkg : Hid _ := hkg
      have hk64 : k ≤ 64 := by omega
      by_cases hlt : k < p.length
      · have hp1 := hp.frame hfr (by simp)
        have i0 := hp1 k hlt 0 (by omega)
        have i1 := hp1 k hlt 1 (by omega)
        have i2 := hp1 k hlt 2 (by omega)
        have i3 := hp1 k hlt 3 (by omega)
        have i4 := hp1 k hlt 4 (by omega)
        have i5 := hp1 k hlt 5 (by omega)
        have i6 := hp1 k hlt 6 (by omega)
        simp only [inCell, Nat.add_zero] at i0 i1 i2 i3 i4 i5 i6
        have hkg' : k + gk = p.length := hkg
        clear hall hkg
        have Hnext : Hid (okIn p.length k p[k] → ∀ j (h : j < p.length), j < k + 1 → okIn p.length j p[j]) := fun hk j h hj => by
          rcases Nat.lt_or_ge j k with h' | h'
          · exact Hall.out j h h'
          · have : j = k := by omega
            subst this; exact hk
        have hcase : p[k].op = 0 ∨ p[k].op = 4 ∨ p[k].op = 5 ∨ p[k].op = 3 ∨ p[k].op = 1 ∨ p[k].op = 2 ∨ p[k].op = 6 ∨ (p[k].op ≠ 0 ∧ p[k].op ≠ 4 ∧ p[k].op ≠ 5 ∧ p[k].op ≠ 3 ∧ p[k].op ≠ 1 ∧ p[k].op ≠ 2 ∧ p[k].op ≠ 6) := by omega
        rcases hcase with o | o | o | o | o | o | o | o
        case inr.inr.inr.inr.inr.inr.inr =>
          have o0 : (p[k].op == 0) = false := by simpa using o.1
          have o4 : (p[k].op == 4) = false := by simpa using o.2.1
          have o5 : (p[k].op == 5) = false := by simpa using o.2.2.1
          have o3 : (p[k].op == 3) = false := by simpa using o.2.2.2.1
          have o1 : (p[k].op == 1) = false := by simpa using o.2.2.2.2.1
          have o2 : (p[k].op == 2) = false := by simpa using o.2.2.2.2.2.1
          have o6 : (p[k].op == 6) = false := by simpa using o.2.2.2.2.2.2
          have Ho : Hid _ := o
          clear o
          go_wp2_with fail
          go_ret
          refine ⟨?_, hfr.alloc _⟩
          have o := Ho.out
          exact retF (progOK_at p k hlt (by unfold okIn; omega))
        all_goals
          rw [o] at i0
          have Ho : Hid _ := o
          clear o
          go_wp2_with fail
        all_goals
          have o := Ho.out
          first
            | (go_ret
               refine ⟨?_, hfr.alloc _⟩
               exact retF (progOK_at p k hlt (by unfold okIn; omega)))
            | (go_roundg (gk - 1)
               case measure => omega
               case rel => exact ⟨k + 1, by simp, by omega, Hnext.out (by unfold okIn; omega), hfr.alloc _⟩)
      · clear hall hkg
        go_wp2_with fail
        go_ret
        refine ⟨?_, hfr⟩
        have : progOK p = true := (progOK_iff p).2 ⟨hl1, hl2, fun pc h => Hall.out pc h (by omega)⟩
        rw [this]; rfl
  · have hres := progOK_len p hl
    rw [hres]
    clear hres
    go_enter Tryz.func70, Tryz.ntmps70
    go_wp2
    all_goals first | (exfalso; omega) | (go_ret; exact ⟨rfl, Fr.refl _ _⟩)
end Go.Proofs.Qxb6500283aGreat
