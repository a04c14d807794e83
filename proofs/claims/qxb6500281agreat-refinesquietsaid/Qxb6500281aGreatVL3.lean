/- The law: answers are compared; Foot; Join; copies. -/
import Derived.Test.Qxb6500281aGreatVL2
import Derived.Test.Qxb6500281aGreatVR35
import Derived.Laws.IdiomStrings
namespace Go.Proofs.Qxb6500281aGreat
open Go Go.RowKit

theorem KiAt.one {w : World} {v : Value} {l : List Int} (h : KiAt w v l) : ∃ a n k, v = .slice a n k := by
  obtain ⟨a, k, e, _⟩ := h.sl
  exact ⟨_, _, _, e⟩
set_option maxRecDepth 100000 in
set_option maxHeartbeats 1000000 in
theorem sameResultF {w : World} {er po en rt fu : Int} {v1 v2 : Value} {L : List Int} (h1 : KiAt w v1 L) (h2 : KiAt w v2 L) (hl : L.length ≤ 2000) :
    Calls Tryz.prog 13 #[resV er po en rt v1 fu, resV er po en rt v2 fu] w fun e w' => e = .returned (.bool true) ∧ Fr (fun _ => False) w w' := by
  have hS : ∀ w0, Fr (fun _ => False) w w0 → Calls Tryz.prog 24 #[v1, v2] w0 fun v w' => v = .returned (.bool true) ∧ Fr (fun _ => False) w0 w' := fun w0 k => sameInts (h1.frame k (fun _ _ h => h)) (h2.frame k (fun _ _ h => h)) hl
  obtain ⟨a1, n1, k1, e1⟩ := h1.one
  obtain ⟨a2, n2, k2, e2⟩ := h2.one
  subst e1 e2
  have B1 := Blk.new w #[.int .i64 er, .int .i64 po, .int .i64 en, .int .i64 rt, .slice a1 n1 k1, .int .i64 fu] 38 (c6 (.int .i64 er) (.int .i64 po) (.int .i64 en) (.int .i64 rt) (.slice a1 n1 k1) (.int .i64 fu)) (fun o ho => by
    rcases lt6 (show o < 6 from ho) with rfl | rfl | rfl | rfl | rfl | rfl <;> rfl)
  obtain ⟨w1, hw1⟩ : ∃ w1, w1 = w.alloc (.cells #[.int .i64 er, .int .i64 po, .int .i64 en, .int .i64 rt, .slice a1 n1 k1, .int .i64 fu] 38) := ⟨_, rfl⟩
  have f1 : Fr (fun _ => False) w w1 := by rw [hw1]; exact (Fr.refl _ _).alloc _
  rw [← hw1] at B1
  have B2 := Blk.new w1 #[.int .i64 er, .int .i64 po, .int .i64 en, .int .i64 rt, .slice a2 n2 k2, .int .i64 fu] 38 (c6 (.int .i64 er) (.int .i64 po) (.int .i64 en) (.int .i64 rt) (.slice a2 n2 k2) (.int .i64 fu)) (fun o ho => by
    rcases lt6 (show o < 6 from ho) with rfl | rfl | rfl | rfl | rfl | rfl <;> rfl)
  obtain ⟨w2, hw2⟩ : ∃ w2, w2 = w1.alloc (.cells #[.int .i64 er, .int .i64 po, .int .i64 en, .int .i64 rt, .slice a2 n2 k2, .int .i64 fu] 38) := ⟨_, rfl⟩
  have f2 : Fr (fun _ => False) w1 w2 := by rw [hw2]; exact (Fr.refl _ _).alloc _
  rw [← hw2] at B2
  have hs1 : w1.heap.size = w.heap.size + 1 := by rw [hw1]; simp [World.size_alloc]
  rw [hs1] at B2
  have hB : ∀ w0, Fr (fun _ => False) w2 w0 → Blk w0 w.heap.size 6 (c6 (.int .i64 er) (.int .i64 po) (.int .i64 en) (.int .i64 rt) (.slice a1 n1 k1) (.int .i64 fu)) ∧ Blk w0 (w.heap.size + 1) 6 (c6 (.int .i64 er) (.int .i64 po) (.int .i64 en) (.int .i64 rt) (.slice a2 n2 k2) (.int .i64 fu)) := fun w0 k => ⟨(B1.frame f2 (fun h => h)).frame k (fun h => h), B2.frame k (fun h => h)⟩
  obtain ⟨b1, b2⟩ := hB w2 (Fr.refl _ _)
  have p0 := b1.cell (o := 0) (by omega)
  have p1 := b1.cell (o := 1) (by omega)
  have p2 := b1.cell (o := 2) (by omega)
  have p3 := b1.cell (o := 3) (by omega)
  have p4 := b1.cell (o := 4) (by omega)
  have q0 := b2.cell (o := 0) (by omega)
  have q1 := b2.cell (o := 1) (by omega)
  have q2 := b2.cell (o := 2) (by omega)
  have q3 := b2.cell (o := 3) (by omega)
  have q4 := b2.cell (o := 4) (by omega)
  simp only [c6] at p0 p1 p2 p3 p4 q0 q1 q2 q3 q4
  have l1 := b1.lt
  have l2 := b2.lt
  have HB : Hid _ := hB
  have HF : Hid _ := f1.trans f2 (fun _ _ h => h)
  have y1 : (er == er) = true := by simp
  have y2 : (po == po) = true := by simp
  have y3 : (en == en) = true := by simp
  have y4 : (rt == rt) = true := by simp
  have y5 : (fu == fu) = true := by simp
  have hS2 := hS w2 HF.out
  clear b1 b2 B1 B2 hB f1 f2 h1 h2 hS
  unfold resV
  rw [hw2, hw1] at p0 p1 p2 p3 p4 q0 q1 q2 q3 q4 l1 l2 hS2
  go_enter Tryz.func13, Tryz.ntmps13
  go_wp2_with fail
  refine hS2.mono ?_
  rintro v w3 ⟨rfl, f3⟩
  rw [← hw1, ← hw2] at f3
  obtain ⟨b1, b2⟩ := HB.out w3 f3
  have p5 := b1.cell (o := 5) (by omega)
  have q5 := b2.cell (o := 5) (by omega)
  simp only [c6] at p5 q5
  have m1 := b1.lt
  have m2 := b2.lt
  clear b1 b2 p0 p1 p2 p3 p4 q0 q1 q2 q3 q4 l1 l2 hS2
  go_wp2_with fail
  go_ret
  exact ⟨by simp, HF.out.trans f3 (fun _ _ h => h)⟩
set_option maxRecDepth 100000 in
set_option maxHeartbeats 1000000 in
/-- The foot stands. -/
theorem footF {w : World} {er po en rt fu fuel : Int} {v : Value} {L : List Int} (h : KiAt w v L) (hf : (er ≠ 0 → en = 0 ∧ rt = 0 ∧ L = [] ∧ fu = fuel) ∧ (er = 0 → fuel ≤ 0 → (en = 22 ∨ en = 24) ∧ rt = 0 ∧ L = [] ∧ fu = fuel)) :
    Calls Tryz.prog 28 #[resV er po en rt v fu, .int .i64 fuel] w fun e w' => e = .returned (.bool true) ∧ Fr (fun _ => False) w w' := by
  obtain ⟨a1, k1, e1, _⟩ := h.sl
  subst e1
  obtain ⟨hf1, hf2⟩ := hf
  have B1 := Blk.new w #[.int .i64 er, .int .i64 po, .int .i64 en, .int .i64 rt, .slice a1 L.length k1, .int .i64 fu] 38 (c6 (.int .i64 er) (.int .i64 po) (.int .i64 en) (.int .i64 rt) (.slice a1 L.length k1) (.int .i64 fu)) (fun o ho => by
    rcases lt6 (show o < 6 from ho) with rfl | rfl | rfl | rfl | rfl | rfl <;> rfl)
  have kA := (Fr.refl (fun _ => False) w).alloc (.cells #[.int .i64 er, .int .i64 po, .int .i64 en, .int .i64 rt, .slice a1 L.length k1, .int .i64 fu] 38)
  have p0 := B1.cell (o := 0) (by simp)
  have p2 := B1.cell (o := 2) (by simp)
  have p3 := B1.cell (o := 3) (by simp)
  have p4 := B1.cell (o := 4) (by simp)
  have p5 := B1.cell (o := 5) (by simp)
  simp only [c6] at p0 p2 p3 p4 p5
  have l1 := B1.lt
  have HK : Hid _ := kA
  clear B1 kA h
  unfold resV
  by_cases h0 : er = 0
  · subst h0
    by_cases hp : fuel ≤ 0
    · obtain ⟨hen, rfl, rfl, rfl⟩ := hf2 rfl hp
      simp only [List.length_nil] at p4
      have y1 : decide (fu > 0) = false := decide_eq_false (by omega)
      have y2 : decide (0 < fu) = false := decide_eq_false (by omega)
      have y3 : (fu == fu) = true := by simp
      clear hf1 hf2
      rcases hen with rfl | rfl
      · go_enter Tryz.func28, Tryz.ntmps28
        go_wp2_with fail
        go_ret
        exact ⟨by simp, HK.out⟩
      · go_enter Tryz.func28, Tryz.ntmps28
        go_wp2_with fail
        go_ret
        exact ⟨by simp, HK.out⟩
    · have y1 : decide (fuel > 0) = true := decide_eq_true (by omega)
      have y2 : decide (0 < fuel) = true := decide_eq_true (by omega)
      clear hf1 hf2
      go_enter Tryz.func28, Tryz.ntmps28
      go_wp2_with fail
      go_ret
      exact ⟨rfl, HK.out⟩
  · obtain ⟨rfl, rfl, rfl, rfl⟩ := hf1 h0
    simp only [List.length_nil] at p4
    have y1 : (er != 0) = true := by simpa using h0
    have y3 : (fu == fu) = true := by simp
    clear hf1 hf2
    go_enter Tryz.func28, Tryz.ntmps28
    go_wp2_with fail
    go_ret
    exact ⟨by simp, HK.out⟩
set_option maxRecDepth 100000 in
set_option maxHeartbeats 1000000 in
theorem joinF {w : World} (s t : ByteArray) (hs : s.size ≤ 4097) (_ht : t.size ≤ 9223372036854775807) : Calls Tryz.prog 11 #[.string s, .string t, .int .i64 4096] w fun e w' => (∃ u : ByteArray, e = .returned (.string u) ∧ u.size ≤ 4097) ∧ w' = w := by
  by_cases h1 : s.size = 4097
  · have y1 : decide ((4097 : Int) - (s.size : Int) ≤ 0) = true := decide_eq_true (by omega)
    go_enter Tryz.func11, Tryz.ntmps11
    go_wp2_with fail
    go_ret
    exact ⟨⟨_, rfl, hs⟩, rfl⟩
  · have y1 : decide ((4097 : Int) - (s.size : Int) ≤ 0) = false := decide_eq_false (by omega)
    by_cases h2 : 4097 - s.size < t.size
    · have y2 : decide ((t.size : Int) > (4097 : Int) - (s.size : Int)) = true := decide_eq_true (by omega)
      have y3 : decide ((4097 : Int) - (s.size : Int) < (t.size : Int)) = true := decide_eq_true (by omega)
      go_enter Tryz.func11, Tryz.ntmps11
      go_wp2_with fail
      go_ret
      exact ⟨⟨_, rfl, by simp; omega⟩, rfl⟩
    · have y2 : decide ((t.size : Int) > (4097 : Int) - (s.size : Int)) = false := decide_eq_false (by omega)
      have y3 : decide ((4097 : Int) - (s.size : Int) < (t.size : Int)) = false := decide_eq_false (by omega)
      go_enter Tryz.func11, Tryz.ntmps11
      go_wp2_with fail
      go_ret
      exact ⟨⟨_, rfl, by simp; omega⟩, rfl⟩
set_option maxRecDepth 100000 in
set_option maxHeartbeats 1000000 in
/-- A fresh copy; nil for an empty list. -/
theorem copyInts {w : World} {v : Value} {p : List Int} (h : KiAt w v p) (hl : p.length ≤ 2000) : Calls Tryz.prog 25 #[v] w fun e w' => ∃ v', e = .returned v' ∧ KiX w' v' p ∧ (∀ b, isB v' b → w.heap.size ≤ b) ∧ Fr (fun _ => False) w w' := by
  by_cases h0 : p = []
  · obtain ⟨a1, k1, rfl, _⟩ := h.sl
    subst h0
    simp only [List.length_nil]
    go_enter Tryz.func25, Tryz.ntmps25
    go_wp2_with fail
    go_ret
    exact ⟨_, rfl, .inl ⟨rfl, rfl⟩, fun b hb => absurd hb (nil_noB b), Fr.refl _ _⟩
  · rcases h with ⟨_, hh⟩ | ⟨ob, ocap, fo, rfl, hcap, hBo, hfo⟩
    · exact absurd hh h0
    have hpos : 0 < p.length := List.length_pos_iff.2 h0
    have y2 : ((p.length : Int) == 0) = false := by simp; omega
    have hfo1 : ∀ j, j < p.length * 1 → (fo (0 + j)).oneCell' = true := fun j hj => by rw [Nat.zero_add, hfo j (by omega)]; rfl
    have hobl := hBo.lt
    have HB : Hid (Blk w ob ocap fo) := hBo
    clear hBo
    go_enter Tryz.func25, Tryz.ntmps25
    go_upto_region 4 with (
      refine wpList_makeB (w := w) (by rfl) 35 _ _ (by rfl) 3 1 8 (.int .i64 0) p.length (by rfl) (by rfl) Tryz.underlying35 (by kernel_rfl) (by kernel_rfl) (by kernel_rfl) (by omega) (by omega) ?_
      intro w4 F4 s4 B4)
    have hBo4 := HB.out.frame F4 (fun h => h)
    have HF4 : Hid _ := F4
    obtain ⟨nb, hnb⟩ : ∃ nb, nb = w.heap.size := ⟨_, rfl⟩
    rw [← hnb] at B4 ⊢
    have hnbo : ob ≠ nb := by omega
    have Hnb : Hid _ := hnb
    clear F4 hnb
    go_upto_region 5 with (
      refine wpList_copyA (w := w4) (by rfl) _ _ 35 35 (by rfl) 3 1 nb 0 p.length p.length ob 0 p.length ocap (p.length * 1) ocap p.length _ fo (by rfl) (by rfl) Tryz.underlying35 (by kernel_rfl) (Nat.min_self _).symm B4 hBo4 (by omega) (by omega) hfo1 ?_
      intro w5 F5 B5
      have HB5 : Hid _ := And.intro F5 B5
      clear F5 B5)
    go_wp2_with fail
    go_ret
    have hb5 := HB5.out.2
    rw [Nat.mul_one] at hb5
    refine ⟨_, rfl,   .inr ⟨nb, _, h0, rfl, hb5, fun i hi => ?_⟩, fun b hb => by rw [isB_one hb, Hnb.out]; exact Nat.le_refl _, HF4.out.trans HB5.out.1 (fun b hb h => by have := Hnb.out; omega)⟩
    rw [lay_in _ _ _ _ (by omega) (by rw [rowOf_length]; omega)]
    have := rowOf_get fo 0 p.length i hi
    rw [Nat.zero_add, hfo i hi] at this
    simp only [Nat.sub_zero]
    obtain ⟨_, h2⟩ := List.getElem?_eq_some_iff.1 this
    exact h2
end Go.Proofs.Qxb6500281aGreat
