/- The law: Tidy. -/
import Derived.Test.Qxb6500276aGreatLC1
import Derived.Laws.Cover3
namespace Go.Proofs.Qxb6500276aGreat
open Go Go.RowKit

theorem NLV.nil0 {w : World} {v : Value} {l : List Nd} (h : NLV w v l) (h0 : l.length = 0) : v = .slice none 0 0 := by
  rcases h with ⟨h, _⟩ | ⟨_, _, _, _, _, h⟩
  · exact h
  · omega
theorem ILV.nil0 {w : World} {v : Value} {l : List Int} (h : ILV w v l) (h0 : l.length = 0) : v = .slice none 0 0 := by
  rcases h with ⟨h, _⟩ | ⟨_, _, _, h⟩
  · exact h
  · omega
theorem FLI.nil0 {w : World} {v : Value} {l : List Fi} (h : FLI w v l) (h0 : l.length = 0) : v = .slice none 0 0 := by
  rcases h with ⟨h, _⟩ | ⟨_, _, _, _, _, h⟩
  · exact h
  · omega
set_option maxRecDepth 100000 in
set_option maxHeartbeats 8000000 in
theorem tidyC {w : World} {x : Cr} (h : AnsA w x) : Calls Tryz.prog 16 #[crV x] w fun e w' => e = .returned (.bool true) ∧ Fr (fun _ => False) w w' := by
  obtain ⟨⟨av, at', ar, af⟩, ⟨ns, root, ty, rf, rs, main, err, pos⟩⟩ := x
  have e1 : ∀ (w : World), (binOp .neq 40 (.slice none 0 0) (.slice none 0 0)).run Tryz.prog w = .ok (.bool false) w := fun w => run_neq_slice_nil (P := Tryz.prog) w 40 82 none 0 0 Tryz.underlying40
  have e2 : ∀ (w : World), (binOp .neq 44 (.slice none 0 0) (.slice none 0 0)).run Tryz.prog w = .ok (.bool false) w := fun w => run_neq_slice_nil (P := Tryz.prog) w 44 3 none 0 0 Tryz.underlying44
  have e3 : ∀ (w : World), (binOp .eql 45 (.slice none 0 0) (.slice none 0 0)).run Tryz.prog w = .ok (.bool true) w := fun w => Go.Lib.run_eql_slice_nil w 45 63 none 0 0 0 0 Tryz.underlying45
  obtain ⟨hv, ht, hr, hf, _, _, _, _, _⟩ := h
  simp only [vV, tV, rV, fV] at hv ht hr hf
  have zv : ns.length = 0 → av = none := fun h0 => by have := hv.nil0 h0; injection this
  have zt : ty.length = 0 → at' = none := fun h0 => by have := ht.nil0 h0; injection this
  have zr : rf.length = 0 → ar = none := fun h0 => by have := hr.nil0 h0; injection this
  have zf : rs.length = 0 → af = none := fun h0 => by have := hf.nil0 h0; injection this
  clear hv ht hr hf
  unfold crV chkV vV tV rV fV
  simp only
  generalize ns.length = n1 at *
  generalize ty.length = n2 at *
  generalize rf.length = n3 at *
  generalize rs.length = n4 at *
  have c1 : ∃ b : Bool, ((n1 : Int) == 0) = b ∧ (b = true → n1 = 0 ∧ av = none) := by
    refine ⟨_, rfl, fun h => ?_⟩
    have h2 : n1 = 0 := by simpa using h
    exact ⟨h2, zv h2⟩
  have c2 : ∃ b : Bool, ((n2 : Int) == 0) = b ∧ (b = true → n2 = 0 ∧ at' = none) := by
    refine ⟨_, rfl, fun h => ?_⟩
    have h2 : n2 = 0 := by simpa using h
    exact ⟨h2, zt h2⟩
  have c3 : ∃ b : Bool, ((n3 : Int) == 0) = b ∧ (b = true → n3 = 0 ∧ ar = none) := by
    refine ⟨_, rfl, fun h => ?_⟩
    have h2 : n3 = 0 := by simpa using h
    exact ⟨h2, zr h2⟩
  have c4 : ∃ b : Bool, (decide ((n4 : Int) > 0)) = b ∧ (b = false → n4 = 0 ∧ af = none) := by
    refine ⟨_, rfl, fun h => ?_⟩
    have h1 := of_decide_eq_false h
    have h2 : n4 = 0 := by omega
    exact ⟨h2, zf h2⟩
  clear zv zt zr zf
  obtain ⟨b1, p1, q1⟩ := c1
  obtain ⟨b2, p2, q2⟩ := c2
  obtain ⟨b3, p3, q3⟩ := c3
  obtain ⟨b4, p4, q4⟩ := c4
  have p5 : decide (0 < n4) = b4 := by rw [← p4]; congr 1; simp
  have p6 : decide ((0 : Int) < n4) = b4 := by rw [← p4]
  cases b1 <;> cases b2 <;> cases b3 <;> cases b4
  · obtain ⟨rfl, rfl⟩ := q4 rfl
    clear q1 q2 q3 q4
    go_enter Tryz.func16, Tryz.ntmps16
    go_wp2_with fail
    go_ret
    exact ⟨by simp, (Fr.refl _ _).alloc _⟩
  · clear q1 q2 q3 q4
    go_enter Tryz.func16, Tryz.ntmps16
    go_wp2_with fail
    go_ret
    exact ⟨by simp, (Fr.refl _ _).alloc _⟩
  · obtain ⟨rfl, rfl⟩ := q3 rfl
    obtain ⟨rfl, rfl⟩ := q4 rfl
    clear q1 q2 q3 q4
    go_enter Tryz.func16, Tryz.ntmps16
    go_wp2_with fail
    go_ret
    exact ⟨by simp, (Fr.refl _ _).alloc _⟩
  · obtain ⟨rfl, rfl⟩ := q3 rfl
    clear q1 q2 q3 q4
    go_enter Tryz.func16, Tryz.ntmps16
    go_wp2_with fail
    go_ret
    exact ⟨by simp, (Fr.refl _ _).alloc _⟩
  · obtain ⟨rfl, rfl⟩ := q2 rfl
    obtain ⟨rfl, rfl⟩ := q4 rfl
    clear q1 q2 q3 q4
    go_enter Tryz.func16, Tryz.ntmps16
    go_wp2_with fail
    go_ret
    exact ⟨by simp, (Fr.refl _ _).alloc _⟩
  · obtain ⟨rfl, rfl⟩ := q2 rfl
    clear q1 q2 q3 q4
    go_enter Tryz.func16, Tryz.ntmps16
    go_wp2_with fail
    go_ret
    exact ⟨by simp, (Fr.refl _ _).alloc _⟩
  · obtain ⟨rfl, rfl⟩ := q2 rfl
    obtain ⟨rfl, rfl⟩ := q3 rfl
    obtain ⟨rfl, rfl⟩ := q4 rfl
    clear q1 q2 q3 q4
    go_enter Tryz.func16, Tryz.ntmps16
    go_wp2_with fail
    go_ret
    exact ⟨by simp, (Fr.refl _ _).alloc _⟩
  · obtain ⟨rfl, rfl⟩ := q2 rfl
    obtain ⟨rfl, rfl⟩ := q3 rfl
    clear q1 q2 q3 q4
    go_enter Tryz.func16, Tryz.ntmps16
    go_wp2_with fail
    go_ret
    exact ⟨by simp, (Fr.refl _ _).alloc _⟩
  · obtain ⟨rfl, rfl⟩ := q1 rfl
    obtain ⟨rfl, rfl⟩ := q4 rfl
    clear q1 q2 q3 q4
    go_enter Tryz.func16, Tryz.ntmps16
    go_wp2_with fail
    go_ret
    exact ⟨by simp, (Fr.refl _ _).alloc _⟩
  · obtain ⟨rfl, rfl⟩ := q1 rfl
    clear q1 q2 q3 q4
    go_enter Tryz.func16, Tryz.ntmps16
    go_wp2_with fail
    go_ret
    exact ⟨by simp, (Fr.refl _ _).alloc _⟩
  · obtain ⟨rfl, rfl⟩ := q1 rfl
    obtain ⟨rfl, rfl⟩ := q3 rfl
    obtain ⟨rfl, rfl⟩ := q4 rfl
    clear q1 q2 q3 q4
    go_enter Tryz.func16, Tryz.ntmps16
    go_wp2_with fail
    go_ret
    exact ⟨by simp, (Fr.refl _ _).alloc _⟩
  · obtain ⟨rfl, rfl⟩ := q1 rfl
    obtain ⟨rfl, rfl⟩ := q3 rfl
    clear q1 q2 q3 q4
    go_enter Tryz.func16, Tryz.ntmps16
    go_wp2_with fail
    go_ret
    exact ⟨by simp, (Fr.refl _ _).alloc _⟩
  · obtain ⟨rfl, rfl⟩ := q1 rfl
    obtain ⟨rfl, rfl⟩ := q2 rfl
    obtain ⟨rfl, rfl⟩ := q4 rfl
    clear q1 q2 q3 q4
    go_enter Tryz.func16, Tryz.ntmps16
    go_wp2_with fail
    go_ret
    exact ⟨by simp, (Fr.refl _ _).alloc _⟩
  · obtain ⟨rfl, rfl⟩ := q1 rfl
    obtain ⟨rfl, rfl⟩ := q2 rfl
    clear q1 q2 q3 q4
    go_enter Tryz.func16, Tryz.ntmps16
    go_wp2_with fail
    go_ret
    exact ⟨by simp, (Fr.refl _ _).alloc _⟩
  · obtain ⟨rfl, rfl⟩ := q1 rfl
    obtain ⟨rfl, rfl⟩ := q2 rfl
    obtain ⟨rfl, rfl⟩ := q3 rfl
    obtain ⟨rfl, rfl⟩ := q4 rfl
    clear q1 q2 q3 q4
    go_enter Tryz.func16, Tryz.ntmps16
    go_wp2_with fail
    go_ret
    exact ⟨by simp, (Fr.refl _ _).alloc _⟩
  · obtain ⟨rfl, rfl⟩ := q1 rfl
    obtain ⟨rfl, rfl⟩ := q2 rfl
    obtain ⟨rfl, rfl⟩ := q3 rfl
    clear q1 q2 q3 q4
    go_enter Tryz.func16, Tryz.ntmps16
    go_wp2_with fail
    go_ret
    exact ⟨by simp, (Fr.refl _ _).alloc _⟩
end Go.Proofs.Qxb6500276aGreat
