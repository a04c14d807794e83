import Derived.Test.Qxb6500277aGreatW7
namespace Go.Proofs.Qxb6500277aGreat
open Go Go.RowKit

theorem class_cases (c : Nat) : classN c = 1 ∨ (classN c = 2 ∧ (48 ≤ c ∧ c ≤ 57)) ∨ classN c = 3 ∨ classN c = 4 ∨ classN c = 5 ∨ classN c = 6 ∨ classN c = 0 := by
  unfold classN
  split
  · exact .inl rfl
  · split
    · exact .inr (.inl ⟨rfl, by assumption⟩)
    · split
      · simp
      · split
        · simp
        · split
          · simp
          · split <;> simp
section
variable {w : World} {x bb : Nat} {r : R} {i c : Nat}
set_option maxRecDepth 100000 in
set_option maxHeartbeats 4000000 in
theorem begin1 (h : LRep w x bb r) (_hr : r.toks.length ≤ 4096) (_hi : i ≤ 4096) (_hc : c < 256) :
    Calls Tryz.prog 144 #[.pointer (some ⟨x, 0, none⟩), .int .i64 i, .int .u8 c, .int .i64 1] w fun e w' => e = .returned (.tuple #[]) ∧ LTo w w' x bb (beginR i c 1 r) := by
  have hA := h
  obtain ⟨all, hA⟩ := hA
  have c2 : w.cell? ⟨x, 2, none⟩ = some (.int .i64 r.state) := hA.main.cell (by omega)
  have c3 : w.cell? ⟨x, 3, none⟩ = some (.int .i64 r.start) := hA.main.cell (by omega)
  have c4 : w.cell? ⟨x, 4, none⟩ = some (.int .u8 r.first) := hA.main.cell (by omega)
  have c5 : w.cell? ⟨x, 5, none⟩ = some (.int .i64 r.val) := hA.main.cell (by omega)
  have c6 : w.cell? ⟨x, 6, none⟩ = some (.int .i64 r.fail) := hA.main.cell (by omega)
  have c7 : w.cell? ⟨x, 7, none⟩ = some (.int .i64 r.opn) := hA.main.cell (by omega)
  have z0 := hA.main.frozen
  have Hk : Hid _ := (((hA.start i).first c).state 1).opn 1
  go_enter Tryz.func144, Tryz.ntmps144
  go_wp2_with fail
  go_end0
  refine ⟨rfl, bb, ⟨all, ?_⟩, ?_, .inl rfl⟩
  · exact Hk.out
  · repeat' refine Fr.setC ?_ _ _ _ (fun _ => .inl rfl)
    exact Fr.refl _ _

set_option maxRecDepth 100000 in
set_option maxHeartbeats 4000000 in
theorem begin2 (h : LRep w x bb r) (_hr : r.toks.length ≤ 4096) (_hi : i ≤ 4096) (_hc : c < 256) (hd : 48 ≤ c ∧ c ≤ 57) :
    Calls Tryz.prog 144 #[.pointer (some ⟨x, 0, none⟩), .int .i64 i, .int .u8 c, .int .i64 2] w fun e w' => e = .returned (.tuple #[]) ∧ LTo w w' x bb (beginR i c 2 r) := by
  have hA := h
  obtain ⟨all, hA⟩ := hA
  have c2 : w.cell? ⟨x, 2, none⟩ = some (.int .i64 r.state) := hA.main.cell (by omega)
  have c3 : w.cell? ⟨x, 3, none⟩ = some (.int .i64 r.start) := hA.main.cell (by omega)
  have c4 : w.cell? ⟨x, 4, none⟩ = some (.int .u8 r.first) := hA.main.cell (by omega)
  have c5 : w.cell? ⟨x, 5, none⟩ = some (.int .i64 r.val) := hA.main.cell (by omega)
  have c6 : w.cell? ⟨x, 6, none⟩ = some (.int .i64 r.fail) := hA.main.cell (by omega)
  have c7 : w.cell? ⟨x, 7, none⟩ = some (.int .i64 r.opn) := hA.main.cell (by omega)
  have z0 := hA.main.frozen
  obtain ⟨hd1, hd2⟩ := hd
  obtain ⟨d, rfl⟩ : ∃ d, c = d + 48 := ⟨c - 48, by omega⟩
  have hd9 : d ≤ 9 := by omega
  have Hk : Hid _ := ((((hA.start i).first (d + 48)).state 2).val (d + 48 - 48)).opn 2
  go_enter Tryz.func144, Tryz.ntmps144
  go_wp2_with fail
  go_end0
  refine ⟨rfl, bb, ⟨all, ?_⟩, ?_, .inl rfl⟩
  · exact Hk.out
  · repeat' refine Fr.setC ?_ _ _ _ (fun _ => .inl rfl)
    exact Fr.refl _ _

set_option maxRecDepth 100000 in
set_option maxHeartbeats 4000000 in
theorem begin3 (h : LRep w x bb r) (_hr : r.toks.length ≤ 4096) (_hi : i ≤ 4096) (_hc : c < 256) :
    Calls Tryz.prog 144 #[.pointer (some ⟨x, 0, none⟩), .int .i64 i, .int .u8 c, .int .i64 3] w fun e w' => e = .returned (.tuple #[]) ∧ LTo w w' x bb (beginR i c 3 r) := by
  have hA := h
  obtain ⟨all, hA⟩ := hA
  have c2 : w.cell? ⟨x, 2, none⟩ = some (.int .i64 r.state) := hA.main.cell (by omega)
  have c3 : w.cell? ⟨x, 3, none⟩ = some (.int .i64 r.start) := hA.main.cell (by omega)
  have c4 : w.cell? ⟨x, 4, none⟩ = some (.int .u8 r.first) := hA.main.cell (by omega)
  have c5 : w.cell? ⟨x, 5, none⟩ = some (.int .i64 r.val) := hA.main.cell (by omega)
  have c6 : w.cell? ⟨x, 6, none⟩ = some (.int .i64 r.fail) := hA.main.cell (by omega)
  have c7 : w.cell? ⟨x, 7, none⟩ = some (.int .i64 r.opn) := hA.main.cell (by omega)
  have z0 := hA.main.frozen
  have Hk : Hid _ := ((hA.start i).first c).opn 3
  go_enter Tryz.func144, Tryz.ntmps144
  go_wp2_with fail
  go_end0
  refine ⟨rfl, bb, ⟨all, ?_⟩, ?_, .inl rfl⟩
  · exact Hk.out
  · repeat' refine Fr.setC ?_ _ _ _ (fun _ => .inl rfl)
    exact Fr.refl _ _

set_option maxRecDepth 100000 in
set_option maxHeartbeats 4000000 in
theorem begin4 (h : LRep w x bb r) (_hr : r.toks.length ≤ 4096) (_hi : i ≤ 4096) (_hc : c < 256) :
    Calls Tryz.prog 144 #[.pointer (some ⟨x, 0, none⟩), .int .i64 i, .int .u8 c, .int .i64 4] w fun e w' => e = .returned (.tuple #[]) ∧ LTo w w' x bb (beginR i c 4 r) := by
  have hA := h
  obtain ⟨all, hA⟩ := hA
  have c2 : w.cell? ⟨x, 2, none⟩ = some (.int .i64 r.state) := hA.main.cell (by omega)
  have c3 : w.cell? ⟨x, 3, none⟩ = some (.int .i64 r.start) := hA.main.cell (by omega)
  have c4 : w.cell? ⟨x, 4, none⟩ = some (.int .u8 r.first) := hA.main.cell (by omega)
  have c5 : w.cell? ⟨x, 5, none⟩ = some (.int .i64 r.val) := hA.main.cell (by omega)
  have c6 : w.cell? ⟨x, 6, none⟩ = some (.int .i64 r.fail) := hA.main.cell (by omega)
  have c7 : w.cell? ⟨x, 7, none⟩ = some (.int .i64 r.opn) := hA.main.cell (by omega)
  have z0 := hA.main.frozen
  have Hk : Hid _ := (((hA.start i).first c).state 3).opn 4
  go_enter Tryz.func144, Tryz.ntmps144
  go_wp2_with fail
  go_end0
  refine ⟨rfl, bb, ⟨all, ?_⟩, ?_, .inl rfl⟩
  · exact Hk.out
  · repeat' refine Fr.setC ?_ _ _ _ (fun _ => .inl rfl)
    exact Fr.refl _ _

set_option maxRecDepth 100000 in
set_option maxHeartbeats 4000000 in
theorem begin5 (h : LRep w x bb r) (_hr : r.toks.length ≤ 4096) (_hi : i ≤ 4096) (_hc : c < 256) :
    Calls Tryz.prog 144 #[.pointer (some ⟨x, 0, none⟩), .int .i64 i, .int .u8 c, .int .i64 5] w fun e w' => e = .returned (.tuple #[]) ∧ LTo w w' x bb (beginR i c 5 r) := by
  have hA := h
  obtain ⟨all, hA⟩ := hA
  have c2 : w.cell? ⟨x, 2, none⟩ = some (.int .i64 r.state) := hA.main.cell (by omega)
  have c3 : w.cell? ⟨x, 3, none⟩ = some (.int .i64 r.start) := hA.main.cell (by omega)
  have c4 : w.cell? ⟨x, 4, none⟩ = some (.int .u8 r.first) := hA.main.cell (by omega)
  have c5 : w.cell? ⟨x, 5, none⟩ = some (.int .i64 r.val) := hA.main.cell (by omega)
  have c6 : w.cell? ⟨x, 6, none⟩ = some (.int .i64 r.fail) := hA.main.cell (by omega)
  have c7 : w.cell? ⟨x, 7, none⟩ = some (.int .i64 r.opn) := hA.main.cell (by omega)
  have z0 := hA.main.frozen
  have Hk : Hid _ := (((hA.start i).first c).state 4).opn 5
  go_enter Tryz.func144, Tryz.ntmps144
  go_wp2_with fail
  go_end0
  refine ⟨rfl, bb, ⟨all, ?_⟩, ?_, .inl rfl⟩
  · exact Hk.out
  · repeat' refine Fr.setC ?_ _ _ _ (fun _ => .inl rfl)
    exact Fr.refl _ _

set_option maxRecDepth 100000 in
set_option maxHeartbeats 4000000 in
theorem begin0 (h : LRep w x bb r) (_hr : r.toks.length ≤ 4096) (_hi : i ≤ 4096) (_hc : c < 256) :
    Calls Tryz.prog 144 #[.pointer (some ⟨x, 0, none⟩), .int .i64 i, .int .u8 c, .int .i64 0] w fun e w' => e = .returned (.tuple #[]) ∧ LTo w w' x bb (beginR i c 0 r) := by
  have hA := h
  obtain ⟨all, hA⟩ := hA
  have c2 : w.cell? ⟨x, 2, none⟩ = some (.int .i64 r.state) := hA.main.cell (by omega)
  have c3 : w.cell? ⟨x, 3, none⟩ = some (.int .i64 r.start) := hA.main.cell (by omega)
  have c4 : w.cell? ⟨x, 4, none⟩ = some (.int .u8 r.first) := hA.main.cell (by omega)
  have c5 : w.cell? ⟨x, 5, none⟩ = some (.int .i64 r.val) := hA.main.cell (by omega)
  have c6 : w.cell? ⟨x, 6, none⟩ = some (.int .i64 r.fail) := hA.main.cell (by omega)
  have c7 : w.cell? ⟨x, 7, none⟩ = some (.int .i64 r.opn) := hA.main.cell (by omega)
  have z0 := hA.main.frozen
  have Hk : Hid _ := (((hA.start i).first c).fail 7).opn 0
  go_enter Tryz.func144, Tryz.ntmps144
  go_wp2_with fail
  go_end0
  refine ⟨rfl, bb, ⟨all, ?_⟩, ?_, .inl rfl⟩
  · exact Hk.out
  · repeat' refine Fr.setC ?_ _ _ _ (fun _ => .inl rfl)
    exact Fr.refl _ _

set_option maxRecDepth 100000 in
set_option maxHeartbeats 4000000 in
theorem begin6 (h : LRep w x bb r) (_hr : r.toks.length ≤ 4096) (_hi : i ≤ 4096) (_hc : c < 256) :
    Calls Tryz.prog 144 #[.pointer (some ⟨x, 0, none⟩), .int .i64 i, .int .u8 c, .int .i64 6] w fun e w' => e = .returned (.tuple #[]) ∧ LTo w w' x bb (beginR i c 6 r) := by
  have hA := h
  obtain ⟨all, hA⟩ := hA
  have c2 : w.cell? ⟨x, 2, none⟩ = some (.int .i64 r.state) := hA.main.cell (by omega)
  have c3 : w.cell? ⟨x, 3, none⟩ = some (.int .i64 r.start) := hA.main.cell (by omega)
  have c4 : w.cell? ⟨x, 4, none⟩ = some (.int .u8 r.first) := hA.main.cell (by omega)
  have c5 : w.cell? ⟨x, 5, none⟩ = some (.int .i64 r.val) := hA.main.cell (by omega)
  have c6 : w.cell? ⟨x, 6, none⟩ = some (.int .i64 r.fail) := hA.main.cell (by omega)
  have c7 : w.cell? ⟨x, 7, none⟩ = some (.int .i64 r.opn) := hA.main.cell (by omega)
  have z0 := hA.main.frozen
  have hA1 := (hA.start i).first c
  have f0 : Fr (lS x bb) w ((w.setCell ⟨x, 3, none⟩ (.int .i64 i)).setCell ⟨x, 4, none⟩ (.int .u8 c)) := ((Fr.refl _ _).setC _ _ _ (fun _ => .inl rfl)).setC _ _ _ (fun _ => .inl rfl)
  go_enter Tryz.func144, Tryz.ntmps144
  go_wp2_with fail
  refine (single_any _ _).mono ?_
  rintro e w1 ⟨rfl, rfl⟩
  go_wp2_with fail
  refine (push_any ⟨all, hA1⟩ _hr ⟨singleN c, i, 0, ⟨#[]⟩⟩).mono ?_
  rintro e w2 ⟨rfl, bb1, ⟨all1, hA2⟩, f1, hb1⟩
  have d7 : w2.cell? ⟨x, 7, none⟩ = some (.int .i64 r.opn) := hA2.main.cell (by omega)
  have z2 := hA2.main.frozen
  have Hk := hA2.opn 6
  have f2 := f0.trans f1 (fun _ _ h => h)
  go_wp2_with fail
  go_end0
  refine ⟨rfl, LTo.set f2 ?_ Hk⟩
  simpa using hb1

theorem begin_any (h : LRep w x bb r) (hr : r.toks.length ≤ 4096) (hi : i ≤ 4096) (hc : c < 256) :
    Calls Tryz.prog 144 #[.pointer (some ⟨x, 0, none⟩), .int .i64 i, .int .u8 c, .int .i64 (classN c)] w fun e w' => e = .returned (.tuple #[]) ∧ LTo w w' x bb (beginR i c (classN c) r) := by
  rcases class_cases c with e | ⟨e, hd⟩ | e | e | e | e | e <;> rw [e]
  · exact begin1 h hr hi hc
  · exact begin2 h hr hi hc hd
  · exact begin3 h hr hi hc
  · exact begin4 h hr hi hc
  · exact begin5 h hr hi hc
  · exact begin6 h hr hi hc
  · exact begin0 h hr hi hc
end
end Go.Proofs.Qxb6500277aGreat
