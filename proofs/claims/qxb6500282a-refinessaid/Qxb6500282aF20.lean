import Derived.Test.Qxb6500282aF19
import Derived.Deep.RegionWith
namespace Go.Proofs.Qxb6500282a
open Go Go.RowKit

structure Gh where
  seen : Nat
  room : Nat
  fl : Nat
  toil : Nat
  most : Nat
def ghV (g : Gh) : Value := .agg #[.int .i64 g.seen, .int .i64 g.room, .int .i64 g.fl, .int .i64 g.toil, .int .i64 g.most]
structure GOk (g : Gh) (s : DS) : Prop where
  b0 : g.seen ≤ s.built
  b1 : s.built ≤ g.seen + g.room
  w0 : g.toil ≤ s.worked
  w1 : s.worked ≤ g.toil + g.most
  f0 : g.fl ≤ s.flushes
def opV (kind A B C : Int) (S T : ByteArray) : Value := .agg #[.int .i64 kind, .int .i64 A, .int .i64 B, .int .i64 C, .string S, .string T]
def ObsPost (w : World) (s : DS) (g : Gh) : Ending → World → Prop := fun e w' => ∃ g', e = .returned (.tuple #[ghV g', .bool true]) ∧ GOk g' s ∧ g'.room ≤ g.room ∧ g'.most ≤ g.most ∧ Fr (fun _ => False) w w'
def opO (kind A B C : Int) (S T : ByteArray) : Obj := .cells #[.int .i64 kind, .int .i64 A, .int .i64 B, .int .i64 C, .string S, .string T] 42
def ghO (g : Gh) : Obj := .cells #[.int .i64 g.seen, .int .i64 g.room, .int .i64 g.fl, .int .i64 g.toil, .int .i64 g.most] 33
def gh0 : Gh := ⟨0, 0, 0, 0, 0⟩

theorem obs_cells {w w3 : World} {o1 : Obj} {g : Gh} (f3 : Fr (fun _ => False) ((((w.alloc o1).alloc (ghO g)).alloc (ghO gh0)).drew) w3) :
    w3.cell? ⟨w.heap.size + 1, 0, none⟩ = some (.int .i64 g.seen) ∧ w3.cell? ⟨w.heap.size + 1, 1, none⟩ = some (.int .i64 g.room) ∧ w3.cell? ⟨w.heap.size + 1, 2, none⟩ = some (.int .i64 g.fl) ∧ w3.cell? ⟨w.heap.size + 1, 3, none⟩ = some (.int .i64 g.toil) ∧ w3.cell? ⟨w.heap.size + 1, 4, none⟩ = some (.int .i64 g.most) ∧
    w3.cell? ⟨w.heap.size + 1 + 1, 0, none⟩ = some (.int .i64 0) ∧ w3.cell? ⟨w.heap.size + 1 + 1, 1, none⟩ = some (.int .i64 0) ∧ w3.cell? ⟨w.heap.size + 1 + 1, 2, none⟩ = some (.int .i64 0) ∧ w3.cell? ⟨w.heap.size + 1 + 1, 3, none⟩ = some (.int .i64 0) ∧ w3.cell? ⟨w.heap.size + 1 + 1, 4, none⟩ = some (.int .i64 0) ∧
    ∀ o, w3.frozen? ⟨w.heap.size + 1 + 1, o, none⟩ = false := by
  have f4 : Fr (fun _ => False) (((w.alloc o1).alloc (ghO g)).alloc (ghO gh0)) w3 := ((Fr.refl _ _).drew).trans f3 (fun _ _ h => h)
  have f5 : Fr (fun _ => False) ((w.alloc o1).alloc (ghO g)) w3 := ((Fr.refl _ _).alloc _).trans f4 (fun _ _ h => h)
  have a := fun o => f5.newCell (w := w.alloc o1) (by simp) o
  have b := fun o => f4.newCell (w := (w.alloc o1).alloc (ghO g)) (by simp) o
  have z := fun o => f4.newFrozen (w := (w.alloc o1).alloc (ghO g)) (by simp) o
  simp only [World.size_alloc] at a b z
  exact ⟨a 0, a 1, a 2, a 3, a 4, b 0, b 1, b 2, b 3, b 4, z⟩
set_option maxRecDepth 100000 in
set_option maxHeartbeats 4000000 in
theorem obs_check {w : World} {x : Nat} {kv : Value} {K : List In} {s : DS} (h : DInv w x kv K s) (g : Gh) (hg : GOk g s) (A B C : Int) (S T : ByteArray) :
    Calls Try.prog 22 #[.pointer (some ⟨x, 0, none⟩), opV 4 A B C S T, ghV g] w (ObsPost w s g) := by
  unfold opV ghV ObsPost
  have f1 : Fr (fun _ => False) w ((((w.alloc (opO 4 A B C S T)).alloc (ghO g)).alloc (ghO gh0)).drew) := ((((Fr.refl _ _).alloc _).alloc _).alloc _).drew
  have hd1 := h.frame f1
  go_enter Try.func22, Try.ntmps22
  go_wp2_with fail
  go_region_with (refine (check_any hd1).mono ?_; rintro e w3 ⟨rfl, f3⟩; have q := obs_cells f3; obtain ⟨q0, q1, q2, q3, q4, r0, r1, r2, r3, r4, rz⟩ := q)
  all_goals
    go_wp2_with fail
    refine bodyPost_ret (v := .tuple #[ghV g, .bool true]) (by simp [results, Try.results22, go_sem, ghV, r0, r1, r2, r3, r4]) rfl ⟨g, rfl, hg, Nat.le_refl _, Nat.le_refl _, ?_⟩
    have hs1 := f1.size
    iterate 5 refine Fr.setNew ?_ (by omega)
    exact f1.trans f3 (fun _ _ h => h)

set_option maxRecDepth 100000 in
set_option maxHeartbeats 4000000 in
theorem obs_states {w : World} {x : Nat} {kv : Value} {K : List In} {s : DS} (h : DInv w x kv K s) (g : Gh) (hg : GOk g s) (hbg : g.seen + g.room < 900000000000000000 ∧ g.toil + g.most < 900000000000000000) (A B C : Int) (S T : ByteArray) :
    Calls Try.prog 22 #[.pointer (some ⟨x, 0, none⟩), opV 5 A B C S T, ghV g] w (ObsPost w s g) := by
  unfold opV ghV ObsPost
  obtain ⟨hb1, hb2⟩ := hbg
  obtain ⟨g1, g2, g3, g4, g5⟩ := hg
  have hu := h.inv.used
  have f1 : Fr (fun _ => False) w (((w.alloc (.cells #[.int .i64 5, .int .i64 A, .int .i64 B, .int .i64 C, .string S, .string T] 42)).alloc (.cells #[.int .i64 g.seen, .int .i64 g.room, .int .i64 g.fl, .int .i64 g.toil, .int .i64 g.most] 33)).alloc (.cells #[.int .i64 0, .int .i64 0, .int .i64 0, .int .i64 0, .int .i64 0] 33)) := (((Fr.refl _ _).alloc _).alloc _).alloc _
  have hM := h.mach.frame f1 (fun _ _ h => h)
  have t1 : decide ((s.used : Int) ≤ 6) = true := by simp; omega
  go_enter Try.func22, Try.ntmps22
  go_wp2_with fail
  refine (states_any hM).mono ?_
  rintro e w3 ⟨rfl, rfl⟩
  go_wp2_with fail
  refine bodyPost_ret (v := .tuple #[ghV g, .bool true]) (by simp [results, Try.results22, go_sem, ghV]) rfl ⟨g, rfl, ⟨g1, g2, g3, g4, g5⟩, Nat.le_refl _, Nat.le_refl _, ?_⟩
  repeat' refine Fr.setNew ?_ (by omega)
  exact (((Fr.refl _ _).alloc _).alloc _).alloc _

set_option maxRecDepth 100000 in
set_option maxHeartbeats 4000000 in
theorem obs_built {w : World} {x : Nat} {kv : Value} {K : List In} {s : DS} (h : DInv w x kv K s) (g : Gh) (hg : GOk g s) (hbg : g.seen + g.room < 900000000000000000 ∧ g.toil + g.most < 900000000000000000) (A B C : Int) (S T : ByteArray) :
    Calls Try.prog 22 #[.pointer (some ⟨x, 0, none⟩), opV 6 A B C S T, ghV g] w (ObsPost w s g) := by
  unfold opV ghV ObsPost
  obtain ⟨hb1, hb2⟩ := hbg
  obtain ⟨g1, g2, g3, g4, g5⟩ := hg
  have hu := h.inv.used
  have f1 : Fr (fun _ => False) w (((w.alloc (.cells #[.int .i64 6, .int .i64 A, .int .i64 B, .int .i64 C, .string S, .string T] 42)).alloc (.cells #[.int .i64 g.seen, .int .i64 g.room, .int .i64 g.fl, .int .i64 g.toil, .int .i64 g.most] 33)).alloc (.cells #[.int .i64 0, .int .i64 0, .int .i64 0, .int .i64 0, .int .i64 0] 33)) := (((Fr.refl _ _).alloc _).alloc _).alloc _
  have hM := h.mach.frame f1 (fun _ _ h => h)
  have t1 : decide ((g.seen : Int) ≤ (s.built : Int)) = true := by simp; omega
  have t1' : decide (g.seen ≤ s.built) = true := by simp; omega
  have t2 : decide ((s.built : Int) ≤ (g.seen : Int) + g.room) = true := by simp; omega
  go_enter Try.func22, Try.ntmps22
  go_wp2_with fail
  refine (built_any hM).mono ?_
  rintro e w3 ⟨rfl, rfl⟩
  go_wp2_with fail
  refine bodyPost_ret (v := .tuple #[ghV ⟨s.built, 0, g.fl, g.toil, g.most⟩, .bool true]) (by simp [results, Try.results22, go_sem, ghV]) rfl ⟨⟨s.built, 0, g.fl, g.toil, g.most⟩, rfl, ⟨Nat.le_refl _, by simp, g3, g4, g5⟩, Nat.zero_le _, Nat.le_refl _, ?_⟩
  repeat' refine Fr.setNew ?_ (by omega)
  exact (((Fr.refl _ _).alloc _).alloc _).alloc _

set_option maxRecDepth 100000 in
set_option maxHeartbeats 4000000 in
theorem obs_worked {w : World} {x : Nat} {kv : Value} {K : List In} {s : DS} (h : DInv w x kv K s) (g : Gh) (hg : GOk g s) (hbg : g.seen + g.room < 900000000000000000 ∧ g.toil + g.most < 900000000000000000) (A B C : Int) (S T : ByteArray) :
    Calls Try.prog 22 #[.pointer (some ⟨x, 0, none⟩), opV 8 A B C S T, ghV g] w (ObsPost w s g) := by
  unfold opV ghV ObsPost
  obtain ⟨hb1, hb2⟩ := hbg
  obtain ⟨g1, g2, g3, g4, g5⟩ := hg
  have hu := h.inv.used
  have f1 : Fr (fun _ => False) w (((w.alloc (.cells #[.int .i64 8, .int .i64 A, .int .i64 B, .int .i64 C, .string S, .string T] 42)).alloc (.cells #[.int .i64 g.seen, .int .i64 g.room, .int .i64 g.fl, .int .i64 g.toil, .int .i64 g.most] 33)).alloc (.cells #[.int .i64 0, .int .i64 0, .int .i64 0, .int .i64 0, .int .i64 0] 33)) := (((Fr.refl _ _).alloc _).alloc _).alloc _
  have hM := h.mach.frame f1 (fun _ _ h => h)
  have t1 : decide ((g.toil : Int) ≤ (s.worked : Int)) = true := by simp; omega
  have t1' : decide (g.toil ≤ s.worked) = true := by simp; omega
  have t2 : decide ((s.worked : Int) ≤ (g.toil : Int) + g.most) = true := by simp; omega
  go_enter Try.func22, Try.ntmps22
  go_wp2_with fail
  refine (worked_any hM).mono ?_
  rintro e w3 ⟨rfl, rfl⟩
  go_wp2_with fail
  refine bodyPost_ret (v := .tuple #[ghV ⟨g.seen, g.room, g.fl, s.worked, 0⟩, .bool true]) (by simp [results, Try.results22, go_sem, ghV]) rfl ⟨⟨g.seen, g.room, g.fl, s.worked, 0⟩, rfl, ⟨g1, g2, Nat.le_refl _, by simp, g5⟩, Nat.le_refl _, Nat.zero_le _, ?_⟩
  repeat' refine Fr.setNew ?_ (by omega)
  exact (((Fr.refl _ _).alloc _).alloc _).alloc _

set_option maxRecDepth 100000 in
set_option maxHeartbeats 4000000 in
theorem obs_flushes {w : World} {x : Nat} {kv : Value} {K : List In} {s : DS} (h : DInv w x kv K s) (g : Gh) (hg : GOk g s) (hbg : g.seen + g.room < 900000000000000000 ∧ g.toil + g.most < 900000000000000000) (A B C : Int) (S T : ByteArray) :
    Calls Try.prog 22 #[.pointer (some ⟨x, 0, none⟩), opV 7 A B C S T, ghV g] w (ObsPost w s g) := by
  unfold opV ghV ObsPost
  obtain ⟨hb1, hb2⟩ := hbg
  obtain ⟨g1, g2, g3, g4, g5⟩ := hg
  have hu := h.inv.used
  have f1 : Fr (fun _ => False) w (((w.alloc (.cells #[.int .i64 7, .int .i64 A, .int .i64 B, .int .i64 C, .string S, .string T] 42)).alloc (.cells #[.int .i64 g.seen, .int .i64 g.room, .int .i64 g.fl, .int .i64 g.toil, .int .i64 g.most] 33)).alloc (.cells #[.int .i64 0, .int .i64 0, .int .i64 0, .int .i64 0, .int .i64 0] 33)) := (((Fr.refl _ _).alloc _).alloc _).alloc _
  have hM := h.mach.frame f1 (fun _ _ h => h)
  have t1 : decide ((g.fl : Int) ≤ (s.flushes : Int)) = true := by simp; omega
  have t1' : decide (g.fl ≤ s.flushes) = true := by simp; omega
  go_enter Try.func22, Try.ntmps22
  go_wp2_with fail
  refine (flushes_any hM).mono ?_
  rintro e w3 ⟨rfl, rfl⟩
  go_wp2_with fail
  refine bodyPost_ret (v := .tuple #[ghV ⟨g.seen, g.room, s.flushes, g.toil, g.most⟩, .bool true]) (by simp [results, Try.results22, go_sem, ghV]) rfl ⟨⟨g.seen, g.room, s.flushes, g.toil, g.most⟩, rfl, ⟨g1, g2, g3, g4, Nat.le_refl _⟩, Nat.le_refl _, Nat.le_refl _, ?_⟩
  repeat' refine Fr.setNew ?_ (by omega)
  exact (((Fr.refl _ _).alloc _).alloc _).alloc _

set_option maxRecDepth 100000 in
set_option maxHeartbeats 4000000 in
theorem obs_other {w : World} {x : Nat} {kv : Value} {K : List In} {s : DS} (h : DInv w x kv K s) (g : Gh) (hg : GOk g s) (hbg : g.seen + g.room < 900000000000000000 ∧ g.toil + g.most < 900000000000000000) (kind A B C : Int) (S T : ByteArray) (n4 : kind ≠ 4) (n5 : kind ≠ 5) (n6 : kind ≠ 6) (n7 : kind ≠ 7) (n8 : kind ≠ 8) :
    Calls Try.prog 22 #[.pointer (some ⟨x, 0, none⟩), opV kind A B C S T, ghV g] w (ObsPost w s g) := by
  unfold opV ghV ObsPost
  obtain ⟨hb1, hb2⟩ := hbg
  obtain ⟨g1, g2, g3, g4, g5⟩ := hg
  have hu := h.inv.used
  have f1 : Fr (fun _ => False) w (((w.alloc (.cells #[.int .i64 kind, .int .i64 A, .int .i64 B, .int .i64 C, .string S, .string T] 42)).alloc (.cells #[.int .i64 g.seen, .int .i64 g.room, .int .i64 g.fl, .int .i64 g.toil, .int .i64 g.most] 33)).alloc (.cells #[.int .i64 0, .int .i64 0, .int .i64 0, .int .i64 0, .int .i64 0] 33)) := (((Fr.refl _ _).alloc _).alloc _).alloc _
  have hM := h.mach.frame f1 (fun _ _ h => h)
  have t4 : (kind == 4) = false := by simpa using n4
  have t5 : (kind == 5) = false := by simpa using n5
  have t6 : (kind == 6) = false := by simpa using n6
  have t7 : (kind == 7) = false := by simpa using n7
  have t8 : (kind == 8) = false := by simpa using n8
  clear n4 n5 n6 n7 n8 hM
  go_enter Try.func22, Try.ntmps22
  go_wp2_with fail
  refine bodyPost_ret (v := .tuple #[ghV g, .bool true]) (by simp [results, Try.results22, go_sem, ghV]) rfl ⟨g, rfl, ⟨g1, g2, g3, g4, g5⟩, Nat.le_refl _, Nat.le_refl _, ?_⟩
  repeat' refine Fr.setNew ?_ (by omega)
  exact (((Fr.refl _ _).alloc _).alloc _).alloc _

theorem observe_any {w : World} {x : Nat} {kv : Value} {K : List In} {s : DS} (h : DInv w x kv K s) (g : Gh) (hg : GOk g s) (hbg : g.seen + g.room < 900000000000000000 ∧ g.toil + g.most < 900000000000000000) (kind A B C : Int) (S T : ByteArray) :
    Calls Try.prog 22 #[.pointer (some ⟨x, 0, none⟩), opV kind A B C S T, ghV g] w (ObsPost w s g) := by
  by_cases n4 : kind = 4
  · subst n4; exact obs_check h g hg A B C S T
  by_cases n5 : kind = 5
  · subst n5; exact obs_states h g hg hbg A B C S T
  by_cases n6 : kind = 6
  · subst n6; exact obs_built h g hg hbg A B C S T
  by_cases n7 : kind = 7
  · subst n7; exact obs_flushes h g hg hbg A B C S T
  by_cases n8 : kind = 8
  · subst n8; exact obs_worked h g hg hbg A B C S T
  exact obs_other h g hg hbg kind A B C S T n4 n5 n6 n7 n8
end Go.Proofs.Qxb6500282a
