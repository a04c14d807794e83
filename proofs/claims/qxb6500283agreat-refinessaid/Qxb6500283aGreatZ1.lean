/- The engine's memory. -/
import Derived.Test.Qxb6500283aGreatY10
import Derived.Test.Qxb6500283aGreatW11
import Derived.BigRegion
namespace Go.Proofs.Qxb6500283aGreat
open Go Go.RowKit

theorem strNe {a b : ByteArray} (h : a ≠ b) : (a.toList == b.toList) = false := by
  simp only [ByteArray.toList_eq, beq_eq_false_iff_ne, ne_eq]
  exact fun h' => h (ByteArray.ext (by simpa using h'))
structure Ent where
  used : Bool
  pat : ByteArray
  ca : Option Addr
  cn : Nat
  cc : Nat
  err : Int
  pos : Int
def ent0 : Ent := ⟨false, ⟨#[]⟩, none, 0, 0, 0, 0⟩
def eCell (sm pk df : Nat) (a b : Ent) (j : Nat) : Value := match j with
  | 0 => .pointer (some ⟨sm, 0, none⟩) | 1 => .pointer (some ⟨pk, 0, none⟩) | 2 => .pointer (some ⟨df, 0, none⟩)
  | 3 => .bool a.used | 4 => .string a.pat | 5 => .slice a.ca a.cn a.cc | 6 => .int .i64 a.err | 7 => .int .i64 a.pos
  | 8 => .bool b.used | 9 => .string b.pat | 10 => .slice b.ca b.cn b.cc | 11 => .int .i64 b.err | _ => .int .i64 b.pos
theorem lt13 {j : Nat} (h : j < 13) : j = 0 ∨ j = 1 ∨ j = 2 ∨ j = 3 ∨ j = 4 ∨ j = 5 ∨ j = 6 ∨ j = 7 ∨ j = 8 ∨ j = 9 ∨ j = 10 ∨ j = 11 ∨ j = 12 := by omega
section
variable {w : World} {e sm pk df : Nat} {a b : Ent}
theorem eCells (h : Blk w e 13 (eCell sm pk df a b)) : w.cell? ⟨e, 0, none⟩ = some (.pointer (some ⟨sm, 0, none⟩)) ∧ w.cell? ⟨e, 1, none⟩ = some (.pointer (some ⟨pk, 0, none⟩)) ∧ w.cell? ⟨e, 2, none⟩ = some (.pointer (some ⟨df, 0, none⟩)) ∧
    w.cell? ⟨e, 3, none⟩ = some (.bool a.used) ∧ w.cell? ⟨e, 4, none⟩ = some (.string a.pat) ∧ w.cell? ⟨e, 5, none⟩ = some (.slice a.ca a.cn a.cc) ∧ w.cell? ⟨e, 6, none⟩ = some (.int .i64 a.err) ∧ w.cell? ⟨e, 7, none⟩ = some (.int .i64 a.pos) ∧
    w.cell? ⟨e, 8, none⟩ = some (.bool b.used) ∧ w.cell? ⟨e, 9, none⟩ = some (.string b.pat) ∧ w.cell? ⟨e, 10, none⟩ = some (.slice b.ca b.cn b.cc) ∧ w.cell? ⟨e, 11, none⟩ = some (.int .i64 b.err) ∧ w.cell? ⟨e, 12, none⟩ = some (.int .i64 b.pos) :=
  ⟨h.cell (by omega), h.cell (by omega), h.cell (by omega), h.cell (by omega), h.cell (by omega), h.cell (by omega), h.cell (by omega), h.cell (by omega), h.cell (by omega), h.cell (by omega), h.cell (by omega), h.cell (by omega), h.cell (by omega)⟩
theorem set10 {f : Nat → Value} (h : Blk w e 13 f) (v3 v4 v5 v6 v7 v8 v9 v10 v11 v12 : Value) : Blk ((((((((((w.setCell ⟨e, 3, none⟩ v3).setCell ⟨e, 4, none⟩ v4).setCell ⟨e, 5, none⟩ v5).setCell ⟨e, 6, none⟩ v6).setCell ⟨e, 7, none⟩ v7).setCell ⟨e, 8, none⟩ v8).setCell ⟨e, 9, none⟩ v9).setCell ⟨e, 10, none⟩ v10).setCell ⟨e, 11, none⟩ v11).setCell ⟨e, 12, none⟩ v12) e 13
    (fun j => match j with | 3 => v3 | 4 => v4 | 5 => v5 | 6 => v6 | 7 => v7 | 8 => v8 | 9 => v9 | 10 => v10 | 11 => v11 | 12 => v12 | j => f j) :=
  ((((((((((h.set 3 v3).set 4 v4).set 5 v5).set 6 v6).set 7 v7).set 8 v8).set 9 v9).set 10 v10).set 11 v11).set 12 v12).congr fun o ho => by
    rcases lt13 ho with rfl | rfl | rfl | rfl | rfl | rfl | rfl | rfl | rfl | rfl | rfl | rfl | rfl <;> simp [upd]
theorem frame10 (w : World) (e : Nat) (v3 v4 v5 v6 v7 v8 v9 v10 v11 v12 : Value) : Fr (fun x => x = e) w ((((((((((w.setCell ⟨e, 3, none⟩ v3).setCell ⟨e, 4, none⟩ v4).setCell ⟨e, 5, none⟩ v5).setCell ⟨e, 6, none⟩ v6).setCell ⟨e, 7, none⟩ v7).setCell ⟨e, 8, none⟩ v8).setCell ⟨e, 9, none⟩ v9).setCell ⟨e, 10, none⟩ v10).setCell ⟨e, 11, none⟩ v11).setCell ⟨e, 12, none⟩ v12) :=
  ((((((((((Fr.refl (fun x => x = e) w).setC e 3 v3 (fun _ => rfl)).setC e 4 v4 (fun _ => rfl)).setC e 5 v5 (fun _ => rfl)).setC e 6 v6 (fun _ => rfl)).setC e 7 v7 (fun _ => rfl)).setC e 8 v8 (fun _ => rfl)).setC e 9 v9 (fun _ => rfl)).setC e 10 v10 (fun _ => rfl)).setC e 11 v11 (fun _ => rfl)).setC e 12 v12 (fun _ => rfl)
theorem swapE (h : Blk w e 13 (eCell sm pk df a b)) : Blk ((((((((((w.setCell ⟨e, 3, none⟩ (.bool b.used)).setCell ⟨e, 4, none⟩ (.string b.pat)).setCell ⟨e, 5, none⟩ (.slice b.ca b.cn b.cc)).setCell ⟨e, 6, none⟩ (.int .i64 b.err)).setCell ⟨e, 7, none⟩ (.int .i64 b.pos)).setCell ⟨e, 8, none⟩ (.bool a.used)).setCell ⟨e, 9, none⟩ (.string a.pat)).setCell ⟨e, 10, none⟩ (.slice a.ca a.cn a.cc)).setCell ⟨e, 11, none⟩ (.int .i64 a.err)).setCell ⟨e, 12, none⟩ (.int .i64 a.pos)) e 13 (eCell sm pk df b a) :=
  (set10 h _ _ _ _ _ _ _ _ _ _).congr fun o ho => by
    rcases lt13 ho with rfl | rfl | rfl | rfl | rfl | rfl | rfl | rfl | rfl | rfl | rfl | rfl | rfl <;> rfl
set_option maxRecDepth 100000 in
set_option maxHeartbeats 4000000 in
/-- The pattern asked last. -/
theorem recall_first (hE : Blk w e 13 (eCell sm pk df a b)) (hu : a.used = true) : Calls Tryz.prog 55 #[.pointer (some ⟨e, 0, none⟩), .string a.pat] w fun v w' => v = .returned (.tuple #[]) ∧ w' = w := by
  obtain ⟨c0, c1, c2, c3, c4, c5, c6, c7, c8, c9, c10, c11, c12⟩ := eCells hE
  rw [hu] at c3
  have hl := hE.lt
  go_enter Tryz.func55, Tryz.ntmps55
  go_wp2_with fail
  refine bodyPost_ret (results_none rfl _ _ _) rfl ?_
  exact ⟨rfl, rfl⟩
set_option maxRecDepth 100000 in
set_option maxHeartbeats 4000000 in
/-- The one before it. -/
theorem recall_second (hE : Blk w e 13 (eCell sm pk df a b)) (hu : b.used = true) (hn : a.used = true → a.pat ≠ b.pat) : Calls Tryz.prog 55 #[.pointer (some ⟨e, 0, none⟩), .string b.pat] w fun v w' => v = .returned (.tuple #[]) ∧ Blk w' e 13 (eCell sm pk df b a) ∧ Fr (fun x => x = e) w w' := by
  obtain ⟨c0, c1, c2, c3, c4, c5, c6, c7, c8, c9, c10, c11, c12⟩ := eCells hE
  rw [hu] at c8
  have hl := hE.lt
  have z := hE.frozen
  go_enter Tryz.func55, Tryz.ntmps55
  have hS := swapE hE
  have hF := frame10 w e (.bool b.used) (.string b.pat) (.slice b.ca b.cn b.cc) (.int .i64 b.err) (.int .i64 b.pos) (.bool a.used) (.string a.pat) (.slice a.ca a.cn a.cc) (.int .i64 a.err) (.int .i64 a.pos)
  rw [hu] at hS hF
  cases hau : a.used with
  | false =>
    rw [hau] at c3 hS hF
    go_wp2_with fail
    go_region
    go_wp2_with fail
    refine bodyPost_ret (results_none rfl _ _ _) rfl ?_
    exact ⟨rfl, hS.frame (Fr.refl (fun _ => False) _).drew (fun h => h), hF.drew⟩
  | true =>
    rw [hau] at c3 hS hF
    have hne := strNe (hn hau)
    clear hn
    go_wp2_with fail
    go_region
    go_wp2_with fail
    refine bodyPost_ret (results_none rfl _ _ _) rfl ?_
    exact ⟨rfl, hS.frame (Fr.refl (fun _ => False) _).drew (fun h => h), hF.drew⟩
end
end Go.Proofs.Qxb6500283aGreat
