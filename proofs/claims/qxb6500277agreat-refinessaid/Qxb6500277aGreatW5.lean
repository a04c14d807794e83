import Derived.Test.Qxb6500277aGreatLexR
namespace Go.Proofs.Qxb6500277aGreat
open Go Go.RowKit

theorem two_len (n : Nat) : Value.int .i64 (2 * (n : Int)) = .int .i64 ((2 * n : Nat) : Int) := congrArg _ (by omega)
theorem drew_alloc_size (w : World) (o : Obj) : (w.alloc o).drew.heap.size = w.heap.size + 1 := by simp
theorem zero_cells (k : Nat) : (Value.agg #[.int .i64 0, .int .i64 0, .int .i64 0, .string ⟨#[]⟩]).cells[k % (Value.agg #[.int .i64 0, .int .i64 0, .int .i64 0, .string ⟨#[]⟩]).cells.size]! = tokCell zeroTok (k % 4) := by
  show (#[.int .i64 0, .int .i64 0, .int .i64 0, .string ⟨#[]⟩] : Array Value)[k % 4]! = _
  rcases (show k % 4 = 0 ∨ k % 4 = 1 ∨ k % 4 = 2 ∨ k % 4 = 3 by omega) with e | e | e | e <;> rw [e] <;> rfl
set_option maxRecDepth 100000 in
set_option maxHeartbeats 4000000 in
theorem push_room {w : World} {x bb : Nat} {all : List Tok} {r : R} (h : LRepA w x bb all r) (t : Tok) (hlt : r.toks.length < all.length) :
    Calls Tryz.prog 145 #[.pointer (some ⟨x, 0, none⟩), tokV t] w fun e w' => e = .returned (.tuple #[]) ∧ LTo w w' x bb (pushR r t) := by
  unfold tokV
  have Hk : Hid _ := ((h.pushAt t hlt).alloc (.cells #[.int .i64 t.kind, .int .i64 t.pos, .int .i64 t.val, .string t.text] 182)).drew.drew
  have c0 : w.cell? ⟨x, 0, none⟩ = some (.slice (some ⟨bb, 0, none⟩) all.length all.length) := h.main.cell (by omega)
  have c1 : w.cell? ⟨x, 1, none⟩ = some (.int .i64 r.toks.length) := h.main.cell (by omega)
  have b0 : w.cell? ⟨bb, r.toks.length * 4, none⟩ = some (bufF all (r.toks.length * 4)) := h.buf.cell (by omega)
  have b1 : w.cell? ⟨bb, r.toks.length * 4 + 1, none⟩ = some (bufF all (r.toks.length * 4 + 1)) := h.buf.cell (by omega)
  have b2 : w.cell? ⟨bb, r.toks.length * 4 + 2, none⟩ = some (bufF all (r.toks.length * 4 + 2)) := h.buf.cell (by omega)
  have b3 : w.cell? ⟨bb, r.toks.length * 4 + 3, none⟩ = some (bufF all (r.toks.length * 4 + 3)) := h.buf.cell (by omega)
  have z0 := h.main.frozen
  have z1 := h.buf.frozen
  have hxl := h.main.lt
  have hbl := h.buf.lt
  have hne := h.ne
  have hhi := h.hi
  have htest : ((r.toks.length : Int) == (all.length : Int)) = false := by simp; omega
  go_enter Tryz.func145, Tryz.ntmps145
  go_wp2_with fail
  refine wp_region_text (by kernel_rfl) (by kernel_rfl) ?_
  go_wp2_with fail
  refine ⟨by kernel_rfl, ?_⟩
  go_wp2_with fail
  refine wp_region_text (by kernel_rfl) (by kernel_rfl) ?_
  go_wp2_with fail
  refine ⟨by kernel_rfl, ?_⟩
  go_wp2_with fail

  go_end0
  refine ⟨rfl, bb, ⟨all.set r.toks.length t, Hk.out⟩, ?_, .inl rfl⟩
  refine (Fr.drew (Fr.drew (Fr.alloc ?_ _)))
  refine Fr.setC ?_ _ _ _ (fun _ => .inl rfl)
  iterate 4 refine Fr.setC ?_ _ _ _ (fun _ => .inr rfl)
  exact Fr.refl _ _

theorem push_facts {w w2 w3 : World} {x bb : Nat} {all : List Tok} {r : R} {t : Tok} (h : LRepA w x bb all r) (heq : r.toks.length = all.length)
    (f2 : Fr (fun _ => False) (w.alloc (.cells #[.int .i64 t.kind, .int .i64 t.pos, .int .i64 t.val, .string t.text] 182)).drew w2) (s2 : w2.heap.size = w.heap.size + 1 + 1) (f3 : Fr (fun b => b = w.heap.size + 1) w2 w3) :
    Fr (fun b => b = w.heap.size + 1) w w3 ∧ (∀ o, w3.frozen? ⟨x, o, none⟩ = false) ∧ w3.cell? ⟨x, 0, none⟩ = some (.slice (some ⟨bb, 0, none⟩) all.length all.length) ∧ w3.cell? ⟨x, 1, none⟩ = some (.int .i64 all.length) ∧
    w3.cell? ⟨w.heap.size, 0, none⟩ = some (.int .i64 t.kind) ∧ w3.cell? ⟨w.heap.size, 1, none⟩ = some (.int .i64 t.pos) ∧ w3.cell? ⟨w.heap.size, 2, none⟩ = some (.int .i64 t.val) ∧ w3.cell? ⟨w.heap.size, 3, none⟩ = some (.string t.text) := by
  have hxl := h.main.lt
  have fa2 : Fr (fun _ => False) w w2 := ((Fr.refl (fun _ => False) w).alloc _).drew.trans f2 (fun _ _ h => h)
  have fa3 : Fr (fun b => b = w.heap.size + 1) w w3 := (fa2.mono (fun _ _ h => h.elim)).trans f3 (fun _ _ h => h)
  have hm3 := h.main.frame fa3 (show ¬ (x = w.heap.size + 1) by omega)
  have q : ∀ o, w3.cell? ⟨w.heap.size, o, none⟩ = (#[.int .i64 t.kind, .int .i64 t.pos, .int .i64 t.val, .string t.text] : Array Value)[o]? := fun o => by
    rw [f3.cell (p := ⟨w.heap.size, o, none⟩) (by show w.heap.size < w2.heap.size; omega) (by show ¬ (w.heap.size = w.heap.size + 1); omega)]
    have f2' : Fr (fun _ => False) (w.alloc (.cells #[.int .i64 t.kind, .int .i64 t.pos, .int .i64 t.val, .string t.text] 182)) w2 := ((Fr.refl (fun _ => False) _).drew).trans f2 (fun _ _ h => h)
    exact f2'.newCell (by simp) o
  exact ⟨fa3, hm3.frozen, hm3.cell (by omega), by rw [← heq]; exact hm3.cell (by omega), q 0, q 1, q 2, q 3⟩

theorem lay_wider (all : List Tok) (o : Nat) :
    lay (fun k => (Value.agg #[.int .i64 0, .int .i64 0, .int .i64 0, .string ⟨#[]⟩]).cells[k % (Value.agg #[.int .i64 0, .int .i64 0, .int .i64 0, .string ⟨#[]⟩]).cells.size]!) 0 (rowOf (bufF all) 0 (all.length * 4)) o = bufF (all ++ List.replicate all.length zeroTok) o := by
  by_cases h : o < all.length * 4
  · rw [lay_in _ _ _ _ (Nat.zero_le _) (by rw [rowOf_length]; omega)]
    simp only [rowOf, Nat.zero_add, Nat.sub_zero, List.getElem_map, List.getElem_range, bufF, List.getD_eq_getElem?_getD]
    rw [List.getElem?_append_left (by omega)]
  · rw [lay_out _ _ _ _ (.inr (by rw [rowOf_length]; omega)), zero_cells]
    simp only [bufF, List.getD_eq_getElem?_getD]
    rw [List.getElem?_append_right (by omega), List.getElem?_replicate]
    split <;> rfl

set_option maxRecDepth 100000 in
set_option maxHeartbeats 4000000 in
theorem push_full {w : World} {x bb : Nat} {all : List Tok} {r : R} (h : LRepA w x bb all r) (t : Tok) (heq : r.toks.length = all.length) (h8 : all.length ≤ 4096) :
    Calls Tryz.prog 145 #[.pointer (some ⟨x, 0, none⟩), tokV t] w fun e w' => e = .returned (.tuple #[]) ∧ LTo w w' x bb (pushR r t) := by
  unfold tokV
  have f1 := (Fr.refl (fun _ => False) w).alloc (.cells #[.int .i64 t.kind, .int .i64 t.pos, .int .i64 t.val, .string t.text] 182)
  have h1 := h.frame f1 (by simp) (by simp)
  have c0 : w.cell? ⟨x, 0, none⟩ = some (.slice (some ⟨bb, 0, none⟩) all.length all.length) := h.main.cell (by omega)
  have c1 : w.cell? ⟨x, 1, none⟩ = some (.int .i64 all.length) := by rw [← heq]; exact h.main.cell (by omega)
  have z0 := h.main.frozen
  have hxl := h.main.lt
  have hbl := h.buf.lt
  have hne := h.ne
  have hhi := h.hi
  have hlo := h.lo
  have Heq : Hid _ := heq
  clear heq
  go_enter Tryz.func145, Tryz.ntmps145
  go_wp2_with fail
  refine wp_region_text (by kernel_rfl) (by kernel_rfl) ?_
  go_wp2_with fail
  refine ⟨by kernel_rfl, ?_⟩
  go_wp2_with (first
    | (refine wpList_makeB (by rfl) 97 _ _ (by rfl) 182 4 40 (.agg #[.int .i64 0, .int .i64 0, .int .i64 0, .string ⟨#[]⟩]) (2 * all.length) (by exact two_len _) (by exact two_len _) Tryz.underlying97 (by kernel_rfl) (by kernel_rfl) (by kernel_rfl) (by omega) (by omega) ?_
       intro w2 f2 s2 hb2
       rw [drew_alloc_size] at hb2 s2
       have fa2 : Fr (fun _ => False) w w2 := f1.drew.trans f2 (fun _ _ h => h)
       have h2 := h.frame fa2 (by simp) (by simp)
       have d0 : w2.cell? ⟨x, 0, none⟩ = some (.slice (some ⟨bb, 0, none⟩) all.length all.length) := h2.main.cell (by omega)
       have hbuf := h2.buf
       have hne2 : bb ≠ w.heap.size + 1 := by omega)
    | (refine wpList_copyA (by rfl) _ _ 97 97 (by rfl) 182 4 (w.heap.size + 1) 0 (2 * all.length) (2 * all.length) bb 0 all.length all.length (2 * all.length * 4) (all.length * 4) all.length _ (bufF all) (by rfl) (by rfl) Tryz.underlying97 (by kernel_rfl) (by show _ = min _ _; omega) hb2 hbuf (by omega) (by omega) (fun j _ => bufF_one _ _) ?_
       intro w3 f3 hb3
       obtain ⟨fa3, z3, y0, y1, q0, q1, q2, q3⟩ := push_facts h Heq.out f2 s2 f3
       have zb3 := hb3.frozen
       have v0 := hb3.cell (o := all.length * 4) (by omega)
       have v1 := hb3.cell (o := all.length * 4 + 1) (by omega)
       have v2 := hb3.cell (o := all.length * 4 + 2) (by omega)
       have v3 := hb3.cell (o := all.length * 4 + 3) (by omega)
       have hlt2 : all.length < 2 * all.length := by omega
       clear hb2 f2 fa2 h2 d0 hbuf))
  refine wp_region_text (by kernel_rfl) (by kernel_rfl) ?_
  go_wp2_with fail
  refine ⟨by kernel_rfl, ?_⟩
  go_wp2_with fail
  go_end0
  have k1 := h.wider _ fa3 (show ¬ (x = w.heap.size + 1) by omega) (show w.heap.size + 1 ≠ x by omega) h8 _ hb3 (fun o _ => by
    exact lay_wider all o)
  have k2 := (k1.pushAt t (by have := Heq.out; simp; omega)).drew
  rw [Heq.out] at k2
  refine ⟨rfl, w.heap.size + 1, ⟨_, k2⟩, ?_, .inr (by omega)⟩
  refine Fr.drew ?_
  refine Fr.setC ?_ _ _ _ (fun _ => .inl rfl)
  iterate 4 refine Fr.setNew ?_ (by omega)
  refine Fr.setC ?_ _ _ _ (fun _ => .inl rfl)
  exact fa3.mono (fun b hb e => by omega)

theorem push_any {w : World} {x bb : Nat} {r : R} (h : LRep w x bb r) (hr : r.toks.length ≤ 4096) (t : Tok) :
    Calls Tryz.prog 145 #[.pointer (some ⟨x, 0, none⟩), tokV t] w fun e w' => e = .returned (.tuple #[]) ∧ LTo w w' x bb (pushR r t) := by
  obtain ⟨all, h⟩ := h
  by_cases hlt : r.toks.length < all.length
  · exact push_room h t hlt
  · have := h.le
    exact push_full h t (by omega) (by omega)
end Go.Proofs.Qxb6500277aGreat
