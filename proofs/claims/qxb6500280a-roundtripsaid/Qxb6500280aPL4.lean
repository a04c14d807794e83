/- The law: ground, small things. -/
import Derived.Test.Qxb6500280aPL3
namespace Go.Proofs.Qxb6500280a
open Go Go.RowKit

/-- The script lies in memory. -/
def ScrAt (w : World) (a : Option Addr) (n : Nat) : Prop := n = 0 ∨ ∃ b off, a = some ⟨b, off, none⟩ ∧ b < w.heap.size ∧ ∀ i, i < n → ∃ kind A B C S T,
  w.cell? ⟨b, off + i * 6, none⟩ = some (.int .i64 kind) ∧ w.cell? ⟨b, off + i * 6 + 1, none⟩ = some (.int .i64 A) ∧ w.cell? ⟨b, off + i * 6 + 2, none⟩ = some (.int .i64 B) ∧
  w.cell? ⟨b, off + i * 6 + 3, none⟩ = some (.int .i64 C) ∧ w.cell? ⟨b, off + i * 6 + 4, none⟩ = some (.string S) ∧ w.cell? ⟨b, off + i * 6 + 5, none⟩ = some (.string T)
def opC (kind a b c : Int) (s t : ByteArray) (o : Nat) : Value := match o with | 0 => .int .i64 kind | 1 => .int .i64 a | 2 => .int .i64 b | 3 => .int .i64 c | 4 => .string s | _ => .string t
theorem box6 (w : World) (kind a b c : Int) (s t : ByteArray) : Blk (w.alloc (.cells #[.int .i64 kind, .int .i64 a, .int .i64 b, .int .i64 c, .string s, .string t] 36)) w.heap.size 6 (opC kind a b c s t) := Blk.new w _ _ _ fun o ho => by
  have ho : o < 6 := by simpa using ho
  obtain rfl | rfl | rfl | rfl | rfl | rfl : o = 0 ∨ o = 1 ∨ o = 2 ∨ o = 3 ∨ o = 4 ∨ o = 5 := by omega
  all_goals rfl
theorem Blk.six {w : World} {x : Nat} {kind a b c : Int} {s t : ByteArray} (h : Blk w x 6 (opC kind a b c s t)) : w.cell? ⟨x, 0, none⟩ = some (.int .i64 kind) ∧ w.cell? ⟨x, 1, none⟩ = some (.int .i64 a) ∧ w.cell? ⟨x, 2, none⟩ = some (.int .i64 b) ∧ w.cell? ⟨x, 3, none⟩ = some (.int .i64 c) ∧ w.cell? ⟨x, 4, none⟩ = some (.string s) ∧ w.cell? ⟨x, 5, none⟩ = some (.string t) :=
  ⟨h.cell (by omega), h.cell (by omega), h.cell (by omega), h.cell (by omega), h.cell (by omega), h.cell (by omega)⟩
set_option maxRecDepth 100000 in
set_option maxHeartbeats 1000000 in
theorem groundF (w : World) : Calls Try.prog 10 #[] w fun e w' => ∃ lx bb r, e = .returned (.agg #[.pointer (some ⟨lx, 0, none⟩)]) ∧ LRep w' lx bb r ∧ Fr (fun _ => False) w w' ∧ w.heap.size ≤ lx ∧ w.heap.size ≤ bb := by
  go_enter Try.func10, Try.ntmps10
  go_wp2_with fail
  refine (newL _).mono ?_
  rintro e w1 ⟨rfl, L1, f1⟩
  have hs : (w.alloc (.cells #[.pointer none] 29)).heap.size = w.heap.size + 1 := by simp [World.size_alloc]
  obtain ⟨bb, hbb⟩ : ∃ bb, (w.alloc (.cells #[.pointer none] 29)).heap.size = bb := ⟨_, rfl⟩
  rw [hbb] at L1 hs ⊢
  obtain ⟨lx, hlx⟩ : ∃ lx, bb + 1 = lx := ⟨_, rfl⟩
  rw [hlx] at L1 ⊢
  have hb0 : Blk (w.alloc (.cells #[.pointer none] 29)) w.heap.size 1 (fun _ => .pointer none) := Blk.new w _ _ _ fun o ho => by
    have : o < 1 := ho
    obtain rfl : o = 0 := by omega
    rfl
  have hb1 := hb0.frame f1 (fun h => h)
  have c0 := hb1.cell (o := 0) (by omega)
  have cz := hb1.frozen
  have cl := hb1.lt
  have F1 := ((Fr.refl (fun _ => False) w).alloc (.cells #[.pointer none] 29)).trans f1 (fun _ _ h => h)
  have HL : Hid (LRep w1 lx bb rNew) := L1
  have Hs : Hid (w.heap.size < bb ∧ w.heap.size < lx) := ⟨by omega, by omega⟩
  have HF : Hid _ := F1
  have HB : Hid (Blk w1 w.heap.size 1 _) := hb1
  clear L1 hs F1 f1 hb0 hb1 hlx hbb
  go_wp2_with fail
  have Z := HB.out.set 0 (.pointer (some ⟨lx, 0, none⟩))
  have q0 := Z.cell (o := 0) (by omega)
  simp only [upd] at q0
  refine bodyPost_ret (v := .agg #[.pointer (some ⟨lx, 0, none⟩)]) (by simp [results, Try.results10, go_sem, q0]) rfl ?_
  have K := (Fr.refl (fun c => c = w.heap.size) w1).setC w.heap.size 0 (.pointer (some ⟨lx, 0, none⟩)) (fun _ => rfl)
  exact ⟨lx, bb, rNew, rfl, HL.out.frame K (by have := Hs.out; omega) (by have := Hs.out; omega), HF.out.setNew (Nat.le_refl _), by have := Hs.out; omega, by have := Hs.out; omega⟩
theorem trC_blk (w : World) (v : Value) (r e q : Int) : Blk (w.alloc (box4v v r e q)) w.heap.size 4 (trC v r e q) := Blk.new w _ _ _ fun o ho => by
  obtain rfl | rfl | rfl | rfl : o = 0 ∨ o = 1 ∨ o = 2 ∨ o = 3 := by have : o < 4 := ho; omega
  all_goals rfl
theorem Blk.four {w : World} {b : Nat} {v : Value} {r e q : Int} (h : Blk w b 4 (trC v r e q)) : w.cell? ⟨b, 0, none⟩ = some v ∧ w.cell? ⟨b, 1, none⟩ = some (.int .i64 r) ∧ w.cell? ⟨b, 2, none⟩ = some (.int .i64 e) ∧ w.cell? ⟨b, 3, none⟩ = some (.int .i64 q) ∧ b < w.heap.size :=
  ⟨h.cell (by omega), h.cell (by omega), h.cell (by omega), h.cell (by omega), h.lt⟩
/-- The two trees laid into the two boxes. -/
theorem put8 {w : World} {bt bu : Nat} {f g : Nat → Value} (hne : bt ≠ bu) (h1 : Blk w bt 4 f) (h2 : Blk w bu 4 g) (v u : Value) (r e q r' e' q' : Int) :
    Blk ((((((((w.setCell ⟨bt, 0, none⟩ v).setCell ⟨bt, 1, none⟩ (.int .i64 r)).setCell ⟨bt, 2, none⟩ (.int .i64 e)).setCell ⟨bt, 3, none⟩ (.int .i64 q)).setCell ⟨bu, 0, none⟩ u).setCell ⟨bu, 1, none⟩ (.int .i64 r')).setCell ⟨bu, 2, none⟩ (.int .i64 e')).setCell ⟨bu, 3, none⟩ (.int .i64 q')).drew bt 4 (trC v r e q) ∧
    Blk ((((((((w.setCell ⟨bt, 0, none⟩ v).setCell ⟨bt, 1, none⟩ (.int .i64 r)).setCell ⟨bt, 2, none⟩ (.int .i64 e)).setCell ⟨bt, 3, none⟩ (.int .i64 q)).setCell ⟨bu, 0, none⟩ u).setCell ⟨bu, 1, none⟩ (.int .i64 r')).setCell ⟨bu, 2, none⟩ (.int .i64 e')).setCell ⟨bu, 3, none⟩ (.int .i64 q')).drew bu 4 (trC u r' e' q') ∧
    Fr (fun c => c = bt ∨ c = bu) w ((((((((w.setCell ⟨bt, 0, none⟩ v).setCell ⟨bt, 1, none⟩ (.int .i64 r)).setCell ⟨bt, 2, none⟩ (.int .i64 e)).setCell ⟨bt, 3, none⟩ (.int .i64 q)).setCell ⟨bu, 0, none⟩ u).setCell ⟨bu, 1, none⟩ (.int .i64 r')).setCell ⟨bu, 2, none⟩ (.int .i64 e')).setCell ⟨bu, 3, none⟩ (.int .i64 q')).drew := by
  refine ⟨Blk.drew ?_, Blk.drew ?_, Fr.drew ?_⟩
  · refine (((((((h1.set 0 v).set 1 (.int .i64 r)).set 2 (.int .i64 e)).set 3 (.int .i64 q)).setOther ⟨bu, 0, none⟩ u hne).setOther ⟨bu, 1, none⟩ _ hne).setOther ⟨bu, 2, none⟩ _ hne).setOther ⟨bu, 3, none⟩ _ hne |>.congr fun o ho => ?_
    obtain rfl | rfl | rfl | rfl : o = 0 ∨ o = 1 ∨ o = 2 ∨ o = 3 := by omega
    all_goals rfl
  · refine (((((((h2.setOther ⟨bt, 0, none⟩ v (Ne.symm hne)).setOther ⟨bt, 1, none⟩ _ (Ne.symm hne)).setOther ⟨bt, 2, none⟩ _ (Ne.symm hne)).setOther ⟨bt, 3, none⟩ _ (Ne.symm hne)).set 0 u).set 1 (.int .i64 r')).set 2 (.int .i64 e')).set 3 (.int .i64 q') |>.congr fun o ho => ?_
    obtain rfl | rfl | rfl | rfl : o = 0 ∨ o = 1 ∨ o = 2 ∨ o = 3 := by omega
    all_goals rfl
  · exact ((((((((Fr.refl _ w).setC bt 0 _ (fun _ => .inl rfl)).setC bt 1 _ (fun _ => .inl rfl)).setC bt 2 _ (fun _ => .inl rfl)).setC bt 3 _ (fun _ => .inl rfl)).setC bu 0 _ (fun _ => .inr rfl)).setC bu 1 _ (fun _ => .inr rfl)).setC bu 2 _ (fun _ => .inr rfl)).setC bu 3 _ (fun _ => .inr rfl)
end Go.Proofs.Qxb6500280a
