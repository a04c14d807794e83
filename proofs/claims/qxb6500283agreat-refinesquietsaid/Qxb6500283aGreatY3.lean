/- The builder's memory; lay, push. -/
import Derived.Test.Qxb6500283aGreatY2
namespace Go.Proofs.Qxb6500283aGreat
open Go Go.RowKit

def bCell (nv cv tv : Value) (j : Nat) : Value := match j with | 0 => nv | 1 => cv | _ => tv
def BMem (D : Nat → Prop) (w : World) (r : Nat) (nv : Value) (code : List In) (todo : List Wk) : Prop :=
  D r ∧ ∃ cv tv, Blk w r 3 (bCell nv cv tv) ∧ CodeAt w cv code ∧ WksAt w tv todo ∧ (∀ b n c, cv = .slice (some ⟨b, 0, none⟩) n c → D b ∧ r < b) ∧ (∀ b n c, tv = .slice (some ⟨b, 0, none⟩) n c → D b ∧ r < b) ∧
    ∀ b n c n' c', cv = .slice (some ⟨b, 0, none⟩) n c → tv = .slice (some ⟨b, 0, none⟩) n' c' → False
theorem bCell1 (nv cv tv v : Value) (o : Nat) (ho : o < 3) : upd (bCell nv cv tv) 1 v o = bCell nv v tv o := by
  obtain rfl | rfl | rfl : o = 0 ∨ o = 1 ∨ o = 2 := by omega
  all_goals simp [upd, bCell]
theorem bCell2 (nv cv tv v : Value) (o : Nat) (ho : o < 3) : upd (bCell nv cv tv) 2 v o = bCell nv cv v o := by
  obtain rfl | rfl | rfl : o = 0 ∨ o = 1 ∨ o = 2 := by omega
  all_goals simp [upd, bCell]
theorem Blk.inn (w : World) (x : In) : Blk (w.alloc (.cells #[.int .i64 x.op, .int .i64 x.x, .int .i64 x.y, .int .u64 x.s0, .int .u64 x.s1, .int .u64 x.s2, .int .u64 x.s3] 185)) w.heap.size 7 (inCell x) :=
  Blk.new w _ _ _ fun o ho => by
    have ho : o < 7 := by simpa using ho
    obtain rfl | rfl | rfl | rfl | rfl | rfl | rfl : o = 0 ∨ o = 1 ∨ o = 2 ∨ o = 3 ∨ o = 4 ∨ o = 5 ∨ o = 6 := by omega
    all_goals rfl
theorem PAt.one (w : World) (x : In) : PAt (w.alloc (.cells #[.int .i64 x.op, .int .i64 x.x, .int .i64 x.y, .int .u64 x.s0, .int .u64 x.s1, .int .u64 x.s2, .int .u64 x.s3] 185)) w.heap.size [x] := by
  intro k hk j hj
  obtain rfl : k = 0 := by simp at hk; omega
  have := (Blk.inn w x).cell (o := j) hj
  simpa using this
theorem KPAt.one (w : World) (x : Wk) : KPAt (w.alloc (.cells #[.int .i64 (x.what : Nat), .int .i64 (x.a : Nat), .int .i64 (x.b : Nat)] 181)) w.heap.size [x] := by
  intro k hk j hj
  obtain rfl : k = 0 := by simp at hk; omega
  have h : Blk (w.alloc (.cells #[.int .i64 (x.what : Nat), .int .i64 (x.a : Nat), .int .i64 (x.b : Nat)] 181)) w.heap.size 3 (wkCell x) := Blk.new w _ _ _ fun o ho => by
    have ho : o < 3 := by simpa using ho
    obtain rfl | rfl | rfl : o = 0 ∨ o = 1 ∨ o = 2 := by omega
    all_goals rfl
  have := h.cell (o := j) hj
  simpa using this
theorem WksAt.lt {w : World} {tv : Value} {p : List Wk} (h : WksAt w tv p) (b n c : Nat) (e : tv = .slice (some ⟨b, 0, none⟩) n c) : b < w.heap.size := by
  rcases h with ⟨rfl, _⟩ | ⟨b', cap, f, rfl, _, hb, _⟩
  · cases e
  · cases e; exact hb.lt
theorem CodeAt.lt {w : World} {tv : Value} {p : List In} (h : CodeAt w tv p) (b n c : Nat) (e : tv = .slice (some ⟨b, 0, none⟩) n c) : b < w.heap.size := by
  rcases h with ⟨rfl, _⟩ | ⟨b', cap, f, rfl, _, hb, _⟩
  · cases e
  · cases e; exact hb.lt
set_option maxRecDepth 100000 in
set_option maxHeartbeats 4000000 in
theorem layB_any {D : Nat → Prop} {w : World} {r : Nat} {nv : Value} {code : List In} {todo : List Wk} (x : In) (hM : BMem D w r nv code todo) (hlen : code.length ≤ 300) (hD : ∀ b, w.heap.size ≤ b → D b) :
    Calls Tryz.prog 89 #[.pointer (some ⟨r, 0, none⟩), inV x] w fun v w' => v = .returned (.int .i64 (code.length : Nat)) ∧ BMem D w' r nv (code ++ [x]) todo ∧ Fr D w w' := by
  obtain ⟨dr, cv, tv, hb, hC, hT, hcr, htr, hct⟩ := hM
  obtain ⟨ca, ccap, hcv⟩ : ∃ a c, cv = .slice a code.length c := by
    obtain ⟨a, c, e, _⟩ := hC.sl
    exact ⟨a, c, e⟩
  subst hcv
  have c1 := hb.cell (o := 1) (by omega)
  simp only [bCell] at c1
  have z := hb.frozen
  have hrl := hb.lt
  have F1 := (((Fr.refl (fun _ => False) w).alloc (.cells #[.int .i64 x.op, .int .i64 x.x, .int .i64 x.y, .int .u64 x.s0, .int .u64 x.s1, .int .u64 x.s2, .int .u64 x.s3] 185)).alloc (.cells #[.int .i64 x.op, .int .i64 x.x, .int .i64 x.y, .int .u64 x.s0, .int .u64 x.s1, .int .u64 x.s2, .int .u64 x.s3] 185)).drew
  have hb1 := hb.frame F1 (fun h => h)
  have hC1 := hC.frame F1 (fun _ _ _ _ h => h)
  have hT1 := hT.frame F1 (fun _ _ _ _ h => h)
  have hp0 := PAt.one (w.alloc (.cells #[.int .i64 x.op, .int .i64 x.x, .int .i64 x.y, .int .u64 x.s0, .int .u64 x.s1, .int .u64 x.s2, .int .u64 x.s3] 185)) x
  rw [World.size_alloc] at hp0
  have hp1 := hp0.frame (Fr.refl (fun _ => False) _).drew (fun h => h)
  unfold inV
  go_enter Tryz.func89, Tryz.ntmps89
  go_wp2_with fail
  refine wp_region_text (by kernel_rfl) (by kernel_rfl) ?_
  go_wp2_with (at_builtin; refine wpList_appendCode (by rfl) _ _ (by rfl) (.slice ca code.length ccap) code x (w.heap.size + 1) 1 (by rfl) (by rfl) hC1 hp1 (by omega) ?_; intro v' w8 hc hb8 f8; obtain ⟨va, vcap, rfl, hsl8⟩ := hc.sl; have hrb := hb1.frame f8 (fun ⟨n, c, e⟩ => by have := (hcr _ _ _ e).2; omega); have d1 := hrb.cell (o := 1) (by omega); have z8 := hrb.frozen)
  refine ⟨by kernel_rfl, ?_⟩
  have hvr : ∀ b n c, Value.slice va (code ++ [x]).length vcap = .slice (some ⟨b, 0, none⟩) n c → D b ∧ r < b := fun b n c e => by
    rcases hb8 b n c e with h | ⟨n', c', h⟩
    · simp only [World.size_drew, World.size_alloc] at h; exact ⟨hD b (by omega), by omega⟩
    · exact hcr b n' c' h
  have htl : ∀ b n c, tv = .slice (some ⟨b, 0, none⟩) n c → b < w.heap.size := hT.lt
  have hvt : ∀ b n c n' c', Value.slice va (code ++ [x]).length vcap = .slice (some ⟨b, 0, none⟩) n c → tv = .slice (some ⟨b, 0, none⟩) n' c' → False := fun b n c n' c' e e' => by
    rcases hb8 b n c e with h | ⟨n'', c'', h⟩
    · simp only [World.size_drew, World.size_alloc] at h; have := htl b n' c' e'; omega
    · exact hct b _ _ _ _ h e'
  have k9 := (Fr.refl (fun b => b = r) w8).setC r 1 (.slice va (code ++ [x]).length vcap) (fun _ => rfl)
  have hc2 := hc.frame k9 (fun b n c e h => by have := (hvr b n c e).2; omega)
  have hT2 := (hT1.frame f8 (fun b n c e ⟨n', c', h⟩ => hct b _ _ _ _ h e)).frame k9 (fun b n c e h => by have := (htr b n c e).2; omega)
  have hrb2 := (hrb.set 1 (.slice va (code ++ [x]).length vcap)).congr (bCell1 _ _ _ _)
  rw [one_appendI] at hc2 hvr hvt hT2 hrb2
  have d2 := hrb2.cell (o := 1) (by omega)
  simp only [bCell] at d2
  go_wp2_with fail
  go_ret
  refine ⟨by simp, ⟨dr, _, tv, hrb2, hc2, hT2, hvr, htr, hvt⟩, ?_⟩
  exact ((F1.mono (fun _ _ h => h.elim)).trans f8 (fun b hb ⟨n, c, e⟩ => (hcr b n c e).1)).setC r 1 _ (fun _ => dr)
end Go.Proofs.Qxb6500283aGreat
