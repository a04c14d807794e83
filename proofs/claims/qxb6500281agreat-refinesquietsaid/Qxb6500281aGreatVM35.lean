/- The model machine: the run's first state; answers of Run. -/
import Derived.Test.Qxb6500281aGreatVM10
import Derived.Test.Qxb6500281aGreatVL2
namespace Go.Proofs.Qxb6500281aGreat
open Go Go.RowKit

section
variable {w w' w5 wB wr : World} {m rn hm k j : Nat} {C : List Nat} {I : List Int} {V V' Vx : Vs} {M M' : MS} {O P F : Nat → Prop} {cv iv ov fv xv yv : Value} {g : Nat → Value} {fuel s t : Int}
theorem MR.new (hM : MM w5 hm ⟨[], []⟩ O) (k : Fr (fun _ => False) w5 wB) (hc : BAt wB cv C) (hi : KiAt wB iv I) (hr : Blk wB rn 12 (rC hm cv iv nilS nilS (V0 fuel))) (c1 : ∀ b, isB cv b → w5.heap.size ≤ b ∧ b ≠ rn) (i1 : ∀ b, isB iv b → w5.heap.size ≤ b ∧ b ≠ rn ∧ ¬ isB cv b) (r1 : w5.heap.size ≤ rn) (cl : C.length ≤ 4096) (cb : ∀ i, byteAt C i < 256) (il : I.length ≤ 128) :
    ME wB rn hm C I (V0 fuel) ⟨[], []⟩ (Gw O w5 wB) := by
  classical
  have hOl : ∀ c, O c → c < w5.heap.size := by
    obtain ⟨a, b, f, Y⟩ := hM
    exact Y.lt
  have hM' := hM.frame k (fun _ _ h => h)
  have gn : ∀ {c}, w5.heap.size ≤ c → c < wB.heap.size → Gw O w5 wB c := fun h1 h2 => .inr ⟨h1, h2⟩
  refine ⟨fun c => if c = rn then 0 else if isB cv c then 2 else if isB iv c then 3 else 5, cv, iv, nilS, nilS, fun _ => nilS, ⟨hr, hc, hi, .inl ⟨rfl, rfl⟩, .inl ⟨rfl, rfl⟩, trivial, ⟨O, hM', fun c h => ⟨?_, .inl h⟩⟩, ⟨if_pos rfl, gn r1 hr.lt⟩, fun b h => absurd h (nil_noB b), fun b h => ⟨?_, gn (c1 b h).1 (hc.bk h)⟩, fun b h => ⟨?_, gn (i1 b h).1 (hi.bk h)⟩, fun b h => absurd h (nil_noB b), fun i h => absurd h (Nat.not_lt_zero _), fun i h => absurd h (Nat.not_lt_zero _), gw_lt hOl k.size, cl, cb, il⟩⟩
  · have h1 := hOl c h
    show (if c = rn then 0 else if isB cv c then 2 else if isB iv c then 3 else 5) = 5
    rw [if_neg (by omega), if_neg (fun z => by have := (c1 c z).1; omega), if_neg (fun z => by have := (i1 c z).1; omega)]
  · show (if b = rn then 0 else if isB cv b then 2 else if isB iv b then 3 else 5) = 2
    rw [if_neg (c1 b h).2, if_pos h]
  · show (if b = rn then 0 else if isB cv b then 2 else if isB iv b then 3 else 5) = 3
    rw [if_neg (i1 b h).2.1, if_neg (i1 b h).2.2, if_pos h]
/-- What the first drawn statement leaves: the run's block. -/
structure Bo (w5 : World) (hm : Nat) (C : List Nat) (I : List Int) (fuel : Int) (rn : Nat) (cv iv : Value) (wB : World) : Prop where
  fr : Fr (fun _ => False) w5 wB
  code : BAt wB cv C
  inp : KiAt wB iv I
  blk : Blk wB rn 12 (rC hm cv iv nilS nilS (V0 fuel))
  c1 : ∀ b, isB cv b → w5.heap.size ≤ b ∧ b ≠ rn
  i1 : ∀ b, isB iv b → w5.heap.size ≤ b ∧ b ≠ rn ∧ ¬ isB cv b
  r1 : w5.heap.size ≤ rn
/-- The run under way. -/
structure RunJ (wB wr : World) (rn hm : Nat) (C : List Nat) (I : List Int) (X : Vs × MS) (k j : Nat) (Vx : Vs) (P : Nat → Prop) : Prop where
  le : j ≤ k
  same : SameE (itV C I j X).1 Vx
  z : MZ wB rn hm C I Vx (itV C I j X).2 P wr
/-- What Run of the model answers. -/
def RunM (w : World) (m hm : Nat) (Y : Vs × MS) (O : Nat → Prop) (e : Ending) (w' : World) : Prop :=
  ∃ ov' O', e = .returned (resV 0 0 Y.1.en Y.1.rt ov' Y.1.fuel) ∧ KiX w' ov' Y.1.out ∧ (∀ b, isB ov' b → w.heap.size ≤ b ∧ ¬ O' b) ∧ MX w' m hm Y.2 Y.1.steps (Y.1.most : Nat) O' ∧ (∀ c, O' c → O c ∨ w.heap.size ≤ c) ∧ Fr (fun c => c = m ∨ O c) w w'
set_option maxRecDepth 100000 in
set_option maxHeartbeats 600000 in
theorem runX_long {xa : Option Addr} {n c : Nat} {q yv : Value} {fuel : Int} (hn : 4096 < n) : Calls Tryz.prog 27 #[q, .slice xa n c, yv, .int .i64 fuel] w fun e w' => e = .returned (resV 31 4096 0 0 nilS fuel) ∧ Fr (fun _ => False) w w' := by
  have z1 : decide ((n : Int) > 4096) = true := decide_eq_true (by omega)
  have z2 : decide ((4096 : Int) < n) = true := decide_eq_true (by omega)
  go_enter Tryz.func27, Tryz.ntmps27
  go_wp2_with fail
  exact bodyPost_ret (v := resV 31 4096 0 0 nilS fuel) (by simp [results, Tryz.results27, go_sem, resV]) rfl ⟨rfl, (Fr.refl (fun _ => False) w).alloc _⟩
set_option maxRecDepth 100000 in
set_option maxHeartbeats 600000 in
theorem runX_inp {xa ya : Option Addr} {n c n2 c2 : Nat} {q : Value} {fuel : Int} (hn : n ≤ 4096) (hn2 : 128 < n2) : Calls Tryz.prog 27 #[q, .slice xa n c, .slice ya n2 c2, .int .i64 fuel] w fun e w' => e = .returned (resV 32 128 0 0 nilS fuel) ∧ Fr (fun _ => False) w w' := by
  have z1 : decide ((n : Int) > 4096) = false := decide_eq_false (by omega)
  have z2 : decide ((4096 : Int) < n) = false := decide_eq_false (by omega)
  have z3 : decide ((n2 : Int) > 128) = true := decide_eq_true (by omega)
  have z4 : decide ((128 : Int) < n2) = true := decide_eq_true (by omega)
  go_enter Tryz.func27, Tryz.ntmps27
  go_wp2_with fail
  exact bodyPost_ret (v := resV 32 128 0 0 nilS fuel) (by simp [results, Tryz.results27, go_sem, resV]) rfl ⟨rfl, (Fr.refl (fun _ => False) w).alloc _⟩
end
end Go.Proofs.Qxb6500281aGreat
