import Derived.Test.Qxb6500283aGreatPkIn
import Derived.Test.Qxb6500283aGreatPmWSmall
import Derived.Test.Qxb6500283aGreatCopy
namespace Go.Proofs.Qxb6500283aGreat
open Go Go.RowKit

def cpy (g : Nat → Int) (o : Nat) (f : Nat → Int) (p n : Nat) : Nat → Int := fun k => if o ≤ k ∧ k < o + n then f (p + (k - o)) else g k
theorem lay_ints (g : Nat → Int) (o : Nat) (f : Nat → Int) (p n : Nat) : lay (ints g) o (rowOf (ints f) p n) = ints (cpy g o f p n) := by
  funext k
  by_cases h : o ≤ k ∧ k < o + n
  · rw [lay_in _ _ _ _ h.1 (by rw [rowOf_length]; exact h.2)]
    simp [rowOf, ints, cpy, h]
  · rw [lay_out _ _ _ _ (by rw [rowOf_length]; omega)]
    simp [ints, cpy, h]
def updG (g : Nat → Nat → Int) (W : Nat) (h : Nat → Int) : Nat → Nat → Int := fun V => if V = W then h else g V
def followS (p : List In) (size : Int) (W pc : Nat) (at_ : Int) (s : PS) : PS :=
  let n := (s.f (W * 130 + 128)).toNat
  let s1 : PS := { s with f := putF s.f W pc }
  match p[pc]? with
  | none => s
  | some i =>
    if i.op = 2 then pushS s1 i.x (-1) 0
    else if i.op = 1 then pushS (pushS s1 i.y (-1) 0) i.x (-1) 0
    else if i.op = 3 then
      let s2 := pushS s1 0 i.x (s1.r i.x.toNat)
      pushS { s2 with r := upd s2.r i.x.toNat at_ } (pc + 1) (-1) 0
    else if i.op = 4 then (if at_ = 0 then pushS s1 (pc + 1) (-1) 0 else s1)
    else if i.op = 5 then (if at_ = size then pushS s1 (pc + 1) (-1) 0 else s1)
    else { s1 with g := updG s1.g W (cpy (s1.g W) (n * 8) s1.r 0 8) }

theorem putF_261 (f : Nat → Int) (W pc : Nat) (hW : W < 2) (hpc : pc < 64) (hn : (f (W * 130 + 128)).toNat < 64) : putF f W pc 261 = f 261 := by
  unfold putF upd; simp only [show (261 : Nat) ≠ W * 130 + 128 by omega, show (261 : Nat) ≠ W * 130 + 64 + pc by omega, show (261 : Nat) ≠ W * 130 + (f (W * 130 + 128)).toNat by omega, if_false]

set_option maxHeartbeats 1000000 in
theorem follow_jmp {w : World} {x : Nat} {s : PS} (h : PRep w x s) (p : List In) (pb cap : Nat) (hp : PAt w pb p) (hpb : ¬ pOwn x pb) (size : Int) (W pc n sp : Nat) (at_ : Int) (hW : W < 2) (hpc : pc < p.length) (hlen : p.length ≤ 64)
    (hn : s.f (W * 130 + 128) = n) (hlt : n < 64) (hsp : s.f 261 = sp) (hsp' : sp < 64) (hop : p[pc].op = 2) :
    Calls Tryz.prog 93 #[.pointer (some ⟨x, 0, none⟩), .slice (some ⟨pb, 0, none⟩) p.length cap, .int .i64 size, .int .i64 W, .int .i64 pc, .int .i64 at_] w fun e w' =>
      e = .returned (.tuple #[]) ∧ PRep w' x (followS p size W pc at_ s) ∧ Fr (pOwn x) w w' := by
  have e1 : followS p size W pc at_ s = pushS { s with f := putF s.f W pc } p[pc].x (-1) 0 := by simp [followS, hpc, hop]
  have hs1 : ({ s with f := putF s.f W pc } : PS).f 261 = (sp : Int) := by rw [← hsp]; exact putF_261 s.f W pc hW (by omega) (by omega)
  rw [e1]
  clear e1
  go_enter Tryz.func93, Tryz.ntmps93
  go_wp2_with fail
  refine (put_any h W pc n hW (by omega) hn hlt).mono ?_
  rintro e w1 ⟨rfl, h1, f1⟩
  have hp1 := hp.frame f1 hpb
  have d0 := hp1 pc hpc 0 (by omega)
  have d1 := hp1 pc hpc 1 (by omega)
  have d2 := hp1 pc hpc 2 (by omega)
  have d3 := hp1 pc hpc 3 (by omega)
  have d4 := hp1 pc hpc 4 (by omega)
  have d5 := hp1 pc hpc 5 (by omega)
  have d6 := hp1 pc hpc 6 (by omega)
  simp only [inCell, Nat.add_zero, hop] at d0 d1 d2 d3 d4 d5 d6
  go_wp2_with fail
  refine (pushM_any (h1.alloc _) sp _ _ _ hs1 (by omega)).mono ?_
  rintro e w2 ⟨rfl, h2, f2⟩
  go_wp2_with fail
  go_end0
  exact ⟨rfl, h2, (f1.alloc _).trans f2 (fun _ _ h => h)⟩
set_option maxHeartbeats 1000000 in
theorem follow_split {w : World} {x : Nat} {s : PS} (h : PRep w x s) (p : List In) (pb cap : Nat) (hp : PAt w pb p) (hpb : ¬ pOwn x pb) (size : Int) (W pc n sp : Nat) (at_ : Int) (hW : W < 2) (hpc : pc < p.length) (hlen : p.length ≤ 64)
    (hn : s.f (W * 130 + 128) = n) (hlt : n < 64) (hsp : s.f 261 = sp) (hsp' : sp < 64) (hop : p[pc].op = 1) :
    Calls Tryz.prog 93 #[.pointer (some ⟨x, 0, none⟩), .slice (some ⟨pb, 0, none⟩) p.length cap, .int .i64 size, .int .i64 W, .int .i64 pc, .int .i64 at_] w fun e w' =>
      e = .returned (.tuple #[]) ∧ PRep w' x (followS p size W pc at_ s) ∧ Fr (pOwn x) w w' := by
  have e1 : followS p size W pc at_ s = pushS (pushS { s with f := putF s.f W pc } p[pc].y (-1) 0) p[pc].x (-1) 0 := by simp [followS, hpc, hop]
  have hs1 : ({ s with f := putF s.f W pc } : PS).f 261 = (sp : Int) := by rw [← hsp]; exact putF_261 s.f W pc hW (by omega) (by omega)
  rw [e1]
  clear e1
  go_enter Tryz.func93, Tryz.ntmps93
  go_wp2_with fail
  refine (put_any h W pc n hW (by omega) hn hlt).mono ?_
  rintro e w1 ⟨rfl, h1, f1⟩
  have hp1 := hp.frame f1 hpb
  have d0 := hp1 pc hpc 0 (by omega)
  have d1 := hp1 pc hpc 1 (by omega)
  have d2 := hp1 pc hpc 2 (by omega)
  have d3 := hp1 pc hpc 3 (by omega)
  have d4 := hp1 pc hpc 4 (by omega)
  have d5 := hp1 pc hpc 5 (by omega)
  have d6 := hp1 pc hpc 6 (by omega)
  simp only [inCell, Nat.add_zero, hop] at d0 d1 d2 d3 d4 d5 d6
  go_wp2_with fail
  refine (pushM_any (h1.alloc _) sp _ _ _ hs1 (by omega)).mono ?_
  rintro e w2 ⟨rfl, h2, f2⟩
  have hx : w2.cell? ⟨w1.heap.size, 1, none⟩ = some (.int .i64 p[pc].x) := by
    have hb := h1.no.lt
    rw [f2.cell (p := ⟨w1.heap.size, 1, none⟩) (by simp) (by unfold pOwn; simp; omega), World.cell?_alloc_new]; rfl
  go_wp2_with fail
  refine (pushM_any h2 (sp + 1) _ _ _ (by simp only [pushS, upd_same]; rw [hs1]; rfl) (by omega)).mono ?_
  rintro e w3 ⟨rfl, h3, f3⟩
  go_wp2_with fail
  go_end0
  exact ⟨rfl, h3, ((f1.alloc _).trans f2 (fun _ _ h => h)).trans f3 (fun _ _ h => h)⟩
end Go.Proofs.Qxb6500283aGreat
