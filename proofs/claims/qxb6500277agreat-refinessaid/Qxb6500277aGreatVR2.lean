/- The real machine: operand counts, fuel, push. -/
import Derived.Test.Qxb6500277aGreatVR1
import Derived.BigQuiet
import Derived.BigRegion
namespace Go.Proofs.Qxb6500277aGreat
open Go Go.RowKit

section
variable {w w' : World} {A : Va} {C : List Nat} {I : List Int} {V : Vs} {S S' : HS} {st : Nat → Int} {G : Gx} {nf : Nat} {cv iv ov : Value} {F : Nat → Prop} {f : Fm} {r : List Fm}
/-- What the machine may write. -/
def VS (A : Va) (b : Nat) : Prop := b = A.m ∨ b = A.h
def RY (w : World) (A : Va) (C : List Nat) (I : List Int) (V : Vs) (S : HS) (cv iv ov : Value) : Prop := ∃ st G nf, RX w A C I V S st G nf cv iv ov
theorem RX.y (H : RX w A C I V S st G nf cv iv ov) : RY w A C I V S cv iv ov := ⟨st, G, nf, H⟩
theorem RY.same (H : RY w A C I V S cv iv ov) (k : Fr (fun _ => False) w w') : RY w' A C I V S cv iv ov := by
  obtain ⟨st, G, nf, H⟩ := H
  exact ⟨st, G, nf, H.same k⟩
theorem RX.lays (H : RX w A C I V S st G nf cv iv ov) (hf : V.fs = f :: r) : G.li = f.loc.length ∧ G.lr = f.lr ∧ G.rb = f.rb ∧ G.sp = G.fp + G.li + 3 + f.ops.length ∧ (∀ i, i < G.li → st (G.fp + i) = f.loc.getD i 0) ∧ st (G.fp + G.li) = f.ret ∧ (∀ i, i < f.ops.length → st (G.fp + G.li + 3 + i) = f.ops.getD i 0) := by
  have := H.lay
  rw [hf] at this
  simp only [Lay] at this
  exact ⟨this.1, this.2.1, this.2.2.1, this.2.2.2.1, this.2.2.2.2.1, this.2.2.2.2.2.1, this.2.2.2.2.2.2.1⟩
theorem RX.lt (H : RX w A C I V S st G nf cv iv ov) : A.m < w.heap.size := H.blk.lt
theorem RX.drewN (H : RX w A C I V S st G nf cv iv ov) (n : Nat) : RX (w.drewN n) A C I V S st G nf cv iv ov := H.same ((Fr.refl _ _).drewN n)
set_option maxRecDepth 100000 in
set_option maxHeartbeats 1000000 in
theorem iopsF (H : RX w A C I V S st G nf cv iv ov) (hf : V.fs = f :: r) : Calls Tryz.prog 101 #[.pointer (some ⟨A.m, 0, none⟩)] w fun e w' => e = .returned (.int .i64 (f.ops.length : Nat)) ∧ ∃ m, w' = w.drewN m := by
  have c1 := H.r_sp
  have c2 := H.r_fp
  have c3 := H.r_li
  have hlt := H.lt
  obtain ⟨h1, h2, h3, h4, _⟩ := H.lays hf
  have hs := H.s48
  have hfp : G.fp ≤ 48 := by omega
  have hli : G.li ≤ 48 := by omega
  have Hh : Hid _ := h4
  clear h4 h1 h2 h3 H hf
  go_enter Tryz.func101, Tryz.ntmps101
  go_wp2_with fail
  go_quiet (fail)
  go_wp2_with fail
  go_ret
  refine ⟨?_, _, rfl⟩
  have := Hh.out
  have e : ((G.sp : Int) - G.fp - G.li - 3) = ((f.ops.length : Nat) : Int) := by omega
  rw [← e]
  rfl
set_option maxRecDepth 100000 in
set_option maxHeartbeats 1000000 in
theorem ropsF (H : RX w A C I V S st G nf cv iv ov) (hf : V.fs = f :: r) (ht : S.top ≤ 24) (hr : f.rb ≤ 24 ∧ f.lr ≤ 24) : Calls Tryz.prog 102 #[.pointer (some ⟨A.m, 0, none⟩)] w fun e w' => e = .returned (.int .i64 ((S.top : Int) - f.rb - f.lr)) ∧ ∃ m, w' = w.drewN m := by
  have c1 := H.r_h
  have c2 := H.r_lr
  have c3 := H.r_rb
  have hlt := H.lt
  obtain ⟨h1, h2, h3, h4, _⟩ := H.lays hf
  rw [h2] at c2
  rw [h3] at c3
  have hD := fun n => depthF (H.drewN n).hm
  obtain ⟨hr1, hr2⟩ := hr
  clear h1 h2 h3 h4 H hf
  go_enter Tryz.func102, Tryz.ntmps102
  go_wp2_with fail
  go_quiet (first | (go_at_call 99; refine Calls.quiet_of_same (hD _)))
  go_wp2_with fail
  go_ret
  exact ⟨rfl, _, rfl⟩
def SpR (w : World) (A : Va) (C : List Nat) (I : List Int) (V : Vs) (S : HS) (cv iv ov : Value) (e : Ending) (w' : World) : Prop := Fr (VS A) w w' ∧ if V.fuel ≤ 0 then e = .returned (.bool false) ∧ RY w' A C I (V.die 22) S cv iv ov else e = .returned (.bool true) ∧ RY w' A C I { V with fuel := V.fuel - 1 } S cv iv ov
set_option maxRecDepth 100000 in
set_option maxHeartbeats 1000000 in
theorem spendF (H : RX w A C I V S st G nf cv iv ov) (hb : V.fuel ≤ 9223372036854775807) : Calls Tryz.prog 103 #[.pointer (some ⟨A.m, 0, none⟩)] w (SpR w A C I V S cv iv ov) := by
  have c1 := H.r_fuel
  have c2 := H.r_en
  have hlt := H.lt
  have hz := H.blk.frozen
  by_cases h : V.fuel ≤ 0
  · have K := (H.s_en 22).y
    have HK : Hid (_ ∧ _) := ⟨K, (Fr.refl (VS A) w).setC A.m 61 (.int .i64 22) (fun _ => .inl rfl)⟩
    have Hh : Hid _ := h
    clear H K
    go_enter Tryz.func103, Tryz.ntmps103
    go_wp2_with fail
    go_ret
    exact ⟨HK.out.2, by rw [if_pos Hh.out]; exact ⟨rfl, HK.out.1⟩⟩
  · have K := (H.s_fuel (V.fuel - 1)).y
    have HK : Hid (_ ∧ _) := ⟨K, (Fr.refl (VS A) w).setC A.m 59 (.int .i64 (V.fuel - 1)) (fun _ => .inl rfl)⟩
    have Hh : Hid _ := h
    have h1 : 0 < V.fuel := by omega
    clear H K h
    go_enter Tryz.func103, Tryz.ntmps103
    go_wp2_with fail
    go_ret
    exact ⟨HK.out.2, by rw [if_neg Hh.out]; exact ⟨rfl, HK.out.1⟩⟩
end
end Go.Proofs.Qxb6500277aGreat
