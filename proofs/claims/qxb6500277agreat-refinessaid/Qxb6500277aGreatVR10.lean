/- The real machine: ref locals. -/
import Derived.Test.Qxb6500277aGreatVR9
namespace Go.Proofs.Qxb6500277aGreat
open Go Go.RowKit

/-- What an instruction leaves: the machine, and a heap that shows what the model's shows. -/
def RZ (w : World) (A : Va) (C : List Nat) (I : List Int) (V' : Vs) (M' : MS) (cv iv ov : Value) (e : Ending) (w' : World) : Prop := e = .returned (.tuple #[]) ∧ ∃ S', RY w' A C I V' S' cv iv ov ∧ Rel S' M' ∧ Fr (VS A) w w'
section
variable {w w' : World} {A : Va} {C : List Nat} {I : List Int} {V : Vs} {S S' : HS} {M : MS} {st st' : Nat → Int} {G : Gx} {nf : Nat} {cv iv ov : Value} {F : Nat → Prop} {f : Fm} {r : List Fm}
set_option maxRecDepth 100000 in
set_option maxHeartbeats 4000000 in
theorem localR_no (H : RX w A C I V S st G nf cv iv ov) (hR : Rel S M) (hf : V.fs = f :: r) {op : Int} (s : Nat) (hs : f.lr ≤ s) : Calls Tryz.prog 111 #[.pointer (some ⟨A.m, 0, none⟩), .int .i64 op, .int .i64 (s : Nat)] w (RZ w A C I (V.die 24) M cv iv ov) := by
  have c1 := H.r_lr
  have c2 := H.r_en
  have hlt := H.lt
  have hz := H.blk.frozen
  obtain ⟨_, h1, _⟩ := H.lays hf
  rw [h1] at c1
  have z : decide ((s : Int) ≥ (f.lr : Int)) = true := decide_eq_true (by omega)
  have z2 : decide (f.lr ≤ s) = true := decide_eq_true hs
  have K := (H.s_en 24).y
  have HK : Hid (_ ∧ _) := ⟨K, (Fr.refl (VS A) w).setC A.m 61 (.int .i64 24) (fun _ => .inl rfl)⟩
  clear H K h1 hf
  go_enter Tryz.func111, Tryz.ntmps111
  go_wp2_with fail
  exact bodyPost_ret (v := .tuple #[]) (by simp [results, Tryz.results111, go_sem]) rfl ⟨rfl, S, HK.out.1, hR, HK.out.2⟩
set_option maxRecDepth 100000 in
set_option maxHeartbeats 4000000 in
theorem localR_ld (H : RX w A C I V S st G nf cv iv ov) (hR : Rel S M) (hf : V.fs = f :: r) (s : Nat) (hs : s < f.lr) (hb : f.rb ≤ 24 ∧ f.lr ≤ 24) : Calls Tryz.prog 111 #[.pointer (some ⟨A.m, 0, none⟩), .int .i64 4, .int .i64 (s : Nat)] w (RZ w A C I (did V (dupM M (f.rb + s : Nat)).1) (dupM M (f.rb + s : Nat)).2 cv iv ov) := by
  have c1 := H.r_lr
  have c2 := H.r_rb
  have c3 := H.r_h
  have hlt := H.lt
  obtain ⟨_, h1, h3, _⟩ := H.lays hf
  rw [h1] at c1
  rw [h3] at c2
  have z : decide ((s : Int) ≥ (f.lr : Int)) = false := decide_eq_false (by omega)
  have z2 : decide (f.lr ≤ s) = false := decide_eq_false (by omega)
  have hD := dupF (H.same ((Fr.refl _ _).drew)).hm hR.top (f.rb + s : Nat)
  obtain ⟨q1, q2⟩ := hR.dup ((f.rb + s : Nat) : Int)
  rw [q1] at hD
  have HH : Hid _ := And.intro (H.same ((Fr.refl (fun _ => False) w).drew)) q2
  obtain ⟨hb1, hb2⟩ := hb
  have hs24 : s ≤ 24 := by omega
  obtain ⟨er, her⟩ : ∃ er, er = (dupM M ((f.rb + s : Nat) : Int)).1 := ⟨_, rfl⟩
  rw [← her] at hD ⊢
  have hD' : Calls Tryz.prog 154 #[.pointer (some ⟨A.h, 0, none⟩), .int .i64 ((f.rb : Int) + (s : Int))] w.drew fun e w' => e = .returned (.int .i64 er) ∧ HM w' A.h (dupN S ((f.rb + s : Nat) : Int)).2 ∧ Fr (OnlyH A.h) w.drew w' := hD
  clear hD
  clear H h1 h3 hf hs q1 q2 her hR
  go_enter Tryz.func111, Tryz.ntmps111
  go_wp2_with fail
  refine wp_region_text (by kernel_rfl) (by kernel_rfl) ?_
  go_wp2_with fail
  refine hD'.mono ?_
  rintro v w1 ⟨rfl, hm1, k1⟩
  clear hD'
  have R1 := HH.out.1.heap k1 hm1
  have hDid := heapDidF R1 er
  have HR1 : Hid _ := k1
  clear R1 k1 hm1
  go_wp2_with fail
  refine ⟨by kernel_rfl, ?_⟩
  go_wp2_with fail
  refine hDid.mono ?_
  rintro v w2 ⟨rfl, R2, k2⟩
  clear hDid
  go_wp2_with fail
  exact bodyPost_ret (v := .tuple #[]) (by simp [results, Tryz.results111, go_sem]) rfl ⟨rfl, _, R2.y, HH.out.2, (((Fr.refl (VS A) w).drew).trans (HR1.out.mono (fun b _ h => .inr h)) (fun _ _ h => h)).trans k2 (fun _ _ h => h)⟩
end
end Go.Proofs.Qxb6500277aGreat
