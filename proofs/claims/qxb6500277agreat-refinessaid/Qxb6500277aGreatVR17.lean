/- The real machine: a frame goes. -/
import Derived.Test.Qxb6500277aGreatVR16
namespace Go.Proofs.Qxb6500277aGreat
open Go Go.RowKit

section
variable {w w' : World} {A : Va} {C : List Nat} {I : List Int} {V : Vs} {S S' : HS} {M : MS} {st st' : Nat → Int} {G : Gx} {nf : Nat} {cv iv ov : Value} {F : Nat → Prop} {f : Fm} {r : List Fm} {os : List Int}
theorem lenUsed : ∀ l : List Fm, l.length ≤ usedF l
  | [] => Nat.le_refl _
  | f :: l => by have := lenUsed l; simp only [usedF, List.length_cons]; omega
set_option maxRecDepth 100000 in
set_option maxHeartbeats 1000000 in
theorem leaveF (H : RX w A C I V S st G nf cv iv ov) (hf : V.fs = f :: r) : Calls Tryz.prog 159 #[.pointer (some ⟨A.m, 0, none⟩)] w fun e w' => e = .returned (.tuple #[]) ∧ (∃ G', RX w' A C I (leaveV V) S st G' (nf - 1) cv iv ov) ∧ Fr (VS A) w w' := by
  have hL := H.lay
  rw [hf] at hL
  obtain ⟨h1, h2, h3, h4, h5, h6, h7, G', g1, g2, g3, g4, g5, g6, g7⟩ := hL
  have hs := H.s48
  have hnf := H.nfe
  rw [hf] at hnf
  obtain ⟨m, rfl⟩ : ∃ m, nf = m + 1 := ⟨r.length, by simpa using hnf⟩
  have hm : m = r.length := by simpa using hnf
  obtain ⟨fp, li, b, hb, e1, e2⟩ : ∃ fp li b, b = fp + li ∧ G.fp = fp ∧ G.li = li := ⟨_, _, _, rfl, rfl, rfl⟩
  have c1 := H.r_fp
  have c2 := H.r_li
  have c7 := H.r_nf
  have p0 := H.r_st (k := b) (by omega)
  have p1 := H.r_st (k := b + 1) (by omega)
  have p2 := H.r_st (k := b + 2) (by omega)
  have i1 := H.r_sp
  have i2 := H.r_lr
  have i3 := H.r_rb
  have i4 := H.r_pc
  rw [hb, ← e1, ← e2, h6] at p0
  rw [show b + 1 = G.fp + G.li + 1 by omega, g5] at p1
  rw [show b + 2 = G.fp + G.li + 2 by omega, g6] at p2
  unfold packI at p2
  rw [← e1, ← e2, ] at hb
  rw [← hb] at p0 p1 p2
  rw [e1] at c1
  rw [e2] at c2
  have hlt := H.lt
  have hz := H.blk.frozen
  have B := fun nq => (((((((((((((((H.drewN nq).blk.set 55 (.int .i64 (f.ret : Nat))).congr (vC_pc f.ret)).set 49 (.int .i64 (fp : Nat))).congr (vC_sp fp)).set 50 (.int .i64 (G'.fp : Nat))).congr (vC_fp G'.fp)).set 51 (.int .i64 (G'.li : Nat))).congr (vC_li G'.li)).set 52 (.int .i64 (G'.lr : Nat))).congr (vC_lr G'.lr)).set 53 (.int .i64 (G'.rb : Nat))).congr (vC_rb G'.rb)).set 54 (.int .i64 (m : Nat))).congr (vC_nf m))
  have eV : leaveV V = { V with fs := r, pc := f.ret } := by unfold leaveV; rw [hf]
  have HB : Hid (_ ∧ _ ∧ _) := ⟨H, B, And.intro eV (And.intro g7 (And.intro hm (And.intro g1 (And.intro e1 hs))))⟩
  have q1 := packedLiF (G'.li + 256 * G'.lr + 65536 * G'.rb)
  have q2 := packedLrF (G'.li + 256 * G'.lr + 65536 * G'.rb)
  have q3 := packedRbF (G'.li + 256 * G'.lr + 65536 * G'.rb)
  rw [show (G'.li + 256 * G'.lr + 65536 * G'.rb) % 256 = G'.li by omega] at q1
  rw [show (G'.li + 256 * G'.lr + 65536 * G'.rb) / 256 % 256 = G'.lr by omega] at q2
  rw [show (G'.li + 256 * G'.lr + 65536 * G'.rb) / 65536 = G'.rb by omega] at q3
  generalize G'.li + 256 * G'.lr + 65536 * G'.rb = pk at *
  have hb48 : (b : Int) + 2 < 48 := by omega
  have hfl : (fp : Int) + (li : Int) = (b : Int) := by omega
  have hbb : b + 2 < 48 := by omega
  have hu := lenUsed V.fs
  have hu2 := H.lay.used
  have hm48 : m ≤ 48 := by rw [hf] at hu; rw [hf] at hu2; simp at hu; omega
  clear hu hu2
  clear H B eV hm hnf h1 h2 h3 h4 h5 h6 h7 g1 g2 g3 g4 g5 g6 g7 hs hf hb e1 e2
  generalize f.ret = rt at *
  obtain ⟨gsp, gfp, gli, glr, grb⟩ := G'
  simp only at *
  go_enter Tryz.func159, Tryz.ntmps159
  go_wp2_with fail
  go_quiet (fail)
  go_wp2_with fail
  refine (q1 _).mono ?_
  rintro v w3 ⟨rfl, rfl⟩
  go_wp2_with fail
  refine (q2 _).mono ?_
  rintro v w3 ⟨rfl, rfl⟩
  go_wp2_with fail
  refine (q3 _).mono ?_
  rintro v w3 ⟨rfl, rfl⟩
  go_wp2_with fail
  go_end0
  obtain ⟨H, B, eV, g7, hm, g1, e1, hs⟩ := HB.out
  have FF := ((((((((Fr.refl (fun b => b = A.m) (w.drewN nq)).setC A.m 55 (.int .i64 (rt : Nat)) (fun _ => rfl)).setC A.m 49 (.int .i64 (fp : Nat)) (fun _ => rfl)).setC A.m 50 (.int .i64 (gfp : Nat)) (fun _ => rfl)).setC A.m 51 (.int .i64 (gli : Nat)) (fun _ => rfl)).setC A.m 52 (.int .i64 (glr : Nat)) (fun _ => rfl)).setC A.m 53 (.int .i64 (grb : Nat)) (fun _ => rfl)).setC A.m 54 (.int .i64 (m : Nat)) (fun _ => rfl))
  refine ⟨rfl, ⟨⟨fp, gfp, gli, glr, grb⟩, ?_⟩, ((Fr.refl (VS A) w).drewN nq).trans (FF.mono (fun b _ h => .inl h)) (fun _ _ h => h)⟩
  have eg : gsp = fp := g1.trans e1
  rw [eg] at g7
  rw [eV]
  exact (H.drewN nq).turn FF ((B nq).congr (fun _ _ => rfl)) g7 hm rfl (by show fp ≤ 48; omega)
end
end Go.Proofs.Qxb6500277aGreat
