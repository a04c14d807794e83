/- The real engine between calls. -/
import Derived.Test.Qxb6500277aGreatGE23
import Derived.Test.Qxb6500277aGreatGP25
import Derived.Test.Qxb6500277aGreatCB9
import Derived.Test.Qxb6500277aGreatVR37
namespace Go.Proofs.Qxb6500277aGreat
open Go Go.RowKit

/-- The real machine between two runs. -/
structure RV (w : World) (A : Va) (cv iv : Value) : Prop where
  ex : ∃ C I V S st G nf, RX w A C I V S st G nf cv iv nilS ∧ ∃ M, Rel S M
section
variable {w w' : World} {A : Va} {cv iv xv yv : Value} {C : List Nat} {I : List Int} {fuel : Int} {F : Nat → Prop}
theorem RV.frame (H : RV w A cv iv) (k : Fr F w w') (hF : ∀ b, VQ A cv iv b → ¬ F b) : RV w' A cv iv := by
  obtain ⟨C, I, V, S, st, G, nf, R, h⟩ := H.ex
  exact ⟨⟨C, I, V, S, st, G, nf, R.frame k (fun b hb => ⟨fun e => hF b (.inl (.inl e)) hb, fun e => hF b (.inl (.inr e)) hb, fun e => hF b (.inr (.inl e)) hb, fun e => hF b (.inr (.inr e)) hb, nil_noB b⟩), h⟩⟩
theorem RV.lt (H : RV w A cv iv) {b : Nat} (h : VQ A cv iv b) : b < w.heap.size := by
  obtain ⟨C, I, V, S, st, G, nf, R, _⟩ := H.ex
  rcases h with (h | h) | h | h
  · rw [h]; exact R.lt
  · rw [h]; exact HM.lt R.hm
  · exact R.code.bk h
  · exact R.inp.bk h
/-- What a run answers. -/
structure RvR (w w' : World) (A : Va) (C : List Nat) (I : List Int) (fuel : Int) (cv iv : Value) (k : Nat) (cv' iv' ov : Value) : Prop where
  rr : RunR C I (X1 C fuel) k
  rv : RV w' A cv' iv'
  out : KiX w' ov (itV C I k (X1 C fuel)).1.out
  ob : ∀ b, isB ov b → w.heap.size ≤ b ∧ ¬ isB cv' b ∧ ¬ isB iv' b
  fr : Fr (VQ A cv iv) w w'
  cb : ∀ b, isB cv' b → w.heap.size ≤ b ∨ isB cv b
  ib : ∀ b, isB iv' b → w.heap.size ≤ b ∨ isB iv b
theorem RV.run (H : RV w A cv iv) (hx : BRd w xv C) (hy : KiAt w yv I) (hC : C.length ≤ 4096) (hI : I.length ≤ 128) (hcb : ∀ i, byteAt C i < 256)
    (hxd : ∀ b, isB xv b → ¬ VQ A cv iv b) (hyd : ∀ b, isB yv b → ¬ VQ A cv iv b) (hfu : fuel ≤ 9223372036854775807) :
    Calls Tryz.prog 48 #[.pointer (some ⟨A.m, 0, none⟩), xv, yv, .int .i64 fuel] w fun e w' => ∃ k cv' iv' ov, e = .returned (resV 0 0 (itV C I k (X1 C fuel)).1.en (itV C I k (X1 C fuel)).1.rt ov (itV C I k (X1 C fuel)).1.fuel) ∧ RvR w w' A C I fuel cv iv k cv' iv' ov := by
  obtain ⟨C0, I0, V, S, st, G, nf, R, M, hR⟩ := H.ex
  refine (runF R hR hx hy hC hI hcb hxd hyd fuel hfu).mono ?_
  rintro e w' ⟨k, h1, S', st', G', nf', cv', iv', ov', rfl, R', rel', K', b1, fr', b2, b3⟩
  exact ⟨k, cv', iv', ov', rfl, h1, ⟨⟨_, _, _, S', st', G', nf', R', _, rel'⟩⟩, K', b1, fr', b2, b3⟩
end
/-- The buffers between calls: empty, or as a compiling left them. -/
def GdB (B : Gb) : Prop := B = ⟨[], [], [], []⟩ ∨ ∃ P m, ProgOk P (codeP P m) (enP P m) m ∧ B = ⟨codeP P m, [], fxL P (ordL P.fns.length m) 0, (List.range P.fns.length).map fun i => ((enP P m i : Nat) : Int)⟩
/-- The real engine between calls, with all its parts. -/
structure GEx (w : World) (g c p : Nat) (A : Va) (P Op : Nat → Prop) (cv iv : Value) (hd : Nat → Value) (B : Gb) : Prop where
  gx : GX w g P hd B
  h0 : hd 0 = .pointer (some ⟨c, 0, none⟩)
  h1 : hd 1 = .pointer (some ⟨A.m, 0, none⟩)
  ri : RIx w p Op
  ci : CI w c p
  oc : ¬ Op c
  rv : RV w A cv iv
  ap : ∀ b, P b → ¬ Op b ∧ b ≠ c ∧ ¬ VQ A cv iv b
  ao : ∀ b, Op b → ¬ VQ A cv iv b
  ac : ¬ VQ A cv iv c
  gd : GdB B
/-- All its blocks. -/
def GAll (c : Nat) (A : Va) (P Op : Nat → Prop) (cv iv : Value) (b : Nat) : Prop := P b ∨ Op b ∨ b = c ∨ VQ A cv iv b
def GReal (w : World) (g : Nat) (R : Nat → Prop) : Prop := ∃ c p A P Op cv iv hd B, GEx w g c p A P Op cv iv hd B ∧ (∀ b, GAll c A P Op cv iv b → R b) ∧ ∀ b, R b → b < w.heap.size
section
variable {w w' : World} {g c p : Nat} {A : Va} {P Op F R R' : Nat → Prop} {cv iv : Value} {hd : Nat → Value} {B : Gb}
theorem GEx.frame (H : GEx w g c p A P Op cv iv hd B) (k : Fr F w w') (hF : ∀ b, GAll c A P Op cv iv b → ¬ F b) : GEx w' g c p A P Op cv iv hd B :=
  ⟨H.gx.frame k fun b hb => hF b (.inl hb), H.h0, H.h1, H.ri.frame k fun b hb => hF b (.inr (.inl hb)), H.ci.frame k (hF c (.inr (.inr (.inl rfl)))), H.oc, H.rv.frame k fun b hb => hF b (.inr (.inr (.inr hb))), H.ap, H.ao, H.ac, H.gd⟩
theorem GReal.lt (H : GReal w g R) : ∀ b, R b → b < w.heap.size := by
  obtain ⟨_, _, _, _, _, _, _, _, _, _, _, h⟩ := H
  exact h
theorem GReal.frame (H : GReal w g R) (k : Fr F w w') (hF : ∀ b, R b → ¬ F b) : GReal w' g R := by
  obtain ⟨c, p, A, P, Op, cv, iv, hd, B, H, h1, h2⟩ := H
  exact ⟨c, p, A, P, Op, cv, iv, hd, B, H.frame k fun b hb => hF b (h1 b hb), h1, fun b hb => Nat.lt_of_lt_of_le (h2 b hb) k.size⟩
theorem GReal.mono (H : GReal w g R) (h : ∀ b, R b → R' b) (hl : ∀ b, R' b → b < w.heap.size) : GReal w g R' := by
  obtain ⟨c, p, A, P, Op, cv, iv, hd, B, H, h1, h2⟩ := H
  exact ⟨c, p, A, P, Op, cv, iv, hd, B, H, fun b hb => h b (h1 b hb), hl⟩
end
end Go.Proofs.Qxb6500277aGreat
