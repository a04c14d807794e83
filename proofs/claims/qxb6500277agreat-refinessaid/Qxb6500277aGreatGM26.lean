/- The definitional engine between runs; what its Run answers; the texts and inputs that are too long. -/
import Derived.Test.Qxb6500277aGreatGM25
import Derived.Test.Qxb6500277aGreatGL1
import Derived.Test.Qxb6500277aGreatMD12
import Derived.Test.Qxb6500277aGreatText8
namespace Go.Proofs.Qxb6500277aGreat
open Go Go.RowKit

def me2 (m hm : Nat) (o : Nat) : Value := match o with | 0 => .pointer (some ⟨m, 0, none⟩) | _ => .pointer (some ⟨hm, 0, none⟩)
/-- The definitional engine between runs. -/
structure MEx (w : World) (e m q hm : Nat) (M : MS) (O : Nat → Prop) : Prop where
  b : Blk w e 2 (me2 m hm)
  ck : MCI w m q
  hp : MM w hm M O
  r24 : M.rt.length ≤ 24
  oe : ¬ O e
  om : ¬ O m
  oq : ¬ O q
def MAll (e m q : Nat) (O : Nat → Prop) (b : Nat) : Prop := b = e ∨ b = m ∨ b = q ∨ O b
def MReal (w : World) (e : Nat) (R : Nat → Prop) : Prop := ∃ m q hm M O, MEx w e m q hm M O ∧ (∀ b, MAll e m q O b → R b) ∧ ∀ b, R b → b < w.heap.size
section
variable {w w' : World} {e m q hm : Nat} {M : MS} {O R F : Nat → Prop} {src : ByteArray} {I : List Int} {fuel : Int} {yv : Value}
theorem MEx.frame (h : MEx w e m q hm M O) (k : Fr F w w') (hF : ∀ b, MAll e m q O b → ¬ F b) : MEx w' e m q hm M O :=
  ⟨h.b.frame k (hF e (.inl rfl)), h.ck.frame k (hF m (.inr (.inl rfl))) (hF q (.inr (.inr (.inl rfl)))), h.hp.frame k fun b hb => hF b (.inr (.inr (.inr hb))), h.r24, h.oe, h.om, h.oq⟩
theorem MReal.frame (h : MReal w e R) (k : Fr F w w') (hF : ∀ b, R b → ¬ F b) : MReal w' e R := by
  obtain ⟨m, q, hm, M, O, h1, h2, h3⟩ := h
  exact ⟨m, q, hm, M, O, h1.frame k fun b hb => hF b (h2 b hb), h2, fun b hb => Nat.lt_of_lt_of_le (h3 b hb) k.size⟩
def MRunR (w : World) (e : Nat) (R : Nat → Prop) (src : ByteArray) (I : List Int) (fuel : Int) (x : Ending) (w' : World) : Prop := ∃ er po en rt fu L v R', x = .returned (resV er po en rt v fu) ∧ MAns src I fuel er po en rt fu L ∧ MReal w' e R' ∧ (∀ b, R' b → R b ∨ w.heap.size ≤ b) ∧ KiX w' v L ∧ (∀ b, isB v b → w.heap.size ≤ b ∧ ¬ R' b) ∧ Fr R w w'
set_option maxRecDepth 100000 in
set_option maxHeartbeats 1000000 in
theorem runMg_long (H : MReal w e R) (hs : 4096 < src.size) : Calls Tryz.prog 19 #[.pointer (some ⟨e, 0, none⟩), .string src, yv, .int .i64 fuel] w (MRunR w e R src I fuel) := by
  have z1 : decide ((src.size : Int) > 4096) = true := decide_eq_true (by omega)
  have z2 : decide ((4096 : Int) < src.size) = true := decide_eq_true (by omega)
  have HH : Hid (True ∧ _) := ⟨trivial, And.intro H hs⟩
  clear H hs
  go_enter Tryz.func19, Tryz.ntmps19
  go_wp2_with fail
  refine bodyPost_ret (v := resV 31 4096 0 0 nilS fuel) (by simp [results, Tryz.results19, go_sem, resV]) rfl ?_
  obtain ⟨_, H, hs⟩ := HH.out
  have k := (Fr.refl (fun _ => False) w).alloc (.cells #[.int .i64 31, .int .i64 4096, .int .i64 0, .int .i64 0, .slice none 0 0, .int .i64 fuel] 39)
  exact ⟨31, 4096, 0, 0, fuel, [], nilS, R, rfl, .inl ⟨hs, rfl, rfl, rfl, rfl, rfl, rfl⟩, H.frame k fun _ _ => id, fun b hb => .inl hb, .inl ⟨rfl, rfl⟩, fun b hb => absurd hb (nil_noB b), k.mono fun _ _ h => h.elim⟩
set_option maxRecDepth 100000 in
set_option maxHeartbeats 1000000 in
theorem runMg_inp (H : MReal w e R) (hy : KiAt w yv I) (hs : src.size ≤ 4096) (hI : 128 < I.length) : Calls Tryz.prog 19 #[.pointer (some ⟨e, 0, none⟩), .string src, yv, .int .i64 fuel] w (MRunR w e R src I fuel) := by
  have z1 : decide ((src.size : Int) > 4096) = false := decide_eq_false (by omega)
  have z2 : decide ((4096 : Int) < src.size) = false := decide_eq_false (by omega)
  have z3 : decide ((I.length : Int) > 128) = true := decide_eq_true (by omega)
  have z4 : decide ((128 : Int) < I.length) = true := decide_eq_true (by omega)
  obtain ⟨ya, yc, rfl, _⟩ := hy.sl
  have HH : Hid (True ∧ _) := ⟨trivial, And.intro H (And.intro hs hI)⟩
  clear H hs hI hy
  go_enter Tryz.func19, Tryz.ntmps19
  go_wp2_with fail
  refine bodyPost_ret (v := resV 32 128 0 0 nilS fuel) (by simp [results, Tryz.results19, go_sem, resV]) rfl ?_
  obtain ⟨_, H, hs, hI⟩ := HH.out
  have k := (Fr.refl (fun _ => False) w).alloc (.cells #[.int .i64 32, .int .i64 128, .int .i64 0, .int .i64 0, .slice none 0 0, .int .i64 fuel] 39)
  exact ⟨32, 128, 0, 0, fuel, [], nilS, R, rfl, .inr (.inl ⟨hs, hI, rfl, rfl, rfl, rfl, rfl, rfl⟩), H.frame k fun _ _ => id, fun b hb => .inl hb, .inl ⟨rfl, rfl⟩, fun b hb => absurd hb (nil_noB b), k.mono fun _ _ h => h.elim⟩
end
end Go.Proofs.Qxb6500277aGreat
