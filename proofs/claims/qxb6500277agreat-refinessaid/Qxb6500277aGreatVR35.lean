/- A run as a row of steps; answers. -/
import Derived.Test.Qxb6500277aGreatVR34
namespace Go.Proofs.Qxb6500277aGreat
open Go Go.RowKit

def itV (C : List Nat) (I : List Int) : Nat → Vs × MS → Vs × MS
  | 0, X => X
  | k + 1, X => stepV C I (itV C I k X).1 (itV C I k X).2
/-- A state in which a step is played. -/
structure GoodX (C : List Nat) (I : List Int) (X : Vs × MS) : Prop where
  en : X.1.en = 0
  ok : POk C I X.1 X.2
  ne : X.1.fs ≠ []
  fu : X.1.fuel ≤ 9223372036854775807
/-- k steps, then the run is over. -/
structure RunR (C : List Nat) (I : List Int) (X : Vs × MS) (k : Nat) : Prop where
  good : ∀ j, j < k → GoodX C I (itV C I j X)
  ok : POk C I (itV C I k X).1 (itV C I k X).2
  en : (itV C I k X).1.en ≠ 0
theorem fuel_mu {C : List Nat} {I : List Int} {V V' : Vs} {M : MS} (h : POk C I V M) (hm : mu V' < mu V) (hf : V.fuel ≤ 9223372036854775807) : V'.fuel ≤ 9223372036854775807 := by
  have h1 := used_len V.fs
  have h2 := h.us
  have h3 := h.ms
  unfold mu at hm
  omega
/-- The first call. -/
def X1 (C : List Nat) (fuel : Int) : Vs × MS := callV C (V0 fuel) ⟨[], []⟩ 0 0
theorem v0_ok {C : List Nat} {I : List Int} {fuel : Int} (mi : MInv ⟨[], []⟩) : POk C I (V0 fuel) ⟨[], []⟩ :=
  ⟨rfl, Nat.le_refl _, Nat.zero_le _, Nat.zero_le _, Nat.zero_le _, Nat.zero_le _, fun _ => rfl, mi, Nat.zero_le _⟩
/-- Numbers with no spare capacity. -/
def KiX (w : World) (v : Value) (l : List Int) : Prop := (v = nilS ∧ l = []) ∨ ∃ b f, l ≠ [] ∧ v = .slice (some ⟨b, 0, none⟩) l.length l.length ∧ Blk w b l.length f ∧ ∀ i (h : i < l.length), f i = .int .i64 l[i]
theorem KiX.at {w : World} {v : Value} {l : List Int} (h : KiX w v l) : KiAt w v l := by
  rcases h with h | ⟨b, f, _, h2, h3, h4⟩
  · exact .inl h
  · exact .inr ⟨b, l.length, f, h2, Nat.le_refl _, h3, h4⟩
theorem KiX.frame {w w' : World} {S : Nat → Prop} {v : Value} {l : List Int} (h : KiX w v l) (k : Fr S w w') (hb : ∀ b, isB v b → ¬ S b) : KiX w' v l := by
  rcases h with h | ⟨b, f, h1, h2, h3, h4⟩
  · exact .inl h
  · exact .inr ⟨b, f, h1, h2, h3.frame k (hb b ⟨_, _, h2⟩), h4⟩
/-- An answer. -/
def resV (er po en rt : Int) (ov : Value) (fu : Int) : Value := .agg #[.int .i64 er, .int .i64 po, .int .i64 en, .int .i64 rt, ov, .int .i64 fu]
def z6 (o : Nat) : Value := match o with | 4 => .slice none 0 0 | _ => .int .i64 0
def box6 : Obj := .cells #[.int .i64 0, .int .i64 0, .int .i64 0, .int .i64 0, .slice none 0 0, .int .i64 0] 39
theorem lt6 {o : Nat} (h : o < 6) : o = 0 ∨ o = 1 ∨ o = 2 ∨ o = 3 ∨ o = 4 ∨ o = 5 := by omega
theorem box6_blk (w : World) : Blk (w.alloc box6) w.heap.size 6 z6 := Blk.new w _ _ _ fun o ho => by
  have ho : o < 6 := ho
  rcases lt6 ho with rfl | rfl | rfl | rfl | rfl | rfl <;> rfl
def set6v (w : World) (b : Nat) (a0 a1 a2 a3 a4 a5 : Value) : World := (((((w.setCell ⟨b, 0, none⟩ a0).setCell ⟨b, 1, none⟩ a1).setCell ⟨b, 2, none⟩ a2).setCell ⟨b, 3, none⟩ a3).setCell ⟨b, 4, none⟩ a4).setCell ⟨b, 5, none⟩ a5
def c6 (a0 a1 a2 a3 a4 a5 : Value) (o : Nat) : Value := match o with | 0 => a0 | 1 => a1 | 2 => a2 | 3 => a3 | 4 => a4 | _ => a5
theorem Blk.set6v {w : World} {b : Nat} {f : Nat → Value} (h : Blk w b 6 f) (a0 a1 a2 a3 a4 a5 : Value) : Blk (Go.Proofs.Qxb6500277aGreat.set6v w b a0 a1 a2 a3 a4 a5) b 6 (c6 a0 a1 a2 a3 a4 a5) :=
  ((((((h.set 0 a0).set 1 a1).set 2 a2).set 3 a3).set 4 a4).set 5 a5).congr fun o ho => by
    rcases lt6 ho with rfl | rfl | rfl | rfl | rfl | rfl <;> simp [upd, c6]
theorem Fr.set6v {S : Nat → Prop} {a w : World} {b : Nat} (h : Fr S a w) (hb : b < a.heap.size → S b) (a0 a1 a2 a3 a4 a5 : Value) : Fr S a (Go.Proofs.Qxb6500277aGreat.set6v w b a0 a1 a2 a3 a4 a5) :=
  (((((h.setC b 0 a0 hb).setC b 1 a1 hb).setC b 2 a2 hb).setC b 3 a3 hb).setC b 4 a4 hb).setC b 5 a5 hb
set_option maxRecDepth 100000 in
set_option maxHeartbeats 600000 in
theorem run_long {w : World} {xa : Option Addr} {n c : Nat} {q yv : Value} {fuel : Int} (hn : 4096 < n) : Calls Tryz.prog 48 #[q, .slice xa n c, yv, .int .i64 fuel] w fun e w' => e = .returned (resV 31 4096 0 0 nilS fuel) ∧ Fr (fun _ => False) w w' := by
  have z1 : decide ((n : Int) > 4096) = true := decide_eq_true (by omega)
  have z2 : decide ((4096 : Int) < n) = true := decide_eq_true (by omega)
  go_enter Tryz.func48, Tryz.ntmps48
  go_wp2_with fail
  exact bodyPost_ret (v := resV 31 4096 0 0 nilS fuel) (by simp [results, Tryz.results48, go_sem, resV]) rfl ⟨rfl, (Fr.refl (fun _ => False) w).alloc _⟩
set_option maxRecDepth 100000 in
set_option maxHeartbeats 600000 in
theorem run_inp {w : World} {xa ya : Option Addr} {n c n2 c2 : Nat} {q : Value} {fuel : Int} (hn : n ≤ 4096) (hn2 : 128 < n2) : Calls Tryz.prog 48 #[q, .slice xa n c, .slice ya n2 c2, .int .i64 fuel] w fun e w' => e = .returned (resV 32 128 0 0 nilS fuel) ∧ Fr (fun _ => False) w w' := by
  have z1 : decide ((n : Int) > 4096) = false := decide_eq_false (by omega)
  have z2 : decide ((4096 : Int) < n) = false := decide_eq_false (by omega)
  have z3 : decide ((n2 : Int) > 128) = true := decide_eq_true (by omega)
  have z4 : decide ((128 : Int) < n2) = true := decide_eq_true (by omega)
  go_enter Tryz.func48, Tryz.ntmps48
  go_wp2_with fail
  exact bodyPost_ret (v := resV 32 128 0 0 nilS fuel) (by simp [results, Tryz.results48, go_sem, resV]) rfl ⟨rfl, (Fr.refl (fun _ => False) w).alloc _⟩
end Go.Proofs.Qxb6500277aGreat
