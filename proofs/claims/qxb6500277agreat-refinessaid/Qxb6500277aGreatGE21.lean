/- The code generator: compile, the buffers emptied. -/
import Derived.Test.Qxb6500277aGreatGP23
import Derived.Test.Qxb6500277aGreatVR34
namespace Go.Proofs.Qxb6500277aGreat
open Go Go.RowKit

/-- The engine's cells with a new answer of the checker. -/
def hdC (hd : Nat → Value) (v : Value) (root : Int) (t r f : Value) (main err pos : Int) (o : Nat) : Value := if o < 2 then hd o else c10 v (.int .i64 root) (.int .i64 0) (.int .i64 0) t r f (.int .i64 main) (.int .i64 err) (.int .i64 pos) (o - 2)
theorem FxAt.cut {w : World} {v : Value} {l : List (Nat × Nat)} (h : FxAt w v l) : ∃ a n c, v = .slice a n c ∧ FxAt w (.slice a 0 c) [] ∧ (∀ b, isB (.slice a 0 c) b ↔ isB v b) := by
  rcases h with ⟨rfl, rfl⟩ | ⟨b, cap, f, rfl, h1, h2, h3⟩
  · exact ⟨_, _, _, rfl, .inl ⟨rfl, rfl⟩, fun _ => Iff.rfl⟩
  · exact ⟨_, _, _, rfl, .inr ⟨b, cap, f, rfl, by simp, h2, fun i hi => by simp at hi⟩, fun x => ⟨fun h => by rw [isB_one h]; exact ⟨_, _, rfl⟩, fun h => by rw [isB_one h]; exact ⟨_, _, rfl⟩⟩⟩
theorem EmR.preP {w w1 w' : World} {g : Nat} {P : Nat → Prop} {hd : Nat → Value} {B : Gb} {e : Ending} (hP : ∀ b, P b → b < w.heap.size) (k : Fr P w w1) (h : EmR w1 g P hd B e w') : EmR w g P hd B e w' :=
  ⟨h.1, h.2.1.mono (fun _ hb => hb.elim (fun h => .inl h) (fun h => .inr ⟨Nat.le_trans k.size h.1, h.2⟩)) (Gw.lt hP (Nat.le_trans k.size h.2.2.size)), k.trans h.2.2 (fun _ _ h => h)⟩
/-- The world with the engine's cells set: the checker's answer, the four buffers. -/
def setG (w : World) (g : Nat) (v : Value) (root : Int) (t r f : Value) (main err pos : Int) (a1 a2 a3 a4 : Option Addr) (c1 c2 c3 c4 : Nat) : World :=
  ((((((((((((((w.setCell ⟨g, 2, none⟩ v).setCell ⟨g, 3, none⟩ (.int .i64 root)).setCell ⟨g, 4, none⟩ (.int .i64 0)).setCell ⟨g, 5, none⟩ (.int .i64 0)).setCell ⟨g, 6, none⟩ t).setCell ⟨g, 7, none⟩ r).setCell ⟨g, 8, none⟩ f).setCell ⟨g, 9, none⟩ (.int .i64 main)).setCell ⟨g, 10, none⟩ (.int .i64 err)).setCell ⟨g, 11, none⟩ (.int .i64 pos)).setCell ⟨g, 12, none⟩ (.slice a1 0 c1)).setCell ⟨g, 13, none⟩ (.slice a2 0 c2)).setCell ⟨g, 14, none⟩ (.slice a3 0 c3)).setCell ⟨g, 15, none⟩ (.slice a4 0 c4))
theorem setG_fr (w : World) (g : Nat) (v : Value) (root : Int) (t r f : Value) (main err pos : Int) (a1 a2 a3 a4 : Option Addr) (c1 c2 c3 c4 : Nat) : Fr (fun b => b = g) w (setG w g v root t r f main err pos a1 a2 a3 a4 c1 c2 c3 c4) :=
  ((((((((((((((Fr.refl (fun b => b = g) w).setC g 2 _ (fun _ => rfl)).setC g 3 _ (fun _ => rfl)).setC g 4 _ (fun _ => rfl)).setC g 5 _ (fun _ => rfl)).setC g 6 _ (fun _ => rfl)).setC g 7 _ (fun _ => rfl)).setC g 8 _ (fun _ => rfl)).setC g 9 _ (fun _ => rfl)).setC g 10 _ (fun _ => rfl)).setC g 11 _ (fun _ => rfl)).setC g 12 _ (fun _ => rfl)).setC g 13 _ (fun _ => rfl)).setC g 14 _ (fun _ => rfl)).setC g 15 _ (fun _ => rfl)
theorem setG_blk {w : World} {g : Nat} {hd : Nat → Value} {cv hv xv ev : Value} (h : Blk w g 16 (gC hd cv hv xv ev)) (v : Value) (root : Int) (t r f : Value) (main err pos : Int) (a1 a2 a3 a4 : Option Addr) (c1 c2 c3 c4 : Nat) : Blk (setG w g v root t r f main err pos a1 a2 a3 a4 c1 c2 c3 c4) g 16 (gC (hdC hd v root t r f main err pos) (.slice a1 0 c1) (.slice a2 0 c2) (.slice a3 0 c3) (.slice a4 0 c4)) :=
  ((((((((((((((h.set 2 v).set 3 (.int .i64 root)).set 4 (.int .i64 0)).set 5 (.int .i64 0)).set 6 t).set 7 r).set 8 f).set 9 (.int .i64 main)).set 10 (.int .i64 err)).set 11 (.int .i64 pos)).set 12 (.slice a1 0 c1)).set 13 (.slice a2 0 c2)).set 14 (.slice a3 0 c3)).set 15 (.slice a4 0 c4)).congr fun o ho => by
    obtain rfl | rfl | rfl | rfl | rfl | rfl | rfl | rfl | rfl | rfl | rfl | rfl | rfl | rfl | rfl | rfl : o = 0 ∨ o = 1 ∨ o = 2 ∨ o = 3 ∨ o = 4 ∨ o = 5 ∨ o = 6 ∨ o = 7 ∨ o = 8 ∨ o = 9 ∨ o = 10 ∨ o = 11 ∨ o = 12 ∨ o = 13 ∨ o = 14 ∨ o = 15 := by omega
    all_goals rfl
theorem GY.reset {w : World} {g : Nat} {P : Nat → Prop} {hd : Nat → Value} {B : Gb} {cv hv xv ev : Value} {col : Nat → Nat} (H : GY w g P hd B cv hv xv ev col) (v : Value) (root : Int) (t r f : Value) (main err pos : Int) : ∃ a1 a2 a3 a4 n1 n2 n3 n4 c1 c2 c3 c4, cv = .slice a1 n1 c1 ∧ hv = .slice a2 n2 c2 ∧ xv = .slice a3 n3 c3 ∧ ev = .slice a4 n4 c4 ∧ GX (setG w g v root t r f main err pos a1 a2 a3 a4 c1 c2 c3 c4) g P (hdC hd v root t r f main err pos) ⟨[], [], [], []⟩ := by
  obtain ⟨a1, n1, c1, e1, h1, i1⟩ := H.code.cut
  obtain ⟨a2, n2, c2, e2, h2, i2⟩ := H.hol.cut
  obtain ⟨a3, n3, c3, e3, h3, i3⟩ := H.cal.cut
  obtain ⟨a4, n4, c4, e4, h4, i4⟩ := H.ent.cut
  have k := setG_fr w g v root t r f main err pos a1 a2 a3 a4 c1 c2 c3 c4
  have kg : ∀ (u : Value) (c : Nat), (∀ b, isB u b → P b ∧ col b = c) → c ≠ 0 → ∀ b, isB u b → ¬ b = g := fun u c hu hc b hb e => hc (by rw [← (hu b hb).2, e, H.pg.2])
  refine ⟨a1, a2, a3, a4, n1, n2, n3, n4, c1, c2, c3, c4, e1, e2, e3, e4, .slice a1 0 c1, .slice a2 0 c2, .slice a3 0 c3, .slice a4 0 c4, col, setG_blk H.blk v root t r f main err pos a1 a2 a3 a4 c1 c2 c3 c4, ?_, ?_, ?_, ?_, ?_, H.pg, fun b hb => H.cc b ((i1 b).1 hb), fun b hb => H.ch b ((i2 b).1 hb), fun b hb => H.cx b ((i3 b).1 hb), fun b hb => H.ce b ((i4 b).1 hb), Nat.le_refl _, Nat.le_refl _⟩
  · exact h1.frame k fun b hb => kg cv 1 H.cc (by omega) b ((i1 b).1 hb)
  · exact h2.frame k fun b hb => kg hv 2 H.ch (by omega) b ((i2 b).1 hb)
  · exact h3.frame k fun b hb => kg xv 3 H.cx (by omega) b ((i3 b).1 hb)
  · exact h4.frame k fun b hb => kg ev 4 H.ce (by omega) b ((i4 b).1 hb)
  · exact fun b hb => Nat.lt_of_lt_of_le (H.lt b hb) k.size
theorem box10v_blk (w : World) (a0 a1 a2 a3 a4 a5 a6 a7 a8 a9 : Value) : Blk (w.alloc (.cells #[a0, a1, a2, a3, a4, a5, a6, a7, a8, a9] 69)) w.heap.size 10 (c10 a0 a1 a2 a3 a4 a5 a6 a7 a8 a9) := Blk.new w _ _ _ fun o ho => by
  have ho : o < 10 := ho
  rcases lt10 ho with rfl | rfl | rfl | rfl | rfl | rfl | rfl | rfl | rfl | rfl <;> rfl
theorem nlv_sl {w : World} {v : Value} {ns : List Nd} (h : NLV w v ns) : ∃ a k, v = .slice a ns.length k := by
  rcases h with ⟨e, e'⟩ | ⟨b, _, e, _⟩
  · exact ⟨_, _, by rw [e, e']; rfl⟩
  · exact ⟨_, _, e⟩
theorem ilv_sl {w : World} {v : Value} {ns : List Int} (h : ILV w v ns) : ∃ a k, v = .slice a ns.length k := by
  rcases h with ⟨e, e'⟩ | ⟨b, e, _⟩
  · exact ⟨_, _, by rw [e, e']; rfl⟩
  · exact ⟨_, _, e⟩
theorem flv_sl {w : World} {v : Value} {ns : List FR} (h : FLV w v ns) : ∃ a k, v = .slice a ns.length k := by
  rcases h with ⟨e, e'⟩ | ⟨b, _, e, _⟩
  · exact ⟨_, _, by rw [e, e']; rfl⟩
  · exact ⟨_, _, e⟩
/-- What a program to be compiled is. -/
structure Cmp (G : Ge) (m : Nat) : Prop where
  fn : G.P0.fns.length ≤ 200
  rl : G.rs.length = G.P0.fns.length
  mn : m < G.P0.fns.length
  at' : ∀ i, i < G.P0.fns.length → ∃ r, FnAt G i (fiA G.P0 i) r
  len : (codeP G.P0 m).length ≤ 3000
end Go.Proofs.Qxb6500277aGreat
