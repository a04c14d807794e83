/- The law: both sides as one system; answers compared; SameRun (written by mkGL4.py). -/
import Derived.Test.Qxb6500277aGreatGL3
import Derived.Test.Qxb6500277aGreatGM27
namespace Go.Proofs.Qxb6500277aGreat
open Go Go.RowKit

theorem KiX.ex {w : World} {v : Value} {l : List Int} (h : KiX w v l) : ∃ a, v = .slice a l.length l.length ∧ (l.length = 0 → a = none) := by
  rcases h with ⟨rfl, rfl⟩ | ⟨b, f, h1, h2, _⟩
  · exact ⟨none, rfl, fun _ => rfl⟩
  · exact ⟨_, h2, fun h => absurd (List.eq_nil_of_length_eq_zero h) h1⟩
def c13 (a0 a1 a2 a3 a4 a5 a6 a7 a8 a9 a10 a11 a12 : Value) (o : Nat) : Value := match o with | 0 => a0 | 1 => a1 | 2 => a2 | 3 => a3 | 4 => a4 | 5 => a5 | 6 => a6 | 7 => a7 | 8 => a8 | 9 => a9 | 10 => a10 | 11 => a11 | _ => a12
theorem lt13 {o : Nat} (h : o < 13) : o = 0 ∨ o = 1 ∨ o = 2 ∨ o = 3 ∨ o = 4 ∨ o = 5 ∨ o = 6 ∨ o = 7 ∨ o = 8 ∨ o = 9 ∨ o = 10 ∨ o = 11 ∨ o = 12 := by omega
theorem blk13 (w : World) (a0 a1 a2 a3 a4 a5 a6 a7 a8 a9 a10 a11 a12 : Value) (T : TypeId) : Blk (w.alloc (.cells #[a0, a1, a2, a3, a4, a5, a6, a7, a8, a9, a10, a11, a12] T)) w.heap.size 13 (c13 a0 a1 a2 a3 a4 a5 a6 a7 a8 a9 a10 a11 a12) :=
  Blk.new w _ _ _ fun o ho => by rcases lt13 (show o < 13 from ho) with rfl | rfl | rfl | rfl | rfl | rfl | rfl | rfl | rfl | rfl | rfl | rfl | rfl <;> rfl
theorem blk6 (w : World) (a0 a1 a2 a3 a4 a5 : Value) (T : TypeId) : Blk (w.alloc (.cells #[a0, a1, a2, a3, a4, a5] T)) w.heap.size 6 (c6 a0 a1 a2 a3 a4 a5) :=
  Blk.new w _ _ _ fun o ho => by rcases lt6 (show o < 6 from ho) with rfl | rfl | rfl | rfl | rfl | rfl <;> rfl
def set13 (w : World) (b : Nat) (a0 a1 a2 a3 a4 a5 a6 a7 a8 a9 a10 a11 a12 : Value) : World := ((((((((((((w.setCell ⟨b, 0, none⟩ a0).setCell ⟨b, 1, none⟩ a1).setCell ⟨b, 2, none⟩ a2).setCell ⟨b, 3, none⟩ a3).setCell ⟨b, 4, none⟩ a4).setCell ⟨b, 5, none⟩ a5).setCell ⟨b, 6, none⟩ a6).setCell ⟨b, 7, none⟩ a7).setCell ⟨b, 8, none⟩ a8).setCell ⟨b, 9, none⟩ a9).setCell ⟨b, 10, none⟩ a10).setCell ⟨b, 11, none⟩ a11).setCell ⟨b, 12, none⟩ a12
theorem Blk.set13 {w : World} {b : Nat} {f : Nat → Value} (h : Blk w b 13 f) (a0 a1 a2 a3 a4 a5 a6 a7 a8 a9 a10 a11 a12 : Value) : Blk (Go.Proofs.Qxb6500277aGreat.set13 w b a0 a1 a2 a3 a4 a5 a6 a7 a8 a9 a10 a11 a12) b 13 (c13 a0 a1 a2 a3 a4 a5 a6 a7 a8 a9 a10 a11 a12) := by
  refine (((((((((((((h.set 0 a0).set 1 a1).set 2 a2).set 3 a3).set 4 a4).set 5 a5).set 6 a6).set 7 a7).set 8 a8).set 9 a9).set 10 a10).set 11 a11).set 12 a12).congr fun o ho => ?_
  rcases lt13 ho with rfl | rfl | rfl | rfl | rfl | rfl | rfl | rfl | rfl | rfl | rfl | rfl | rfl <;> rfl
theorem Fr.set13 {F : Nat → Prop} {w w' : World} {b : Nat} (h : Fr F w w') (hb : b < w.heap.size → F b) (a0 a1 a2 a3 a4 a5 a6 a7 a8 a9 a10 a11 a12 : Value) : Fr F w (Go.Proofs.Qxb6500277aGreat.set13 w' b a0 a1 a2 a3 a4 a5 a6 a7 a8 a9 a10 a11 a12) :=
  ((((((((((((h.setC b 0 a0 hb).setC b 1 a1 hb).setC b 2 a2 hb).setC b 3 a3 hb).setC b 4 a4 hb).setC b 5 a5 hb).setC b 6 a6 hb).setC b 7 a7 hb).setC b 8 a8 hb).setC b 9 a9 hb).setC b 10 a10 hb).setC b 11 a11 hb).setC b 12 a12 hb
/-- Both sides and the second machine. -/
structure SysX (w : World) (g e : Nat) (A : Va) (R RM : Nat → Prop) (cv iv : Value) : Prop where
  G : GReal w g R
  M : MReal w e RM
  V : RV w A cv iv
  d1 : ∀ b, R b → ¬ RM b ∧ ¬ VQ A cv iv b
  d2 : ∀ b, RM b → ¬ VQ A cv iv b
def SysB (A : Va) (R RM : Nat → Prop) (cv iv : Value) (b : Nat) : Prop := R b ∨ RM b ∨ VQ A cv iv b
def Sys (w : World) (g e : Nat) (A : Va) (E : Nat → Prop) : Prop := ∃ R RM cv iv, SysX w g e A R RM cv iv ∧ (∀ b, SysB A R RM cv iv b → E b) ∧ ∀ b, E b → b < w.heap.size
section
variable {w w' : World} {g e : Nat} {A : Va} {R RM R' RM' E F : Nat → Prop} {cv iv cv' iv' : Value}
theorem MReal.lt (h : MReal w e RM) : ∀ b, RM b → b < w.heap.size := by
  obtain ⟨_, _, _, _, _, _, _, h3⟩ := h
  exact h3
theorem SysX.lt (H : SysX w g e A R RM cv iv) {b : Nat} (h : SysB A R RM cv iv b) : b < w.heap.size := by
  rcases h with h | h | h
  · exact H.G.lt b h
  · exact H.M.lt b h
  · exact H.V.lt h
theorem SysX.frame (H : SysX w g e A R RM cv iv) (k : Fr F w w') (hF : ∀ b, SysB A R RM cv iv b → ¬ F b) : SysX w' g e A R RM cv iv :=
  ⟨H.G.frame k fun b hb => hF b (.inl hb), H.M.frame k fun b hb => hF b (.inr (.inl hb)), H.V.frame k fun b hb => hF b (.inr (.inr hb)), H.d1, H.d2⟩
theorem SysX.same (H : SysX w g e A R RM cv iv) (k : Fr (fun _ => False) w w') : SysX w' g e A R RM cv iv := H.frame k fun _ _ => id
theorem SysX.stepG (H : SysX w g e A R RM cv iv) (G : GReal w' g R') (h : ∀ b, R' b → R b ∨ w.heap.size ≤ b) (k : Fr R w w') : SysX w' g e A R' RM cv iv := by
  refine ⟨G, H.M.frame k fun b hb h => (H.d1 b h).1 hb, H.V.frame k fun b hb h => (H.d1 b h).2 hb, fun b hb => ?_, H.d2⟩
  rcases h b hb with h | h
  · exact H.d1 b h
  · exact ⟨fun e => by have := H.M.lt b e; omega, fun e => by have := H.V.lt e; omega⟩
theorem SysX.stepM (H : SysX w g e A R RM cv iv) (M : MReal w' e RM') (h : ∀ b, RM' b → RM b ∨ w.heap.size ≤ b) (k : Fr RM w w') : SysX w' g e A R RM' cv iv := by
  refine ⟨H.G.frame k fun b hb h => (H.d1 b hb).1 h, M, H.V.frame k fun b hb h => H.d2 b h hb, fun b hb => ⟨fun e => ?_, (H.d1 b hb).2⟩, fun b hb => ?_⟩
  · rcases h b e with h | h
    · exact (H.d1 b hb).1 h
    · have := H.G.lt b hb; omega
  · rcases h b hb with h | h
    · exact H.d2 b h
    · exact fun e => by have := H.V.lt e; omega
theorem SysX.stepV (H : SysX w g e A R RM cv iv) (V : RV w' A cv' iv') (cb : ∀ b, isB cv' b → w.heap.size ≤ b ∨ isB cv b) (ib : ∀ b, isB iv' b → w.heap.size ≤ b ∨ isB iv b) (k : Fr (VQ A cv iv) w w') : SysX w' g e A R RM cv' iv' := by
  have hq : ∀ b, b < w.heap.size → VQ A cv' iv' b → VQ A cv iv b := fun b hb h => by
    rcases h with h | h | h
    · exact .inl h
    · exact .inr (.inl ((cb b h).resolve_left (by omega)))
    · exact .inr (.inr ((ib b h).resolve_left (by omega)))
  exact ⟨H.G.frame k fun b hb h => (H.d1 b hb).2 h, H.M.frame k fun b hb h => H.d2 b hb h, V, fun b hb => ⟨(H.d1 b hb).1, fun h => (H.d1 b hb).2 (hq b (H.G.lt b hb) h)⟩, fun b hb h => H.d2 b hb (hq b (H.M.lt b hb) h)⟩
theorem Sys.frame (H : Sys w g e A E) (k : Fr F w w') (hF : ∀ b, E b → ¬ F b) : Sys w' g e A E := by
  obtain ⟨R, RM, cv, iv, X, h1, h2⟩ := H
  exact ⟨R, RM, cv, iv, X.frame k fun b hb => hF b (h1 b hb), h1, fun b hb => Nat.lt_of_lt_of_le (h2 b hb) k.size⟩
theorem Sys.lt (H : Sys w g e A E) : ∀ b, E b → b < w.heap.size := by
  obtain ⟨_, _, _, _, _, _, h⟩ := H
  exact h
theorem Sys.check (H : Sys w g e A E) : Calls Tryz.prog 10 #[.pointer (some ⟨g, 0, none⟩)] w fun e w' => e = .returned (.bool true) ∧ Fr (fun _ => False) w w' := by
  obtain ⟨_, _, _, _, X, _⟩ := H
  exact checkGR X.G
end
theorem GAns.le {src : ByteArray} {I : List Int} {fuel er po en rt fu : Int} {L : List Int} (h : GAns src I fuel er po en rt fu L) : L.length ≤ 1024 := by
  rcases h with ⟨_, _, _, _, _, _, rfl⟩ | ⟨_, _, _, _, _, _, _, rfl⟩ | ⟨_, _, _, _, _, _, rfl⟩ | ⟨_, _, X, s, m, k, _, hR, _, _, _, _, _, rfl⟩
  · exact Nat.zero_le _
  · exact Nat.zero_le _
  · exact Nat.zero_le _
  · exact hR.ok.ou
set_option maxRecDepth 100000 in
set_option maxHeartbeats 1000000 in
theorem sameResultF {w : World} {er po en rt fu : Int} {v1 v2 : Value} {L : List Int} (h1 : KiAt w v1 L) (h2 : KiAt w v2 L) (hl : L.length ≤ 2000) :
    Calls Tryz.prog 13 #[resV er po en rt v1 fu, resV er po en rt v2 fu] w fun e w' => e = .returned (.bool true) ∧ Fr (fun _ => False) w w' := by
  have hS : ∀ w0, Fr (fun _ => False) w w0 → Calls Tryz.prog 31 #[v1, v2] w0 fun v w' => v = .returned (.bool true) ∧ Fr (fun _ => False) w0 w' := fun w0 k => sameInts (h1.frame k (fun _ _ h => h)) (h2.frame k (fun _ _ h => h)) hl
  obtain ⟨a1, n1, k1, e1⟩ := h1.one
  obtain ⟨a2, n2, k2, e2⟩ := h2.one
  subst e1 e2
  have B1 := blk6 w (.int .i64 er) (.int .i64 po) (.int .i64 en) (.int .i64 rt) (.slice a1 n1 k1) (.int .i64 fu) 39
  obtain ⟨w1, hw1⟩ : ∃ w1, w1 = w.alloc (.cells #[.int .i64 er, .int .i64 po, .int .i64 en, .int .i64 rt, .slice a1 n1 k1, .int .i64 fu] 39) := ⟨_, rfl⟩
  have f1 : Fr (fun _ => False) w w1 := by rw [hw1]; exact (Fr.refl _ _).alloc _
  rw [← hw1] at B1
  have B2 := blk6 w1 (.int .i64 er) (.int .i64 po) (.int .i64 en) (.int .i64 rt) (.slice a2 n2 k2) (.int .i64 fu) 39
  obtain ⟨w2, hw2⟩ : ∃ w2, w2 = w1.alloc (.cells #[.int .i64 er, .int .i64 po, .int .i64 en, .int .i64 rt, .slice a2 n2 k2, .int .i64 fu] 39) := ⟨_, rfl⟩
  have f2 : Fr (fun _ => False) w1 w2 := by rw [hw2]; exact (Fr.refl _ _).alloc _
  rw [← hw2] at B2
  have hs1 : w1.heap.size = w.heap.size + 1 := by rw [hw1]; simp [World.size_alloc]
  rw [hs1] at B2
  have b1 := B1.frame f2 (fun h => h)
  have p0 := b1.cell (o := 0) (by omega)
  have p1 := b1.cell (o := 1) (by omega)
  have p2 := b1.cell (o := 2) (by omega)
  have p3 := b1.cell (o := 3) (by omega)
  have p4 := b1.cell (o := 4) (by omega)
  have p5 := b1.cell (o := 5) (by omega)
  simp only [c6] at p0 p1 p2 p3 p4 p5
  have pl := b1.lt
  have q0 := B2.cell (o := 0) (by omega)
  have q1 := B2.cell (o := 1) (by omega)
  have q2 := B2.cell (o := 2) (by omega)
  have q3 := B2.cell (o := 3) (by omega)
  have q4 := B2.cell (o := 4) (by omega)
  have q5 := B2.cell (o := 5) (by omega)
  simp only [c6] at q0 q1 q2 q3 q4 q5
  have ql := B2.lt
  have HF : Hid _ := f1.trans f2 (fun _ _ h => h)
  have y1 : (er == er) = true := by simp
  have y2 : (po == po) = true := by simp
  have y3 : (en == en) = true := by simp
  have y4 : (rt == rt) = true := by simp
  have y5 : (fu == fu) = true := by simp
  have hS2 := hS w2 HF.out
  clear b1 B1 B2 f1 f2 h1 h2 hS
  unfold resV
  rw [hw2, hw1] at p0 p1 p2 p3 p4 p5 q0 q1 q2 q3 q4 q5 pl ql hS2
  go_enter Tryz.func13, Tryz.ntmps13
  go_wp2_with fail
  refine hS2.mono ?_
  rintro v w3 ⟨rfl, f3⟩
  rw [← hw1, ← hw2] at f3
  clear p0 p1 p2 p3 p4 p5 q0 q1 q2 q3 q4 q5 pl ql hS2
  go_wp2_with fail
  go_ret
  exact ⟨by simp, HF.out.trans f3 (fun _ _ h => h)⟩
set_option maxRecDepth 100000 in
set_option maxHeartbeats 1000000 in
theorem tidyF {a : Option Addr} {n : Nat} (ha : n = 0 → a = none) (hl : n ≤ 2000) (w : World) : Calls Tryz.prog 32 #[.slice a n n] w fun e w' => e = .returned (.bool true) ∧ w' = w := by
  by_cases h0 : n = 0
  · rw [h0, ha h0]
    have e0 : ∀ w, (binOp .eql 36 (.slice none 0 0) (.slice none 0 0)).run Tryz.prog w = .ok (.bool true) w := fun _ => rfl
    go_enter Tryz.func32, Tryz.ntmps32
    go_wp2_with fail
    go_ret
    exact ⟨rfl, rfl⟩
  · have y : decide ((n : Int) > 0) = true := decide_eq_true (by omega)
    have y2 : decide ((0 : Int) < (n : Int)) = true := decide_eq_true (by omega)
    go_enter Tryz.func32, Tryz.ntmps32
    go_wp2_with fail
    go_ret
    exact ⟨by simp, rfl⟩
def bothV (er po en rt fu : Int) (v1 v2 v3 : Value) : Value := .agg #[.int .i64 er, .int .i64 po, .int .i64 en, .int .i64 rt, v1, .int .i64 fu, .int .i64 er, .int .i64 po, .int .i64 en, .int .i64 rt, v2, .int .i64 fu, v3]
/-- What SameRun leaves. -/
structure SRn (w w' : World) (g e : Nat) (A : Va) (E : Nat → Prop) (src : ByteArray) (I : List Int) (fuel er po en rt fu : Int) (L : List Int) (v1 v2 v3 : Value) (E' : Nat → Prop) : Prop where
  sys : Sys w' g e A E'
  sub : ∀ b, E' b → E b ∨ w.heap.size ≤ b
  ans : MAns src I fuel er po en rt fu L
  le : L.length ≤ 1024
  k1 : KiAt w' v1 L
  k2 : KiAt w' v2 L
  k3 : KiAt w' v3 (List.replicate I.length stmp)
  nb : ∀ b, isB v1 b ∨ isB v2 b ∨ isB v3 b → w.heap.size ≤ b ∧ ¬ E' b
  d1 : ∀ b, isB v1 b → ¬ isB v2 b ∧ ¬ isB v3 b
  d2 : ∀ b, isB v2 b → ¬ isB v3 b
  fr : Fr E w w'
set_option maxRecDepth 100000 in
set_option maxHeartbeats 4000000 in
theorem sameRunG {w : World} {g e : Nat} {A : Va} {E : Nat → Prop} {src : ByteArray} {I : List Int} {fuel : Int} {yv : Value} (H : Sys w g e A E) (hy : KiAt w yv I) (hI : I.length ≤ 129) (hyd : ∀ b, isB yv b → ¬ E b) (hf : fuel ≤ 9223372036854775807) (hf0 : -9223372036854775808 ≤ fuel) :
    Calls Tryz.prog 12 #[.pointer (some ⟨g, 0, none⟩), .pointer (some ⟨e, 0, none⟩), .string src, yv, .int .i64 fuel] w fun x w' => ∃ er po en rt fu L v1 v2 v3 E', x = .returned (.tuple #[bothV er po en rt fu v1 v2 v3, .bool true]) ∧ SRn w w' g e A E src I fuel er po en rt fu L v1 v2 v3 E' := by
  obtain ⟨R, RM, cv, iv, X, hE, hEl⟩ := H
  obtain ⟨ya, yc, eyv, _⟩ := hy.sl
  have k0 := (Fr.refl (fun _ => False) w).alloc (.cells #[.int .i64 0, .int .i64 0, .int .i64 0, .int .i64 0, .slice none 0 0, .int .i64 0, .int .i64 0, .int .i64 0, .int .i64 0, .int .i64 0, .slice none 0 0, .int .i64 0, .slice none 0 0] 41)
  have B0 := blk13 w (.int .i64 0) (.int .i64 0) (.int .i64 0) (.int .i64 0) (.slice none 0 0) (.int .i64 0) (.int .i64 0) (.int .i64 0) (.int .i64 0) (.int .i64 0) (.slice none 0 0) (.int .i64 0) (.slice none 0 0) 41
  obtain ⟨w0, hw0⟩ : ∃ w0, w0 = w.alloc (.cells #[.int .i64 0, .int .i64 0, .int .i64 0, .int .i64 0, .slice none 0 0, .int .i64 0, .int .i64 0, .int .i64 0, .int .i64 0, .int .i64 0, .slice none 0 0, .int .i64 0, .slice none 0 0] 41) := ⟨_, rfl⟩
  rw [← hw0] at k0 B0
  have X0 := X.same k0
  have hy0 := hy.frame k0 fun _ _ => id
  have q1 := copyInts hy0 (by omega)
  have HH : Hid (True ∧ _) := ⟨trivial, And.intro X (And.intro hE (And.intro hEl (And.intro hy (And.intro hyd (And.intro k0 (And.intro B0 (And.intro X0 hy0)))))))⟩
  rw [eyv] at q1
  rw [eyv]
  have Heyv : Hid _ := eyv
  clear X hE hEl hy hyd k0 B0 X0 hy0 eyv
  go_enter Tryz.func12, Tryz.ntmps12
  go_upto_region 1 with fail
  rw [← hw0]
  clear hw0
  go_wp2_with fail
  refine q1.mono ?_
  rintro v w1 ⟨ix, rfl, kix, bix, f1⟩
  clear q1
  obtain ⟨ia, eix, _⟩ := kix.ex
  obtain ⟨_, X, hE, hEl, hy, hyd, k0, B0, X0, hy0⟩ := HH.out
  have hy1 := hy0.frame f1 fun _ _ => id
  have q2 := copyInts hy1 (by omega)
  have H1 : Hid (True ∧ _) := ⟨trivial, And.intro kix (And.intro bix (And.intro f1 hy1))⟩
  have Heix : Hid _ := eix
  rw [eix]
  rw [Heyv.out] at q2
  clear X hE hEl hy hyd k0 B0 X0 hy0 kix bix f1 hy1 eix
  go_wp2_with fail
  refine q2.mono ?_
  rintro v w2 ⟨im, rfl, kim, bim, f2⟩
  clear q2
  obtain ⟨ja, eim, _⟩ := kim.ex
  obtain ⟨_, X, hE, hEl, hy, hyd, k0, B0, X0, hy0⟩ := HH.out
  obtain ⟨_, kix, bix, f1, hy1⟩ := H1.out
  have k02 := f1.trans f2 fun _ _ => id
  have X2 := X0.same k02
  have kix2 := kix.frame f2 fun _ _ => id
  have s0 := k0.size
  have s1 := f1.size
  have s2 := f2.size
  have q3 := runG (src := src) (fuel := fuel) X2.G kix2.at (fun b hb h => by have := bix b hb; have := X.G.lt b h; omega) hf
  have H2 : Hid (True ∧ _) := ⟨trivial, And.intro kim (And.intro bim (And.intro f2 (And.intro X2 (And.intro kix2 k02))))⟩
  have Heim : Hid _ := eim
  rw [eim]
  rw [Heix.out] at q3
  clear X hE hEl hy hyd k0 B0 X0 hy0 kix bix f1 hy1 kim bim f2 k02 X2 kix2 s0 s1 s2 eim
  go_wp2_with fail
  refine q3.mono ?_
  rintro v w3 ⟨er, po, en, rt, fu, L, v1, R', rfl, hA, G3, hR', K1, b1, f3⟩
  clear q3
  obtain ⟨a1, ev1, hn1⟩ := K1.ex
  subst ev1
  have H3 : Hid (True ∧ _) := ⟨trivial, And.intro hA (And.intro G3 (And.intro hR' (And.intro K1 (And.intro b1 (And.intro f3 hn1)))))⟩
  clear hA G3 hR' K1 b1 f3 hn1
  simp only [resV]
  go_upto_region 4 with fail
  generalize hw4 : World.alloc w3 _ = w4
  have B4 : Blk w4 w3.heap.size 6 (c6 (.int .i64 er) (.int .i64 po) (.int .i64 en) (.int .i64 rt) (.slice a1 L.length L.length) (.int .i64 fu)) := by rw [← hw4]; exact blk6 _ _ _ _ _ _ _ _
  have f4 : Fr (fun _ => False) w3 w4 := by rw [← hw4]; exact (Fr.refl _ _).alloc _
  have s4 : w4.heap.size = w3.heap.size + 1 := by rw [← hw4]; simp [World.size_alloc]
  clear hw4
  obtain ⟨_, X, hE, hEl, hy, hyd, k0, B0, X0, hy0⟩ := HH.out
  obtain ⟨_, kix, bix, f1, hy1⟩ := H1.out
  obtain ⟨_, kim, bim, f2, X2, kix2, k02⟩ := H2.out
  obtain ⟨_, hA, G3, hR', K1, b1, f3, hn1⟩ := H3.out
  have X3 := X2.stepG G3 hR' f3
  have X4 := X3.same f4
  have z0 := k0.size
  have z1 := f1.size
  have z2 := f2.size
  have z3 := f3.size
  have kim4 := (kim.frame f3 fun b hb h => by have := bim b hb; have := X.G.lt b h; omega).frame f4 fun _ _ => id
  have q4 := runMg (src := src) (fuel := fuel) X4.M kim4.at (fun b hb h => by have := bim b hb; have := X.M.lt b h; omega) hf hf0
  have H4 : Hid (True ∧ _) := ⟨trivial, And.intro B4 (And.intro f4 (And.intro s4 (And.intro X3 X4)))⟩
  rw [Heim.out] at q4
  clear X hE hEl hy hyd k0 B0 X0 hy0 kix bix f1 hy1 kim bim f2 X2 kix2 k02 hA G3 hR' K1 b1 f3 hn1 X3 X4 z0 z1 z2 z3 kim4 B4 f4 s4
  go_wp2_with fail
  refine q4.mono ?_
  rintro v w5 ⟨er', po', en', rt', fu', L', v2, RM', rfl, hM, G5, hRM', K2, b2, f5⟩
  clear q4
  obtain ⟨rfl, rfl, rfl, rfl, rfl, rfl⟩ := ans_same H3.out.2.1 hM
  obtain ⟨a2, ev2, hn2⟩ := K2.ex
  subst ev2
  have H5 : Hid (True ∧ _) := ⟨trivial, And.intro hM (And.intro G5 (And.intro hRM' (And.intro K2 (And.intro b2 (And.intro f5 hn2)))))⟩
  clear hM G5 hRM' K2 b2 f5 hn2
  simp only [resV]
  go_upto_region 5 with fail
  generalize hw6 : World.alloc w5 _ = w6
  have B6 : Blk w6 w5.heap.size 6 (c6 (.int .i64 er) (.int .i64 po) (.int .i64 en) (.int .i64 rt) (.slice a2 L.length L.length) (.int .i64 fu)) := by rw [← hw6]; exact blk6 _ _ _ _ _ _ _ _
  have f6 : Fr (fun _ => False) w5 w6 := by rw [← hw6]; exact (Fr.refl _ _).alloc _
  have s6 : w6.heap.size = w5.heap.size + 1 := by rw [← hw6]; simp [World.size_alloc]
  clear hw6
  obtain ⟨_, X, hE, hEl, hy, hyd, k0, B0, X0, hy0⟩ := HH.out
  obtain ⟨_, kix, bix, f1, hy1⟩ := H1.out
  obtain ⟨_, kim, bim, f2, X2, kix2, k02⟩ := H2.out
  obtain ⟨_, hA, G3, hR', K1, b1, f3, hn1⟩ := H3.out
  obtain ⟨_, B4, f4, s4, X3, X4⟩ := H4.out
  obtain ⟨_, hM, G5, hRM', K2, b2, f5, hn2⟩ := H5.out
  have X6 := (X4.stepM G5 hRM' f5).same f6
  have z0 := k0.size
  have z1 := f1.size
  have z2 := f2.size
  have z3 := f3.size
  have z5 := f5.size
  have nR : ∀ b, w.heap.size ≤ b → ¬ R b := fun b hb h => by have := X.G.lt b h; omega
  have nM : ∀ b, w.heap.size ≤ b → ¬ RM b := fun b hb h => by have := X.M.lt b h; omega
  -- whatever is new at w2 stands at w6
  have F26 : Fr (fun b => R b ∨ RM b) w2 w6 := (((f3.mono (S' := fun b => R b ∨ RM b) fun _ _ h => .inl h).trans f4 fun _ _ h => h.elim).trans f5 fun _ _ h => .inr h).trans f6 fun _ _ h => h.elim
  have n26 : ∀ b, w.heap.size ≤ b → ¬ (R b ∨ RM b) := fun b hb h => h.elim (nR b hb) (nM b hb)
  have B06 := (B0.frame k02 id).frame F26 (n26 _ (Nat.le_refl _))
  have B46 := (B4.frame f5 (nM _ (by omega))).frame f6 id
  have kix6 := kix2.frame F26 fun b hb => n26 b (by have := bix b hb; omega)
  have F06 : Fr E w w6 := ((k0.mono (S' := E) fun _ _ h => h.elim).trans k02 fun _ _ h => h.elim).trans F26 fun b _ h => hE b (h.elim .inl fun h => .inr (.inl h))
  have hy6 := hy.frame F06 hyd
  have K16 := ((K1.frame f4 fun _ _ => id).frame f5 fun b hb => nM b (by have := (b1 b hb).1; omega)).frame f6 fun _ _ => id
  have K26 := K2.frame f6 fun _ _ => id
  have hL := hA.le
  have ixl : ∀ b, isB ix b → b < w2.heap.size := fun b hb => kix2.at.bk hb
  have v1l : ∀ b, isB (.slice a1 L.length L.length) b → b < w3.heap.size := fun b hb => K1.at.bk hb
  have hb0 := B0.lt
  have HZ : Hid (True ∧ _) := ⟨trivial, And.intro X6 (And.intro B06 (And.intro B46 (And.intro B6 (And.intro kix6 (And.intro F06 (And.intro hy6 (And.intro K16 (And.intro K26 hL)))))))) ⟩
  have hn1' := hn1
  have HT : Hid (∀ w9, Fr (fun b => isB ix b ∨ w.heap.size = b) w6 w9 → KiAt w9 ix (List.replicate I.length stmp) → SRn w w9 g e A E src I fuel er po en rt fu L (.slice a1 L.length L.length) (.slice a2 L.length L.length) ix (SysB A R' RM' cv iv)) := fun w9 k9 k3 => by
    have far : ∀ b, b < w.heap.size ∨ w2.heap.size ≤ b → ¬ (isB ix b ∨ w.heap.size = b) := fun b hb h => by
      rcases h with h | h
      · have := bix b h; have := ixl b h; omega
      · omega
    have sb : ∀ b, SysB A R' RM' cv iv b → b < w.heap.size ∨ w2.heap.size ≤ b := fun b hb => by
      rcases hb with h | h | h
      · rcases hR' b h with h | h
        · exact .inl (X.G.lt b h)
        · exact .inr h
      · rcases hRM' b h with h | h
        · exact .inl (X.M.lt b h)
        · exact .inr (by omega)
      · exact .inl (X.V.lt h)
    have X9 := X6.frame k9 fun b hb => far b (sb b hb)
    refine ⟨⟨R', RM', cv, iv, X9, fun _ => id, fun b hb => X9.lt hb⟩, fun b hb => ?_, hM, hL, K16.at.frame k9 fun b hb => far b (.inr (by have := (b1 b hb).1; omega)), K26.at.frame k9 fun b hb => far b (.inr (by have := (b2 b hb).1; omega)), k3, fun b hb => ?_, fun b hb => ⟨fun h => ?_, fun h => ?_⟩, fun b hb h => ?_, F06.trans k9 fun b hb h => absurd h (far b (.inl hb))⟩
    · rcases hb with h | h | h
      · exact (hR' b h).imp (fun h => hE b (.inl h)) fun h => by omega
      · exact (hRM' b h).imp (fun h => hE b (.inr (.inl h))) fun h => by omega
      · exact .inl (hE b (.inr (.inr h)))
    · rcases hb with h | h | h
      · have o := b1 b h
        have l := v1l b h
        refine ⟨by omega, fun e => ?_⟩
        rcases e with e | e | e
        · exact o.2 e
        · rcases hRM' b e with e | e
          · exact nM b (by omega) e
          · omega
        · have := X.V.lt e; omega
      · have o := b2 b h
        refine ⟨by omega, fun e => ?_⟩
        rcases e with e | e | e
        · have := G3.lt b e; omega
        · exact o.2 e
        · have := X.V.lt e; omega
      · have o := bix b h
        have l := ixl b h
        refine ⟨by omega, fun e => ?_⟩
        rcases sb b e with e | e <;> omega
    · have := (b2 b h).1; have := v1l b hb; omega
    · have := (b1 b hb).1; have := ixl b h; omega
    · have := (b2 b hb).1; have := ixl b h; omega
  have HN : Hid (¬ isB ix w3.heap.size ∧ ¬ isB ix w.heap.size ∧ ∀ b, isB (.slice a1 L.length L.length) b → ¬ isB ix b) := ⟨fun h => by have := ixl _ h; omega, fun h => by have := bix _ h; omega, fun b hb h => by have := (b1 b hb).1; have := ixl b h; omega⟩
  clear X hE hEl hy hyd k0 B0 X0 hy0 kix bix f1 hy1 kim bim f2 X2 kix2 k02 hA G3 hR' K1 b1 f3 hn1 B4 f4 s4 X3 X4 hM G5 hRM' K2 b2 f5 hn2 X6 z0 z1 z2 z3 z5 nR nM F26 n26 B06 B46 kix6 F06 hy6 K16 K26 ixl v1l B6 f6 s6 hb0 HH H1 H2 H3 H4 H5
  generalize w3.heap.size = b14 at *
  generalize w5.heap.size = b15 at *
  obtain ⟨_, X6, B06, B46, B6, kix6, F06, hy6, K16, K26, hL'⟩ := HZ.out
  have p0 := B46.cell (o := 0) (by omega)
  have p1 := B46.cell (o := 1) (by omega)
  have p2 := B46.cell (o := 2) (by omega)
  have p3 := B46.cell (o := 3) (by omega)
  have p4 := B46.cell (o := 4) (by omega)
  have p5 := B46.cell (o := 5) (by omega)
  simp only [c6] at p0 p1 p2 p3 p4 p5
  have pl := B46.lt
  have q0 := B6.cell (o := 0) (by omega)
  have q1 := B6.cell (o := 1) (by omega)
  have q2 := B6.cell (o := 2) (by omega)
  have q3 := B6.cell (o := 3) (by omega)
  have q4 := B6.cell (o := 4) (by omega)
  have q5 := B6.cell (o := 5) (by omega)
  simp only [c6] at q0 q1 q2 q3 q4 q5
  have ql := B6.lt
  clear X6 B06 B46 B6 kix6 F06 hy6 K16 K26 hL'
  go_upto_region 6 with fail
  generalize hw7 : World.alloc w6 _ = w7
  have B7 : Blk w7 w6.heap.size 13 (c13 (.int .i64 er) (.int .i64 po) (.int .i64 en) (.int .i64 rt) (.slice a1 L.length L.length) (.int .i64 fu) (.int .i64 er) (.int .i64 po) (.int .i64 en) (.int .i64 rt) (.slice a2 L.length L.length) (.int .i64 fu) (ix)) := by rw [← hw7, Heix.out]; exact blk13 _ _ _ _ _ _ _ _ _ _ _ _ _ _ _
  have f7 : Fr (fun _ => False) w6 w7 := by rw [← hw7]; exact (Fr.refl _ _).alloc _
  have s7 : w7.heap.size = w6.heap.size + 1 := by rw [← hw7]; simp [World.size_alloc]
  clear hw7
  clear p0 p1 p2 p3 p4 p5 pl
  clear q0 q1 q2 q3 q4 q5 ql
  obtain ⟨_, X6, B06, B46, B6, kix6, F06, hy6, K16, K26, hL'⟩ := HZ.out
  have C46 := B46.frame f7 id
  have C6 := B6.frame f7 id
  have p0 := C46.cell (o := 0) (by omega)
  have p1 := C46.cell (o := 1) (by omega)
  have p2 := C46.cell (o := 2) (by omega)
  have p3 := C46.cell (o := 3) (by omega)
  have p4 := C46.cell (o := 4) (by omega)
  have p5 := C46.cell (o := 5) (by omega)
  simp only [c6] at p0 p1 p2 p3 p4 p5
  have pl := C46.lt
  have q0 := C6.cell (o := 0) (by omega)
  have q1 := C6.cell (o := 1) (by omega)
  have q2 := C6.cell (o := 2) (by omega)
  have q3 := C6.cell (o := 3) (by omega)
  have q4 := C6.cell (o := 4) (by omega)
  have q5 := C6.cell (o := 5) (by omega)
  simp only [c6] at q0 q1 q2 q3 q4 q5
  have ql := C6.lt
  have q6 := sameResultF (er := er) (po := po) (en := en) (rt := rt) (fu := fu) (K16.at.frame f7 fun _ _ => id) (K26.at.frame f7 fun _ _ => id) (by omega)
  simp only [resV] at q6
  have H7 : Hid (True ∧ _) := ⟨trivial, And.intro B7 (And.intro f7 s7)⟩
  clear X6 B06 B46 B6 kix6 F06 hy6 K16 K26 hL' C46 C6 B7 f7 s7
  go_wp2_with fail
  refine q6.mono ?_
  rintro v w8 ⟨rfl, f8⟩
  clear q6
  clear p0 p1 p2 p3 p4 p5 pl
  clear q0 q1 q2 q3 q4 q5 ql
  obtain ⟨_, X6, B06, B46, B6, kix6, F06, hy6, K16, K26, hL'⟩ := HZ.out
  obtain ⟨_, B7, f7, s7⟩ := H7.out
  have f78 := f7.trans f8 fun _ _ => id
  have q8 := sameInts (kix6.at.frame f78 fun _ _ => id) (hy6.frame f78 fun _ _ => id) (by omega)
  rw [Heix.out, Heyv.out] at q8
  have H8 : Hid (True ∧ _) := ⟨trivial, And.intro f8 f78⟩
  clear X6 B06 B46 B6 kix6 F06 hy6 K16 K26 hL' B7 f7 s7 f8 f78
  go_wp2_with fail
  refine q8.mono ?_
  rintro v w9 ⟨rfl, f9⟩
  clear q8
  obtain ⟨_, X6, B06, B46, B6, kix6, F06, hy6, K16, K26, hL'⟩ := HZ.out
  obtain ⟨_, B7, f7, s7⟩ := H7.out
  obtain ⟨_, f8, f78⟩ := H8.out
  have f79 := f78.trans f9 fun _ _ => id
  have q10 := spoilF (kix6.at.frame f79 fun _ _ => id) (by omega)
  rw [Heix.out] at q10
  have H9 : Hid (True ∧ _) := ⟨trivial, And.intro f9 f79⟩
  clear X6 B06 B46 B6 kix6 F06 hy6 K16 K26 hL' B7 f7 s7 f8 f78 f9 f79
  go_wp2_with fail
  refine q10.mono ?_
  rintro v w10 ⟨rfl, ks, f10⟩
  clear q10
  rw [← Heix.out] at ks f10
  obtain ⟨_, X6, B06, B46, B6, kix6, F06, hy6, K16, K26, hL'⟩ := HZ.out
  obtain ⟨_, B7, f7, s7⟩ := H7.out
  obtain ⟨_, f8, f78⟩ := H8.out
  obtain ⟨_, f9, f79⟩ := H9.out
  have F10 : Fr (isB ix) w6 w10 := (f79.mono fun _ _ h => h.elim).trans f10 fun _ _ h => h
  have S0 := HT.out
  have nix : ∀ b, isB ix b → b < w6.heap.size := fun b hb => kix6.at.bk hb
  obtain ⟨n14, n0, n1'⟩ := HN.out
  have D7 := ((B7.frame f8 id).frame f9 id).frame f10 fun h => by have := nix _ h; omega
  have D4 := B46.frame F10 n14
  have D0 := B06.frame F10 n0
  have qT := fun wq => tidyF (a := a1) (n := L.length) hn1' (by omega) wq
  have p0 := D7.cell (o := 0) (by omega)
  have p1 := D7.cell (o := 1) (by omega)
  have p2 := D7.cell (o := 2) (by omega)
  have p3 := D7.cell (o := 3) (by omega)
  have p4 := D7.cell (o := 4) (by omega)
  have p5 := D7.cell (o := 5) (by omega)
  have p6 := D7.cell (o := 6) (by omega)
  have p7 := D7.cell (o := 7) (by omega)
  have p8 := D7.cell (o := 8) (by omega)
  have p9 := D7.cell (o := 9) (by omega)
  have p10 := D7.cell (o := 10) (by omega)
  have p11 := D7.cell (o := 11) (by omega)
  have p12 := D7.cell (o := 12) (by omega)
  simp only [c13] at p0 p1 p2 p3 p4 p5 p6 p7 p8 p9 p10 p11 p12
  have pl := D7.lt
  have r4 := D4.cell (o := 4) (by omega)
  simp only [c6] at r4
  have rl := D4.lt
  have z0 := D0.cell (o := 0) (by omega)
  have z1 := D0.cell (o := 1) (by omega)
  have z2 := D0.cell (o := 2) (by omega)
  have z3 := D0.cell (o := 3) (by omega)
  have z4 := D0.cell (o := 4) (by omega)
  have z5 := D0.cell (o := 5) (by omega)
  have z6 := D0.cell (o := 6) (by omega)
  have z7 := D0.cell (o := 7) (by omega)
  have z8 := D0.cell (o := 8) (by omega)
  have z9 := D0.cell (o := 9) (by omega)
  have z10 := D0.cell (o := 10) (by omega)
  have z11 := D0.cell (o := 11) (by omega)
  have z12 := D0.cell (o := 12) (by omega)
  simp only [c13] at z0 z1 z2 z3 z4 z5 z6 z7 z8 z9 z10 z11 z12
  have zl := D0.lt
  have zz := D0.frozen
  have D13 := (D0.set13 (.int .i64 er) (.int .i64 po) (.int .i64 en) (.int .i64 rt) (.slice a1 L.length L.length) (.int .i64 fu) (.int .i64 er) (.int .i64 po) (.int .i64 en) (.int .i64 rt) (.slice a2 L.length L.length) (.int .i64 fu) (.slice ia I.length I.length)).drew
  have F13 := ((Fr.refl (fun b => b = w.heap.size) w10).set13 (b := w.heap.size) (fun _ => rfl) (.int .i64 er) (.int .i64 po) (.int .i64 en) (.int .i64 rt) (.slice a1 L.length L.length) (.int .i64 fu) (.int .i64 er) (.int .i64 po) (.int .i64 en) (.int .i64 rt) (.slice a2 L.length L.length) (.int .i64 fu) (.slice ia I.length I.length)).drew
  have HX : Hid (True ∧ _) := ⟨trivial, And.intro F10 (And.intro ks (And.intro D13 (And.intro F13 n0)))⟩
  unfold set13 at HX
  rw [Heix.out] at p12
  clear D13 F13 F10 ks D0 D4 D7 X6 B06 B46 B6 kix6 F06 hy6 K16 K26 hL' B7 f7 s7 f8 f78 f9 f79 f10 S0 nix n14 n0 n1'
  go_upto_region 11 with fail
  refine wp_region_tree (.fork 0 (.run [1, 2] (.run [3] (.run [4, 5] .fin))) 1 (.fork 0 (.run [2] (.run [3] (.run [4, 5] .fin))) 2 (.fork 0 (.run [3] (.run [4, 5] .fin)) 3 (.run [0, 4, 5] .fin)))) (by kernel_rfl) (by kernel_rfl) ?_
  simp only [wpTL, pick, List.filterMap_cons, List.filterMap_nil, List.getElem?_cons_zero, List.getElem?_cons_succ]
  refine ⟨?_, ?_⟩
  · go_wp2_with fail
    refine ⟨?_⟩
    go_wp2_with fail
    refine ⟨?_⟩
    go_wp2_with fail
    refine (qT _).mono ?_
    rintro v w11 ⟨rfl, hw11⟩
    subst w11
    go_wp2_with fail
    refine ⟨?_⟩
    go_wp2_with fail
    refine ⟨?_⟩
    refine ⟨by kernel_rfl, ?_⟩
    go_wp2_with fail
    obtain ⟨_, F10, ks, D13, F13, n0⟩ := HX.out
    have y0 := D13.cell (o := 0) (by omega)
    have y1 := D13.cell (o := 1) (by omega)
    have y2 := D13.cell (o := 2) (by omega)
    have y3 := D13.cell (o := 3) (by omega)
    have y4 := D13.cell (o := 4) (by omega)
    have y5 := D13.cell (o := 5) (by omega)
    have y6 := D13.cell (o := 6) (by omega)
    have y7 := D13.cell (o := 7) (by omega)
    have y8 := D13.cell (o := 8) (by omega)
    have y9 := D13.cell (o := 9) (by omega)
    have y10 := D13.cell (o := 10) (by omega)
    have y11 := D13.cell (o := 11) (by omega)
    have y12 := D13.cell (o := 12) (by omega)
    simp only [c13] at y0 y1 y2 y3 y4 y5 y6 y7 y8 y9 y10 y11 y12
    have yl := D13.lt
    refine bodyPost_ret (v := .tuple #[bothV er po en rt fu (.slice a1 L.length L.length) (.slice a2 L.length L.length) (.slice ia I.length I.length), .bool true]) (by simp [results, Tryz.results12, go_sem, bothV, y0, y1, y2, y3, y4, y5, y6, y7, y8, y9, y10, y11, y12]) rfl ?_
    refine ⟨er, po, en, rt, fu, L, _, _, ix, _, by rw [Heix.out], HT.out _ ((F10.mono fun _ _ h => .inl h).trans F13 fun b hb h => .inr h.symm) (ks.frame F13 fun b hb h => n0 (by have h : b = w.heap.size := h; rw [← h]; exact hb))⟩
  · go_wp2_with fail
    refine ⟨⟨?_, ?_⟩⟩
    · go_wp2_with fail
      refine ⟨?_⟩
      go_wp2_with fail
      refine ⟨?_⟩
      go_wp2_with fail
      refine (qT _).mono ?_
      rintro v w11 ⟨rfl, hw11⟩
      subst w11
      go_wp2_with fail
      refine ⟨?_⟩
      go_wp2_with fail
      refine ⟨?_⟩
      refine ⟨by kernel_rfl, ?_⟩
      go_wp2_with fail
      obtain ⟨_, F10, ks, D13, F13, n0⟩ := HX.out
      have y0 := D13.cell (o := 0) (by omega)
      have y1 := D13.cell (o := 1) (by omega)
      have y2 := D13.cell (o := 2) (by omega)
      have y3 := D13.cell (o := 3) (by omega)
      have y4 := D13.cell (o := 4) (by omega)
      have y5 := D13.cell (o := 5) (by omega)
      have y6 := D13.cell (o := 6) (by omega)
      have y7 := D13.cell (o := 7) (by omega)
      have y8 := D13.cell (o := 8) (by omega)
      have y9 := D13.cell (o := 9) (by omega)
      have y10 := D13.cell (o := 10) (by omega)
      have y11 := D13.cell (o := 11) (by omega)
      have y12 := D13.cell (o := 12) (by omega)
      simp only [c13] at y0 y1 y2 y3 y4 y5 y6 y7 y8 y9 y10 y11 y12
      have yl := D13.lt
      refine bodyPost_ret (v := .tuple #[bothV er po en rt fu (.slice a1 L.length L.length) (.slice a2 L.length L.length) (.slice ia I.length I.length), .bool true]) (by simp [results, Tryz.results12, go_sem, bothV, y0, y1, y2, y3, y4, y5, y6, y7, y8, y9, y10, y11, y12]) rfl ?_
      refine ⟨er, po, en, rt, fu, L, _, _, ix, _, by rw [Heix.out], HT.out _ ((F10.mono fun _ _ h => .inl h).trans F13 fun b hb h => .inr h.symm) (ks.frame F13 fun b hb h => n0 (by have h : b = w.heap.size := h; rw [← h]; exact hb))⟩
    · go_wp2_with fail
      refine ⟨⟨?_, ?_⟩⟩
      · go_wp2_with fail
        refine ⟨?_⟩
        go_wp2_with fail
        refine (qT _).mono ?_
        rintro v w11 ⟨rfl, hw11⟩
        subst w11
        go_wp2_with fail
        refine ⟨?_⟩
        go_wp2_with fail
        refine ⟨?_⟩
        refine ⟨by kernel_rfl, ?_⟩
        go_wp2_with fail
        obtain ⟨_, F10, ks, D13, F13, n0⟩ := HX.out
        have y0 := D13.cell (o := 0) (by omega)
        have y1 := D13.cell (o := 1) (by omega)
        have y2 := D13.cell (o := 2) (by omega)
        have y3 := D13.cell (o := 3) (by omega)
        have y4 := D13.cell (o := 4) (by omega)
        have y5 := D13.cell (o := 5) (by omega)
        have y6 := D13.cell (o := 6) (by omega)
        have y7 := D13.cell (o := 7) (by omega)
        have y8 := D13.cell (o := 8) (by omega)
        have y9 := D13.cell (o := 9) (by omega)
        have y10 := D13.cell (o := 10) (by omega)
        have y11 := D13.cell (o := 11) (by omega)
        have y12 := D13.cell (o := 12) (by omega)
        simp only [c13] at y0 y1 y2 y3 y4 y5 y6 y7 y8 y9 y10 y11 y12
        have yl := D13.lt
        refine bodyPost_ret (v := .tuple #[bothV er po en rt fu (.slice a1 L.length L.length) (.slice a2 L.length L.length) (.slice ia I.length I.length), .bool true]) (by simp [results, Tryz.results12, go_sem, bothV, y0, y1, y2, y3, y4, y5, y6, y7, y8, y9, y10, y11, y12]) rfl ?_
        refine ⟨er, po, en, rt, fu, L, _, _, ix, _, by rw [Heix.out], HT.out _ ((F10.mono fun _ _ h => .inl h).trans F13 fun b hb h => .inr h.symm) (ks.frame F13 fun b hb h => n0 (by have h : b = w.heap.size := h; rw [← h]; exact hb))⟩
      · go_wp2_with fail
        refine (qT _).mono ?_
        rintro v w11 ⟨rfl, hw11⟩
        subst w11
        go_wp2_with fail
        refine ⟨?_⟩
        go_wp2_with fail
        refine ⟨?_⟩
        refine ⟨by kernel_rfl, ?_⟩
        go_wp2_with fail
        obtain ⟨_, F10, ks, D13, F13, n0⟩ := HX.out
        have y0 := D13.cell (o := 0) (by omega)
        have y1 := D13.cell (o := 1) (by omega)
        have y2 := D13.cell (o := 2) (by omega)
        have y3 := D13.cell (o := 3) (by omega)
        have y4 := D13.cell (o := 4) (by omega)
        have y5 := D13.cell (o := 5) (by omega)
        have y6 := D13.cell (o := 6) (by omega)
        have y7 := D13.cell (o := 7) (by omega)
        have y8 := D13.cell (o := 8) (by omega)
        have y9 := D13.cell (o := 9) (by omega)
        have y10 := D13.cell (o := 10) (by omega)
        have y11 := D13.cell (o := 11) (by omega)
        have y12 := D13.cell (o := 12) (by omega)
        simp only [c13] at y0 y1 y2 y3 y4 y5 y6 y7 y8 y9 y10 y11 y12
        have yl := D13.lt
        refine bodyPost_ret (v := .tuple #[bothV er po en rt fu (.slice a1 L.length L.length) (.slice a2 L.length L.length) (.slice ia I.length I.length), .bool true]) (by simp [results, Tryz.results12, go_sem, bothV, y0, y1, y2, y3, y4, y5, y6, y7, y8, y9, y10, y11, y12]) rfl ?_
        refine ⟨er, po, en, rt, fu, L, _, _, ix, _, by rw [Heix.out], HT.out _ ((F10.mono fun _ _ h => .inl h).trans F13 fun b hb h => .inr h.symm) (ks.frame F13 fun b hb h => n0 (by have h : b = w.heap.size := h; rw [← h]; exact hb))⟩

end Go.Proofs.Qxb6500277aGreat
