/- ways, whole; MatchAt. -/
import Derived.Test.Qxb6500283aGreatX6
import Derived.Test.Qxb6500283aGreatX6a
import Derived.Test.Qxb6500283aGreatX6b
import Derived.Test.Qxb6500283aGreatX6c
import Derived.Test.Qxb6500283aGreatT9
namespace Go.Proofs.Qxb6500283aGreat
open Go Go.RowKit

theorem ways_any {ns : List Nd} {bk cp : Nat} {y g : Int} {s : ByteArray} (hs : s.size ≤ 256) {k : Nat} {r : Rx} (h : IsT ns k r) : RxW r → WC ns bk cp y g s k (wy s r) := by
  induction h with
  | @emp k n h e =>
    obtain ⟨hk, rfl⟩ := getE h
    intro _ w i c hN hbl hi
    have hk24 : (k : Int) < ns.length := by omega
    have n0 := hN k hk 0 (by omega)
    have n1 := hN k hk 1 (by omega)
    have n2 := hN k hk 2 (by omega)
    have n3 := hN k hk 3 (by omega)
    have n4 := hN k hk 4 (by omega)
    have n5 := hN k hk 5 (by omega)
    have n6 := hN k hk 6 (by omega)
    have n7 := hN k hk 7 (by omega)
    have n8 := hN k hk 8 (by omega)
    have n9 := hN k hk 9 (by omega)
    have n10 := hN k hk 10 (by omega)
    simp only [ndCell, Nat.add_zero] at n0 n1 n2 n3 n4 n5 n6 n7 n8 n9 n10
    rw [e] at n0
    exact ways_emp hbl hi hk24 n0 n1 n2 n3 n4 n5 n6 n7 n8 n9 n10
  | @set k n h e =>
    obtain ⟨hk, rfl⟩ := getE h
    intro _ w i c hN hbl hi
    have hk24 : (k : Int) < ns.length := by omega
    have n0 := hN k hk 0 (by omega)
    have n1 := hN k hk 1 (by omega)
    have n2 := hN k hk 2 (by omega)
    have n3 := hN k hk 3 (by omega)
    have n4 := hN k hk 4 (by omega)
    have n5 := hN k hk 5 (by omega)
    have n6 := hN k hk 6 (by omega)
    have n7 := hN k hk 7 (by omega)
    have n8 := hN k hk 8 (by omega)
    have n9 := hN k hk 9 (by omega)
    have n10 := hN k hk 10 (by omega)
    simp only [ndCell, Nat.add_zero] at n0 n1 n2 n3 n4 n5 n6 n7 n8 n9 n10
    rw [e] at n0
    exact ways_set hbl hs hi hk24 n0 n1 n2 n3 n4 n5 n6 n7 n8 n9 n10
  | @bol k n h e =>
    obtain ⟨hk, rfl⟩ := getE h
    intro _ w i c hN hbl hi
    have hk24 : (k : Int) < ns.length := by omega
    have n0 := hN k hk 0 (by omega)
    have n1 := hN k hk 1 (by omega)
    have n2 := hN k hk 2 (by omega)
    have n3 := hN k hk 3 (by omega)
    have n4 := hN k hk 4 (by omega)
    have n5 := hN k hk 5 (by omega)
    have n6 := hN k hk 6 (by omega)
    have n7 := hN k hk 7 (by omega)
    have n8 := hN k hk 8 (by omega)
    have n9 := hN k hk 9 (by omega)
    have n10 := hN k hk 10 (by omega)
    simp only [ndCell, Nat.add_zero] at n0 n1 n2 n3 n4 n5 n6 n7 n8 n9 n10
    rw [e] at n0
    exact ways_bol hbl hi hk24 n0 n1 n2 n3 n4 n5 n6 n7 n8 n9 n10
  | @eol k n h e =>
    obtain ⟨hk, rfl⟩ := getE h
    intro _ w i c hN hbl hi
    have hk24 : (k : Int) < ns.length := by omega
    have n0 := hN k hk 0 (by omega)
    have n1 := hN k hk 1 (by omega)
    have n2 := hN k hk 2 (by omega)
    have n3 := hN k hk 3 (by omega)
    have n4 := hN k hk 4 (by omega)
    have n5 := hN k hk 5 (by omega)
    have n6 := hN k hk 6 (by omega)
    have n7 := hN k hk 7 (by omega)
    have n8 := hN k hk 8 (by omega)
    have n9 := hN k hk 9 (by omega)
    have n10 := hN k hk 10 (by omega)
    simp only [ndCell, Nat.add_zero] at n0 n1 n2 n3 n4 n5 n6 n7 n8 n9 n10
    rw [e] at n0
    exact ways_eol hbl hi hk24 n0 n1 n2 n3 n4 n5 n6 n7 n8 n9 n10
  | @cat k A B n a b h e e1 e2 l1 l2 hA hB ih1 ih2 =>
    obtain ⟨hk, rfl⟩ := getE h
    intro hw w i c hN hbl hi
    have hk24 : (k : Int) < ns.length := by omega
    have n0 := hN k hk 0 (by omega)
    have n1 := hN k hk 1 (by omega)
    have n2 := hN k hk 2 (by omega)
    have n3 := hN k hk 3 (by omega)
    have n4 := hN k hk 4 (by omega)
    have n5 := hN k hk 5 (by omega)
    have n6 := hN k hk 6 (by omega)
    have n7 := hN k hk 7 (by omega)
    have n8 := hN k hk 8 (by omega)
    have n9 := hN k hk 9 (by omega)
    have n10 := hN k hk 10 (by omega)
    simp only [ndCell, Nat.add_zero] at n0 n1 n2 n3 n4 n5 n6 n7 n8 n9 n10
    rw [e] at n0
    rw [e1] at n1
    rw [e2] at n2
    exact ways_cat hN hbl hs hi hk24 n0 n1 n2 n3 n4 n5 n6 n7 n8 n9 n10 (wy_good s a) (wy_good s b) (ih1 hw.1) (ih2 hw.2)
  | @alt k A B n a b h e e1 e2 l1 l2 hA hB ih1 ih2 =>
    obtain ⟨hk, rfl⟩ := getE h
    intro hw w i c hN hbl hi
    have hk24 : (k : Int) < ns.length := by omega
    have n0 := hN k hk 0 (by omega)
    have n1 := hN k hk 1 (by omega)
    have n2 := hN k hk 2 (by omega)
    have n3 := hN k hk 3 (by omega)
    have n4 := hN k hk 4 (by omega)
    have n5 := hN k hk 5 (by omega)
    have n6 := hN k hk 6 (by omega)
    have n7 := hN k hk 7 (by omega)
    have n8 := hN k hk 8 (by omega)
    have n9 := hN k hk 9 (by omega)
    have n10 := hN k hk 10 (by omega)
    simp only [ndCell, Nat.add_zero] at n0 n1 n2 n3 n4 n5 n6 n7 n8 n9 n10
    rw [e] at n0
    rw [e1] at n1
    rw [e2] at n2
    exact ways_alt hN hbl hs hi hk24 n0 n1 n2 n3 n4 n5 n6 n7 n8 n9 n10 (wy_good s a) (wy_good s b) (ih1 hw.1) (ih2 hw.2)
  | @rep k A m n a h e e1 e2 l1 hA ih1 =>
    obtain ⟨hk, rfl⟩ := getE h
    intro hw w i c hN hbl hi
    have hk24 : (k : Int) < ns.length := by omega
    have n0 := hN k hk 0 (by omega)
    have n1 := hN k hk 1 (by omega)
    have n2 := hN k hk 2 (by omega)
    have n3 := hN k hk 3 (by omega)
    have n4 := hN k hk 4 (by omega)
    have n5 := hN k hk 5 (by omega)
    have n6 := hN k hk 6 (by omega)
    have n7 := hN k hk 7 (by omega)
    have n8 := hN k hk 8 (by omega)
    have n9 := hN k hk 9 (by omega)
    have n10 := hN k hk 10 (by omega)
    simp only [ndCell, Nat.add_zero] at n0 n1 n2 n3 n4 n5 n6 n7 n8 n9 n10
    rw [e] at n0
    rw [e1] at n1
    have hT : TC ns bk cp y g s k 0 (fun _ => True) (wy s (.rep a m ns[k].mx ns[k].lz)) := fun w' j c' a1 b1 d1 _ => by
      have := turns_any (cp := cp) (y := y) (g := g) hs hk e e1 e2 hw.2.1 hw.2.2.2.1 (ih1 hw.1) (wy_good s a) (tuM s.size (max m ns[k].mx.toNat) 0 j) 0 (by omega) w' j c' a1 b1 d1 (Nat.le_refl _)
      rw [tuF_zero] at this
      exact this
    exact ways_rep hN hbl hi hk24 n0 n1 n2 n3 n4 n5 n6 n7 n8 n9 n10 hT
  | @grp k A c n a h e e1 e2 l1 hA ih1 =>
    obtain ⟨hk, rfl⟩ := getE h
    intro hw w i cc hN hbl hi
    have hk24 : (k : Int) < ns.length := by omega
    have n0 := hN k hk 0 (by omega)
    have n1 := hN k hk 1 (by omega)
    have n2 := hN k hk 2 (by omega)
    have n3 := hN k hk 3 (by omega)
    have n4 := hN k hk 4 (by omega)
    have n5 := hN k hk 5 (by omega)
    have n6 := hN k hk 6 (by omega)
    have n7 := hN k hk 7 (by omega)
    have n8 := hN k hk 8 (by omega)
    have n9 := hN k hk 9 (by omega)
    have n10 := hN k hk 10 (by omega)
    simp only [ndCell, Nat.add_zero] at n0 n1 n2 n3 n4 n5 n6 n7 n8 n9 n10
    rw [e] at n0
    rw [e1] at n1
    rw [e2] at n5
    exact ways_grp hN hbl hs hi hk24 n0 n1 n2 n3 n4 n5 n6 n7 n8 n9 n10 hw.2 (wy_good s a) (ih1 hw.1)
def headP (a : Nat) (l : List Wy) : Option Cp := match l with | [] => none | x :: _ => some (setC (setC x.2 0 a) 1 x.1)
def matchP (f : Wf) (a : Nat) : Option Cp := headP a (f a noC)
def okOf (o : Option Cp) : Bool := match o with | none => false | some _ => true
def cpOf (o : Option Cp) : Cp := match o with | none => noC | some c => c
def setAll (f : Nat → Value) : Nat → List Value → Nat → Value
  | _, [] => f
  | o, v :: l => setAll (upd f o v) (o + 1) l
theorem cells8 {w : World} {b : Nat} {f : Nat → Value} (h : Blk w b 8 f) (v0 v1 v2 v3 v4 v5 v6 v7 : Value) : Blk ((((((((w.setCell ⟨b, 0, none⟩ v0).setCell ⟨b, 1, none⟩ v1).setCell ⟨b, 2, none⟩ v2).setCell ⟨b, 3, none⟩ v3).setCell ⟨b, 4, none⟩ v4).setCell ⟨b, 5, none⟩ v5).setCell ⟨b, 6, none⟩ v6).setCell ⟨b, 7, none⟩ v7) b 8 (fun o => (#[v0, v1, v2, v3, v4, v5, v6, v7] : Array Value).getD o undef) :=
  ((((((((h.set 0 v0).set 1 v1).set 2 v2).set 3 v3).set 4 v4).set 5 v5).set 6 v6).set 7 v7).congr fun o ho => by
    obtain rfl | rfl | rfl | rfl | rfl | rfl | rfl | rfl : o = 0 ∨ o = 1 ∨ o = 2 ∨ o = 3 ∨ o = 4 ∨ o = 5 ∨ o = 6 ∨ o = 7 := by omega
    all_goals simp [upd]
theorem fr8 (w : World) (b : Nat) (v0 v1 v2 v3 v4 v5 v6 v7 : Value) : Fr (fun c => c = b) w ((((((((w.setCell ⟨b, 0, none⟩ v0).setCell ⟨b, 1, none⟩ v1).setCell ⟨b, 2, none⟩ v2).setCell ⟨b, 3, none⟩ v3).setCell ⟨b, 4, none⟩ v4).setCell ⟨b, 5, none⟩ v5).setCell ⟨b, 6, none⟩ v6).setCell ⟨b, 7, none⟩ v7) :=
  ((((((((Fr.refl (fun c => c = b) w).setC b 0 v0 (fun _ => rfl)).setC b 1 v1 (fun _ => rfl)).setC b 2 v2 (fun _ => rfl)).setC b 3 v3 (fun _ => rfl)).setC b 4 v4 (fun _ => rfl)).setC b 5 v5 (fun _ => rfl)).setC b 6 v6 (fun _ => rfl)).setC b 7 v7 (fun _ => rfl)
theorem get8 (v0 v1 v2 v3 v4 v5 v6 v7 : Value) : (#[v0, v1, v2, v3, v4, v5, v6, v7] : Array Value).getD 0 undef = v0 ∧ (#[v0, v1, v2, v3, v4, v5, v6, v7] : Array Value).getD 1 undef = v1 ∧ (#[v0, v1, v2, v3, v4, v5, v6, v7] : Array Value).getD 2 undef = v2 ∧ (#[v0, v1, v2, v3, v4, v5, v6, v7] : Array Value).getD 3 undef = v3 ∧ (#[v0, v1, v2, v3, v4, v5, v6, v7] : Array Value).getD 4 undef = v4 ∧ (#[v0, v1, v2, v3, v4, v5, v6, v7] : Array Value).getD 5 undef = v5 ∧ (#[v0, v1, v2, v3, v4, v5, v6, v7] : Array Value).getD 6 undef = v6 ∧ (#[v0, v1, v2, v3, v4, v5, v6, v7] : Array Value).getD 7 undef = v7 := ⟨rfl, rfl, rfl, rfl, rfl, rfl, rfl, rfl⟩
theorem Blk.arr8 (w : World) (v0 v1 v2 v3 v4 v5 v6 v7 : Value) : Blk (w.alloc (.cells #[v0, v1, v2, v3, v4, v5, v6, v7] 64)) w.heap.size 8 (fun o => (#[v0, v1, v2, v3, v4, v5, v6, v7] : Array Value).getD o undef) := Blk.new w _ _ _ fun o ho => by
  obtain rfl | rfl | rfl | rfl | rfl | rfl | rfl | rfl : o = 0 ∨ o = 1 ∨ o = 2 ∨ o = 3 ∨ o = 4 ∨ o = 5 ∨ o = 6 ∨ o = 7 := by simp at ho; omega
  all_goals rfl
theorem Blk.z8 (w : World) : Blk (w.alloc (.cells #[.int .i64 0, .int .i64 0, .int .i64 0, .int .i64 0, .int .i64 0, .int .i64 0, .int .i64 0, .int .i64 0] 64)) w.heap.size 8 (fun _ => .int .i64 0) := Blk.new w _ _ _ fun o ho => by
  obtain rfl | rfl | rfl | rfl | rfl | rfl | rfl | rfl : o = 0 ∨ o = 1 ∨ o = 2 ∨ o = 3 ∨ o = 4 ∨ o = 5 ∨ o = 6 ∨ o = 7 := by simp at ho; omega
  all_goals rfl
set_option maxRecDepth 100000 in
set_option maxHeartbeats 16000000 in
theorem matchAt_any {ns : List Nd} {bk cp y : Nat} {g : Int} {s : ByteArray} {f : Wf} {w : World} {a : Nat} (hs : s.size ≤ 256) (gf : Good s.size f) (hF : WC ns bk cp (y : Nat) g s y f) (hN : NPAt w bk ns) (hbl : bk < w.heap.size) (ha : a ≤ s.size) :
    Calls Tryz.prog 82 #[.agg #[.slice (some ⟨bk, 0, none⟩) ns.length cp, .int .i64 (y : Nat), .int .i64 g, .int .i64 0, .int .i64 0], .string s, .int .i64 (a : Nat)] w fun e w' => e = .returned (.tuple #[.bool (okOf (matchP f a)), capV (cpOf (matchP f a))]) ∧ Fr (fun _ => False) w w' := by
  have haI : (a : Int) ≤ s.size := by omega
  have hsI : (s.size : Int) ≤ 256 := by omega
  have t1 : decide ((256 : Int) < s.size) = false := decide_eq_false (by omega)
  have t2 : decide ((s.size : Int) < a) = false := decide_eq_false (by omega)
  have t2n : decide (s.size < a) = false := decide_eq_false (by omega)
  have hTv := (Blk.tv w (.slice (some ⟨bk, 0, none⟩) ns.length cp) (.int .i64 (y : Nat)) (.int .i64 g) (.int .i64 0) (.int .i64 0)).alloc (.cells #[.int .i64 0, .int .i64 0, .int .i64 0, .int .i64 0, .int .i64 0, .int .i64 0, .int .i64 0, .int .i64 0] 64)
  have hRc := Blk.z8 (w.alloc (.cells #[.slice (some ⟨bk, 0, none⟩) ns.length cp, .int .i64 (y : Nat), .int .i64 g, .int .i64 0, .int .i64 0] 148))
  have f2 := ((Fr.refl (fun _ => False) w).alloc (.cells #[.slice (some ⟨bk, 0, none⟩) ns.length cp, .int .i64 (y : Nat), .int .i64 g, .int .i64 0, .int .i64 0] 148)).alloc (.cells #[.int .i64 0, .int .i64 0, .int .i64 0, .int .i64 0, .int .i64 0, .int .i64 0, .int .i64 0, .int .i64 0] 64)
  simp only [World.size_alloc] at hRc
  go_enter Tryz.func82, Tryz.ntmps82
  go_wp2_with fail
  refine (nocaps_any _).mono ?_
  rintro v w3 ⟨rfl, f3⟩
  rw [capV_no]
  have f4 := (Fr.refl (fun _ => False) w3).alloc (.cells #[.int .i64 (-1), .int .i64 (-1), .int .i64 (-1), .int .i64 (-1), .int .i64 (-1), .int .i64 (-1), .int .i64 (-1), .int .i64 (-1)] 64)
  have hTv4 := (hTv.frame f3 (fun h => h)).frame f4 (fun h => h)
  have hRc4 := (hRc.frame f3 (fun h => h)).frame f4 (fun h => h)
  have F4 := (f2.trans f3 (fun _ _ h => h)).trans f4 (fun _ _ h => h)
  have hNc4 := Blk.cap w3 noC
  have hw3 := f3.size
  simp only [World.size_alloc] at hw3
  have hsz4 : w3.heap.size + 1 = (w3.alloc (.cells #[.int .i64 (-1), .int .i64 (-1), .int .i64 (-1), .int .i64 (-1), .int .i64 (-1), .int .i64 (-1), .int .i64 (-1), .int .i64 (-1)] 64)).heap.size := by simp
  have hF4 := hF _ a noC (hN.frame F4 (fun h => h)) (by rw [World.size_alloc]; omega) ha
  rw [capV_no] at hF4
  have HF4 : Hid _ := hF4
  clear hF4 hTv hRc
  have q0 := hTv4.cell (o := 0) (by omega)
  have q1 := hTv4.cell (o := 1) (by omega)
  have q2 := hTv4.cell (o := 2) (by omega)
  have q3 := hTv4.cell (o := 3) (by omega)
  have q4 := hTv4.cell (o := 4) (by omega)
  simp only [trF5] at q0 q1 q2 q3 q4
  have lTv := hTv4.lt
  go_wp2_with fail
  refine Calls.mono HF4.out ?_
  rintro v w5 ⟨av, rfl, hA5, hAo, f5⟩
  have hRc5 := hRc4.frame f5 (fun h => h)
  have hNc5 := hNc4.frame f5 (fun h => h)
  have F5 := F4.trans f5 (fun _ _ h => h)
  have hw5 := f5.size
  rw [← hsz4] at hAo hw5
  clear HF4 q0 q1 q2 q3 q4 hTv4 hRc4 hNc4
  have lR := hRc5.lt
  have lC := hNc5.lt
  have zR := hRc5.frozen
  have m0 := hRc5.cell (o := 0) (by omega)
  have p0 := hNc5.cell (o := 0) (by omega)
  have m1 := hRc5.cell (o := 1) (by omega)
  have p1 := hNc5.cell (o := 1) (by omega)
  have m2 := hRc5.cell (o := 2) (by omega)
  have p2 := hNc5.cell (o := 2) (by omega)
  have m3 := hRc5.cell (o := 3) (by omega)
  have p3 := hNc5.cell (o := 3) (by omega)
  have m4 := hRc5.cell (o := 4) (by omega)
  have p4 := hNc5.cell (o := 4) (by omega)
  have m5 := hRc5.cell (o := 5) (by omega)
  have p5 := hNc5.cell (o := 5) (by omega)
  have m6 := hRc5.cell (o := 6) (by omega)
  have p6 := hNc5.cell (o := 6) (by omega)
  have m7 := hRc5.cell (o := 7) (by omega)
  have p7 := hNc5.cell (o := 7) (by omega)
  simp only [capCell, noC] at p0 p1 p2 p3 p4 p5 p6 p7
  have lo := gf.lo a noC ha
  obtain ⟨al, Hal⟩ : ∃ al, Hid (al = f a noC) := ⟨_, rfl⟩
  rw [← Hal.out] at hA5 lo
  have HP : Hid (matchP f a = headP a al) := by
    show matchP f a = headP a al
    rw [Hal.out]
    rfl
  cases al with
  | nil =>
    have HP1 : Hid (matchP f a = none) := HP.out
    obtain ⟨aa, ac, rfl, _⟩ := hA5.sl
    have e8 := cells8 hRc5 (.int .i64 (-1)) (.int .i64 (-1)) (.int .i64 (-1)) (.int .i64 (-1)) (.int .i64 (-1)) (.int .i64 (-1)) (.int .i64 (-1)) (.int .i64 (-1))
    have F8 := fr8 w5 (w.heap.size + 1) (.int .i64 (-1)) (.int .i64 (-1)) (.int .i64 (-1)) (.int .i64 (-1)) (.int .i64 (-1)) (.int .i64 (-1)) (.int .i64 (-1)) (.int .i64 (-1))
    have FF := (F5.trans F8 (fun b hb h => by omega)).drew
    have e8d := e8.drew
    go_wp2_with fail
    refine wp_region_text (by kernel_rfl) (by kernel_rfl) ?_
    go_wp2_with fail
    refine ⟨by kernel_rfl, ?_⟩
    go_wp2_with fail
    have r0 := e8d.cell (o := 0) (by omega)
    have r1 := e8d.cell (o := 1) (by omega)
    have r2 := e8d.cell (o := 2) (by omega)
    have r3 := e8d.cell (o := 3) (by omega)
    have r4 := e8d.cell (o := 4) (by omega)
    have r5 := e8d.cell (o := 5) (by omega)
    have r6 := e8d.cell (o := 6) (by omega)
    have r7 := e8d.cell (o := 7) (by omega)
    simp only [get8] at r0 r1 r2 r3 r4 r5 r6 r7
    rw [HP1.out]
    exact bodyPost_ret (v := .tuple #[.bool false, capV noC]) (by simp [results, Tryz.results82, go_sem, capV_no, r0, r1, r2, r3, r4, r5, r6, r7]) rfl ⟨rfl, FF⟩
  | cons x xs =>
    obtain ⟨xe, xc⟩ := x
    have HP1 : Hid (matchP f a = some (setC (setC xc 0 a) 1 xe)) := HP.out
    obtain ⟨aa, ac, rfl, hA⟩ := hA5.sl
    rcases hA with hA | ⟨q, rfl, hA⟩
    · cases hA
    have hql : q < w5.heap.size := hA5.lt ⟨_, _, rfl⟩
    have a0 := hA 0 (by simp) 0 (by omega)
    have a1 := hA 0 (by simp) 1 (by omega)
    have a2 := hA 0 (by simp) 2 (by omega)
    have a3 := hA 0 (by simp) 3 (by omega)
    have a4 := hA 0 (by simp) 4 (by omega)
    have a5 := hA 0 (by simp) 5 (by omega)
    have a6 := hA 0 (by simp) 6 (by omega)
    have a7 := hA 0 (by simp) 7 (by omega)
    have a8 := hA 0 (by simp) 8 (by omega)
    simp only [wyCell, Nat.zero_mul, Nat.zero_add, List.getElem_cons_zero] at a0 a1 a2 a3 a4 a5 a6 a7 a8
    have hpos : (0 : Int) < ((xe, xc) :: xs).length := by rw [List.length_cons]; omega
    have h0 : (((((xe, xc) :: xs : List Wy).length : Nat) : Int) == 0) = false := by rw [List.length_cons]; simp; omega
    have hexI : (xe : Int) ≤ s.size := by have := (lo (xe, xc) (List.mem_cons_self ..)).2; simp only at this; omega
    generalize hl : ((xe, xc) :: xs).length = ll at *
    clear hl
    have e8 := ((cells8 hRc5 (.int .i64 (a : Nat)) (.int .i64 (xe : Nat)) (.int .i64 (xc 2)) (.int .i64 (xc 3)) (.int .i64 (xc 4)) (.int .i64 (xc 5)) (.int .i64 (xc 6)) (.int .i64 (xc 7))).alloc (.cells #[.int .i64 (a : Nat), .int .i64 (xe : Nat), .int .i64 (xc 2), .int .i64 (xc 3), .int .i64 (xc 4), .int .i64 (xc 5), .int .i64 (xc 6), .int .i64 (xc 7)] 64)).drew.drew
    have FF := ((F5.trans (fr8 w5 (w.heap.size + 1) (.int .i64 (a : Nat)) (.int .i64 (xe : Nat)) (.int .i64 (xc 2)) (.int .i64 (xc 3)) (.int .i64 (xc 4)) (.int .i64 (xc 5)) (.int .i64 (xc 6)) (.int .i64 (xc 7))) (fun b hb h => by omega)).alloc (.cells #[.int .i64 (a : Nat), .int .i64 (xe : Nat), .int .i64 (xc 2), .int .i64 (xc 3), .int .i64 (xc 4), .int .i64 (xc 5), .int .i64 (xc 6), .int .i64 (xc 7)] 64)).drew.drew
    go_wp2_with fail
    go_region
    all_goals go_wp2_with fail
    all_goals refine wp_region_text (by kernel_rfl) (by kernel_rfl) ?_
    all_goals go_wp2_with fail
    all_goals refine ⟨by kernel_rfl, ?_⟩
    all_goals go_wp2_with fail
    all_goals have r0 := e8.cell (o := 0) (by omega)
    all_goals have r1 := e8.cell (o := 1) (by omega)
    all_goals have r2 := e8.cell (o := 2) (by omega)
    all_goals have r3 := e8.cell (o := 3) (by omega)
    all_goals have r4 := e8.cell (o := 4) (by omega)
    all_goals have r5 := e8.cell (o := 5) (by omega)
    all_goals have r6 := e8.cell (o := 6) (by omega)
    all_goals have r7 := e8.cell (o := 7) (by omega)
    all_goals simp only [get8] at r0 r1 r2 r3 r4 r5 r6 r7
    all_goals rw [HP1.out]
    all_goals exact bodyPost_ret (v := .tuple #[.bool true, capV (setC (setC xc 0 a) 1 xe)]) (by simp [results, Tryz.results82, go_sem, capV, setC, r0, r1, r2, r3, r4, r5, r6, r7]) rfl ⟨rfl, FF⟩
end Go.Proofs.Qxb6500283aGreat
