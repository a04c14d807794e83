/- The law: SameNode, SameTree, NilIfEmpty, Stamp, Spoil. -/
import Derived.Test.Qxb6500280aQM16
import Derived.WalkLawsBesides
namespace Go.Proofs.Qxb6500280a
open Go Go.RowKit

set_option maxRecDepth 100000 in
set_option maxHeartbeats 2000000 in
theorem sameNode (nd : Nd) (w : World) : Calls Try.prog 34 #[ndV nd, ndV nd] w fun e w' => e = .returned (.bool true) ∧ Fr (fun _ => False) w w' := by
  obtain ⟨k, a, b, c, n, v, p, s⟩ := nd
  unfold ndV
  go_enter Try.func34, Try.ntmps34
  go_wp2_with fail
  go_ret
  exact ⟨by simp, ((Fr.refl _ _).alloc _).alloc _⟩
theorem NLV.sl {w : World} {v : Value} {ns : List Nd} (h : NLV w v ns) : ∃ a, v = .slice a ns.length ns.length := by
  rcases h with ⟨rfl, rfl⟩ | ⟨b, f, rfl, _⟩
  · exact ⟨_, rfl⟩
  · exact ⟨_, rfl⟩
theorem NLV.get {w : World} {v : Value} {ns : List Nd} (h : NLV w v ns) {k : Nat} (hk : k < ns.length) : ∃ b f, v = .slice (some ⟨b, 0, none⟩) ns.length ns.length ∧ Blk w b (ns.length * 8) f ∧ NdP f ns := by
  rcases h with ⟨rfl, rfl⟩ | ⟨b, f, rfl, h1, h2, _⟩
  · simp at hk
  · exact ⟨b, f, rfl, h1, h2⟩
def box4v (v : Value) (r e p : Int) : Obj := .cells #[v, .int .i64 r, .int .i64 e, .int .i64 p] 41
set_option maxRecDepth 100000 in
set_option maxHeartbeats 4000000 in
theorem sameTree {w : World} {v u : Value} {ns : List Nd} {r e p : Int} (h1 : NLV w v ns) (h2 : NLV w u ns) (hl : ns.length ≤ 200) : Calls Try.prog 19 #[treeV v r e p, treeV u r e p] w fun x w' => x = .returned (.bool true) ∧ Fr (fun _ => False) w w' := by
  obtain ⟨a1, e1⟩ := h1.sl
  obtain ⟨a2, e2⟩ := h2.sl
  have F0 := ((Fr.refl (fun _ => False) w).alloc (box4v v r e p)).alloc (box4v u r e p)
  have X1 : Blk (w.alloc (box4v v r e p)) w.heap.size 4 (fun o => match o with | 0 => v | 1 => .int .i64 r | 2 => .int .i64 e | _ => .int .i64 p) := Blk.new w _ _ _ fun o ho => by
    obtain rfl | rfl | rfl | rfl : o = 0 ∨ o = 1 ∨ o = 2 ∨ o = 3 := by have : o < 4 := ho; omega
    all_goals rfl
  have X2 : Blk ((w.alloc (box4v v r e p)).alloc (box4v u r e p)) (w.heap.size + 1) 4 (fun o => match o with | 0 => u | 1 => .int .i64 r | 2 => .int .i64 e | _ => .int .i64 p) := by
    have := Blk.new (w.alloc (box4v v r e p)) #[u, .int .i64 r, .int .i64 e, .int .i64 p] 41 (fun o => match o with | 0 => u | 1 => .int .i64 r | 2 => .int .i64 e | _ => .int .i64 p) (fun o ho => by
      obtain rfl | rfl | rfl | rfl : o = 0 ∨ o = 1 ∨ o = 2 ∨ o = 3 := by have : o < 4 := ho; omega
      all_goals rfl)
    rw [World.size_alloc] at this
    exact this
  have X1' := X1.alloc (box4v u r e p)
  have H1 : Hid (NLV w v ns) := h1
  have H2 : Hid (NLV w u ns) := h2
  unfold treeV
  go_enter Try.func19, Try.ntmps19
  rw [e1, e2]
  go_wp2_with fail
  have HF0 : Hid _ := F0
  have HX1 : Hid (Blk _ w.heap.size 4 _) := X1'
  have HX2 : Hid (Blk _ (w.heap.size + 1) 4 _) := X2
  clear F0 X1 X2 X1' h1 h2
  go_loopg [5] ns.length (fun gk kv wr => ∃ k : Nat, kv = .int .i64 k ∧ k + gk = ns.length ∧ Fr (fun _ => False) ((w.alloc (box4v v r e p)).alloc (box4v u r e p)) wr)
  case atStart => exact ⟨0, rfl, by omega, by unfold box4v; rw [e1, e2]; exact Fr.refl _ _⟩
  case round =>
    obtain ⟨k, rfl, hkg, FJ⟩ := hrel
    have Hkg : Hid _ := hkg
    have Y1 := HX1.out.frame FJ (fun h => h)
    have Y2 := HX2.out.frame FJ (fun h => h)
    have c1 := Y1.cell (o := 0) (by omega)
    have c2 := Y2.cell (o := 0) (by omega)
    simp only at c1 c2
    rw [e1] at c1
    rw [e2] at c2
    have l1 := Y1.lt
    have l2 := Y2.lt
    have HFJ : Hid _ := FJ
    by_cases hk : k < ns.length
    · have z1 : decide ((k : Int) < (ns.length : Int)) = true := decide_eq_true (by omega)
      have z2 : decide (k < ns.length) = true := decide_eq_true hk
      obtain ⟨b, f, e3, hb, hp⟩ := (H1.out.frame (HF0.out.trans FJ (fun _ _ h => h)) (fun _ _ h => h)).get hk
      obtain ⟨b', f', e4, hb', hp'⟩ := (H2.out.frame (HF0.out.trans FJ (fun _ _ h => h)) (fun _ _ h => h)).get hk
      have e5 := e1.symm.trans e3
      have e6 := e2.symm.trans e4
      cases e5
      cases e6
      obtain ⟨m0, m1, m2, m3, m4, m5, m6, m7⟩ := hb.node hp hk (by omega)
      obtain ⟨n0, n1, n2, n3, n4, n5, n6, n7⟩ := hb'.node hp' hk (by omega)
      have lb := hb.lt
      have lb' := hb'.lt
      generalize ns[k] = nd at *
      have hk2 : k < 200 := by omega
      clear hkg hb hb' hp hp' Y1 Y2 e3 e4 FJ
      go_wp2_with fail
      refine wp_region_text (by kernel_rfl) (by kernel_rfl) ?_
      go_wp2_with fail
      refine (sameNode nd _).mono ?_
      rintro x w2 ⟨rfl, f2⟩
      go_wp2_with fail
      refine ⟨by kernel_rfl, ?_⟩
      go_wp2_with fail
      go_roundg (gk - 1)
      case measure => have := Hkg.out; have := of_decide_eq_true z2; omega
      case rel => exact ⟨k + 1, by simp, by have := Hkg.out; have := of_decide_eq_true z2; omega, (HFJ.out.drew).trans f2 (fun _ _ h => h)⟩
    · have z1 : decide ((k : Int) < (ns.length : Int)) = false := decide_eq_false (by omega)
      have z2 : decide (k < ns.length) = false := decide_eq_false hk
      clear hkg hk
      go_wp2_with fail
      go_ret
      exact ⟨rfl, HF0.out.trans HFJ.out (fun _ _ h => h)⟩
set_option maxRecDepth 100000 in
set_option maxHeartbeats 4000000 in
theorem nilIfEmpty {w : World} {v : Value} {ns : List Nd} {r e p : Int} (h : NLV w v ns) (hl : ns.length ≤ 200) : Calls Try.prog 20 #[treeV v r e p] w fun x w' => x = .returned (.bool true) ∧ Fr (fun _ => False) w w' := by
  unfold treeV
  rcases h with ⟨rfl, rfl⟩ | ⟨b, f, rfl, h1, h2, h3⟩
  · have hr : ∀ (w : World), (binOp .eql 38 (.slice none 0 0) (.slice none 0 0)).run Try.prog w = .ok (.bool true) w := fun w => Go.Lib.run_eql_slice_nil w 38 67 none 0 0 0 0 Try.underlying38
    go_enter Try.func20, Try.ntmps20
    go_wp2_with fail
    go_ret
    exact ⟨rfl, (Fr.refl _ _).alloc _⟩
  · have z : decide ((ns.length : Int) > 0) = true := decide_eq_true (by omega)
    go_enter Try.func20, Try.ntmps20
    go_wp2_with fail
    go_ret
    exact ⟨by simp, (Fr.refl _ _).alloc _⟩
def stNd : Nd := ⟨-1, -2, -2, -2, -2, -1, -1, ⟨#[109, 105, 110, 101]⟩⟩
set_option maxRecDepth 100000 in
set_option maxHeartbeats 1000000 in
theorem stampF (w : World) : Calls Try.prog 35 #[] w fun v w' => v = .returned (ndV stNd) ∧ Fr (fun _ => False) w w' := by
  go_enter Try.func35, Try.ntmps35
  go_wp2_with fail
  exact bodyPost_ret (v := ndV stNd) (by simp [results, Try.results35, go_sem, ndV, stNd]) rfl ⟨rfl, (Fr.refl _ _).alloc _⟩
end Go.Proofs.Qxb6500280a
