/- SameShape. -/
import Derived.Test.Qxb6500280aRT9
import Derived.Test.Qxb6500280aPL4
import Derived.BigRegion
namespace Go.Proofs.Qxb6500280a
open Go Go.RowKit

theorem Zq.nth {a b : List Nd} (h : Zq a b) {k : Nat} (h1 : k < a.length) (h2 : k < b.length) : ∃ ki x y z n v p1 p2 s, a[k] = ⟨ki, x, y, z, n, v, p1, s⟩ ∧ b[k] = ⟨ki, x, y, z, n, v, p2, s⟩ := by
  have := h.get k
  rw [List.getElem?_eq_getElem h1, List.getElem?_eq_getElem h2] at this
  simp only [Option.getD_some] at this
  generalize a[k] = x at *
  generalize b[k] = y at *
  obtain ⟨a1, a2, a3, a4, a5, a6, a7, a8⟩ := x
  obtain ⟨b1, b2, b3, b4, b5, b6, b7, b8⟩ := y
  simp only [zN, Nd.mk.injEq] at this
  obtain ⟨rfl, rfl, rfl, rfl, rfl, rfl, _, rfl⟩ := this
  exact ⟨_, _, _, _, _, _, _, _, _, rfl, rfl⟩
set_option maxRecDepth 100000 in
set_option maxHeartbeats 16000000 in
theorem sameShape {w : World} {v u : Value} {ns ms : List Nd} {r e p p2 : Int} (h1 : NLV w v ns) (h2 : NLV w u ms) (hz : Zq ns ms) (hl : ns.length ≤ 200) : Calls Try.prog 17 #[treeV v r e p, treeV u r e p2] w fun x w' => x = .returned (.bool true) ∧ Fr (fun _ => False) w w' := by
  obtain ⟨a1, e1⟩ := h1.sl
  obtain ⟨a2, e2⟩ := h2.sl
  have hlen := hz.len
  rw [← hlen] at e2
  have F0 := ((Fr.refl (fun _ => False) w).alloc (box4v v r e p)).alloc (box4v u r e p2)
  have X1 := (trC_blk w v r e p).alloc (box4v u r e p2)
  have X2 := trC_blk (w.alloc (box4v v r e p)) u r e p2
  rw [World.size_alloc] at X2
  have H1 : Hid (NLV w v ns) := h1
  have H2 : Hid (NLV w u ms) := h2
  have Hz : Hid (Zq ns ms) := hz
  have Hlen : Hid _ := hlen
  unfold treeV
  go_enter Try.func17, Try.ntmps17
  rw [e1, e2]
  clear hlen
  go_wp2_with fail
  have HF0 : Hid _ := F0
  have HX1 : Hid (Blk _ w.heap.size 4 _) := X1
  have HX2 : Hid (Blk _ (w.heap.size + 1) 4 _) := X2
  clear F0 X1 X2 h1 h2 hz
  go_loopg [5] ns.length (fun gk kv wr => ∃ k : Nat, kv = .int .i64 k ∧ k + gk = ns.length ∧ Fr (fun _ => False) ((w.alloc (box4v v r e p)).alloc (box4v u r e p2)) wr)
  case atStart => exact ⟨0, rfl, by omega, by unfold box4v; rw [e1, e2]; exact Fr.refl _ _⟩
  case round =>
    obtain ⟨k, rfl, hkg, FJ⟩ := hrel
    have Hkg : Hid _ := hkg
    have Y1 := HX1.out.frame FJ (fun h => h)
    have Y2 := HX2.out.frame FJ (fun h => h)
    have c1 := Y1.cell (o := 0) (by omega)
    have c2 := Y2.cell (o := 0) (by omega)
    simp only [trC] at c1 c2
    rw [e1] at c1
    rw [e2] at c2
    have l1 := Y1.lt
    have l2 := Y2.lt
    have HFJ : Hid _ := FJ
    by_cases hk : k < ns.length
    · have z1 : decide ((k : Int) < (ns.length : Int)) = true := decide_eq_true (by omega)
      have z2 : decide (k < ns.length) = true := decide_eq_true hk
      have hk' : k < ms.length := by rw [← Hlen.out]; exact hk
      obtain ⟨b, f, e3, hb, hp⟩ := (H1.out.frame (HF0.out.trans FJ (fun _ _ h => h)) (fun _ _ h => h)).get hk
      obtain ⟨b', f', e4, hb', hp'⟩ := (H2.out.frame (HF0.out.trans FJ (fun _ _ h => h)) (fun _ _ h => h)).get hk'
      rw [← Hlen.out] at e4
      have e5 := e1.symm.trans e3
      have e6 := e2.symm.trans e4
      cases e5
      cases e6
      obtain ⟨m0, m1, m2, m3, m4, m5, m6, m7⟩ := hb.node hp hk (by omega)
      obtain ⟨n0, n1, n2, n3, n4, n5, n6, n7⟩ := hb'.node hp' hk' (by omega)
      have lb := hb.lt
      have lb' := hb'.lt
      obtain ⟨ki, xa, xb, xc, xn, xv, q1, q2, nm, f1, f2⟩ := Hz.out.nth hk hk'
      rw [f1] at m0 m1 m2 m3 m4 m5 m6 m7
      rw [f2] at n0 n1 n2 n3 n4 n5 n6 n7
      simp only at m0 m1 m2 m3 m4 m5 m6 m7 n0 n1 n2 n3 n4 n5 n6 n7
      have hk2 : k < 200 := by omega
      clear hkg hb hb' hp hp' Y1 Y2 e3 e4 FJ f1 f2 hk'
      go_wp2_with fail
      go_region
      all_goals
        go_wp2_with fail
        go_roundg (gk - 1)
        case measure => have := Hkg.out; have := of_decide_eq_true z2; omega
        case rel => exact ⟨k + 1, by simp, by have := Hkg.out; have := of_decide_eq_true z2; omega, Fr.drew ((HFJ.out.alloc _).alloc _)⟩
    · have z1 : decide ((k : Int) < (ns.length : Int)) = false := decide_eq_false (by omega)
      have z2 : decide (k < ns.length) = false := decide_eq_false hk
      clear hkg hk
      go_wp2_with fail
      go_ret
      exact ⟨rfl, HF0.out.trans HFJ.out (fun _ _ h => h)⟩
end Go.Proofs.Qxb6500280a
