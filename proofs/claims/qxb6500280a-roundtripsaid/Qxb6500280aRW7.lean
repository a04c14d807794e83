/- exprText: unary. -/
import Derived.Test.Qxb6500280aRW6
namespace Go.Proofs.Qxb6500280a
open Go Go.RowKit
theorem ki18 (e : Exp) : (kiE e = 18 ∧ ∃ k p l r, e = .bin k p l r) ∨ (kiE e = 19 ∧ pwE e = 6) ∨ (kiE e ≠ 18 ∧ kiE e ≠ 19 ∧ pwE e = 7) := by
  cases e with
  | bin k p l r => exact .inl ⟨rfl, _, _, _, _, rfl⟩
  | un k p e => exact .inr (.inl ⟨rfl, rfl⟩)
  | _ => exact .inr (.inr ⟨by simp [kiE], by simp [kiE], rfl⟩)
theorem ki6 (e : Exp) : (kiE e == 18) = decide (pwE e < 6) := by
  cases e with
  | bin k p l r => have := pow_le k; exact (decide_eq_true (show pow k < 6 by omega)).symm
  | _ => simp [kiE, pwE]

set_option maxRecDepth 100000 in
set_option maxHeartbeats 8000000 in
theorem ec_un {k p : Int} {e1 : Exp} (H1 : EC e1) : EC (.un k p e1) := fun w b ns r er q o nx lim hn hl hs he ho hlim => by
  simp only [flE] at hs
  simp only [NE] at he
  obtain ⟨lv, d, ho⟩ := ho
  simp only [OkE] at ho
  obtain ⟨sa, sr⟩ := hs.app
  rw [flE_len] at sr
  have hok : ∃ lv d, OkE lv d e1 := by
    have := ho.2
    split at this
    · exact ⟨_, _, this.2⟩
    · exact ⟨_, _, this.2⟩
  rw [rt_one o (szE e1) (.un k p e1) rfl] at hlim ⊢
  have hx := sr.one
  obtain ⟨x, hxe⟩ : ∃ x, x = o + (szE e1) := ⟨_, rfl⟩
  rw [← hxe] at hx hlim ⊢
  have hxl := hx.1
  obtain ⟨ra, era, ha⟩ := rtE_nat o e1
  have ca := fun w' (hn : NT w' b ns) => H1 w' b ns r er q o (-1) x hn hl sa he hok (by rw [era]; omega)
  obtain ⟨na, ga, ka, va⟩ := sa.root ha
  have lna := len_B e1 he
  have lta : ra < x := by omega
  have Hga : Hid _ := ga
  have Hka : Hid _ := ka
  have Hva : Hid _ := va
  rw [era] at hx ca
  have Hca : Hid _ := ca
  have Hla : Hid ((prB e1).length ≤ 20000) := (show (prB e1).length ≤ 20000 by omega)
  obtain ⟨m0, m1, m2, m3, m4, m5, m6, m7⟩ := hn.node hx
  simp only at m0 m1 m2 m3 m4 m5 m6 m7
  have lb := hn.lt
  have z1 : decide (lim ≤ (x : Int)) = false := decide_eq_false (by omega)
  have z2 : decide (x < ns.length) = true := decide_eq_true hxl
  have z3 : decide ((x : Int) < (ns.length : Int)) = true := decide_eq_true (by omega)
  have HX : Hid (FX w.heap.size _ b ns r er q ⟨19, (ra : Int), -1, -1, nx, k, p, ⟨#[]⟩⟩) := FX.start hn r er q _
  have F0 : Hid (Fr (fun _ => False) w ((w.alloc (bxO b ns.length r er q)).alloc (ndO ⟨19, (ra : Int), -1, -1, nx, k, p, ⟨#[]⟩⟩))) := ((Fr.refl _ _).alloc _).alloc _
  have He : Hid _ := he
  have Ho : Hid _ := ho
  clear hok hn hx hlim hs he ho hxe ga ka va ca lna era ha sa sr
  unfold trV treeV at *
  go_enter Try.func63, Try.ntmps63
  go_wp2_with fail
  refine (kindX (lim := (x : Int)) HX.out.nt Hga.out (by omega)).mono ?_
  rintro v w1 ⟨rfl, f1⟩
  have X1 : Hid _ := HX.out.next f1
  have F1 : Hid _ := F0.out.trans f1 (fun _ _ h => h)
  clear HX F0 f1
  obtain ⟨b0, b1, b2, b3, b4, b5⟩ := X1.out.box
  obtain ⟨n0, n1, n2, n3, n4, n5, n6, n7⟩ := X1.out.node
  simp only at n0 n1 n2 n3 n4 n5 n6 n7
  rw [Hka.out]
  obtain ⟨c6, hc6⟩ : ∃ c6, c6 = (kiE e1 == 18) := ⟨_, rfl⟩
  have Hc6 : Hid _ := hc6
  clear hc6
  go_wp2_with fail
  refine (Hca.out _ X1.out.nt).mono ?_
  rintro v w2 ⟨⟨s2, rfl, hs2⟩, f2⟩
  have X2 : Hid _ := X1.out.next f2
  have F2 : Hid _ := F1.out.trans f2 (fun _ _ h => h)
  clear X1 F1 f2
  clear b0 b1 b2 b3 b4 b5 n0 n1 n2 n3 n4 n5 n6 n7
  obtain ⟨b0, b1, b2, b3, b4, b5⟩ := X2.out.box
  obtain ⟨n0, n1, n2, n3, n4, n5, n6, n7⟩ := X2.out.node
  simp only at n0 n1 n2 n3 n4 n5 n6 n7
  have bs2 := sz_str hs2 Hla.out
  have Hs2 : Hid _ := hs2
  clear hs2
  go_wp2_with fail
  refine (wrappedF s2 _ _ (by omega)).mono ?_
  rintro v w0 ⟨⟨s3, rfl, hs3⟩, rfl⟩
  have bs3 : s3.size ≤ 20004 := sz_str hs3 (Nat.le_trans (wrL_len _ _) (by rw [sz_list]; omega))
  have Hs3 : Hid _ := hs3
  clear hs3
  go_wp2_with fail
  refine (tokText_any k _).mono ?_
  rintro v w0 ⟨rfl, rfl⟩
  have bt6 := tokText_size k
  go_wp2_with fail
  go_ret
  exact ⟨⟨_, rfl, by simp [prB, Hs3.out, Hs2.out, ← ki6]⟩, F2.out⟩
end Go.Proofs.Qxb6500280a
