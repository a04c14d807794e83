/- exprText: the leaves, new. -/
import Derived.Test.Qxb6500280aRW5
namespace Go.Proofs.Qxb6500280a
open Go Go.RowKit

set_option maxRecDepth 100000 in
set_option maxHeartbeats 8000000 in
theorem ec_boo0 (p : Int) : EC (.boo 0 p) := fun w b ns r er q o nx lim hn hl hs he ho hlim => by
  simp only [flE] at hs
  simp only [NE] at he
  obtain ⟨lv, d, ho⟩ := ho
  simp only [OkE] at ho
  have sr := hs
  rw [rt_one o (0) (.boo 0 p) rfl] at hlim ⊢
  have hx := sr.one
  obtain ⟨x, hxe⟩ : ∃ x, x = o := ⟨_, rfl⟩
  rw [Nat.add_zero] at hlim ⊢
  rw [← hxe] at hx hlim ⊢
  have hxl := hx.1
  obtain ⟨m0, m1, m2, m3, m4, m5, m6, m7⟩ := hn.node hx
  simp only at m0 m1 m2 m3 m4 m5 m6 m7
  have lb := hn.lt
  have z1 : decide (lim ≤ (x : Int)) = false := decide_eq_false (by omega)
  have z2 : decide (x < ns.length) = true := decide_eq_true hxl
  have z3 : decide ((x : Int) < (ns.length : Int)) = true := decide_eq_true (by omega)
  have HX : Hid (FX w.heap.size _ b ns r er q ⟨11, -1, -1, -1, nx, 0, p, ⟨#[]⟩⟩) := FX.start hn r er q _
  have F0 : Hid (Fr (fun _ => False) w ((w.alloc (bxO b ns.length r er q)).alloc (ndO ⟨11, -1, -1, -1, nx, 0, p, ⟨#[]⟩⟩))) := ((Fr.refl _ _).alloc _).alloc _
  have He : Hid _ := he
  have Ho : Hid _ := ho
  clear hn hx hlim hs he ho hxe sr
  unfold trV treeV at *
  go_enter Try.func63, Try.ntmps63
  go_wp2_with fail
  go_ret
  exact ⟨⟨_, rfl, rfl⟩, F0.out⟩

set_option maxRecDepth 100000 in
set_option maxHeartbeats 8000000 in
theorem ec_boo1 (p : Int) : EC (.boo 1 p) := fun w b ns r er q o nx lim hn hl hs he ho hlim => by
  simp only [flE] at hs
  simp only [NE] at he
  obtain ⟨lv, d, ho⟩ := ho
  simp only [OkE] at ho
  have sr := hs
  rw [rt_one o (0) (.boo 1 p) rfl] at hlim ⊢
  have hx := sr.one
  obtain ⟨x, hxe⟩ : ∃ x, x = o := ⟨_, rfl⟩
  rw [Nat.add_zero] at hlim ⊢
  rw [← hxe] at hx hlim ⊢
  have hxl := hx.1
  obtain ⟨m0, m1, m2, m3, m4, m5, m6, m7⟩ := hn.node hx
  simp only at m0 m1 m2 m3 m4 m5 m6 m7
  have lb := hn.lt
  have z1 : decide (lim ≤ (x : Int)) = false := decide_eq_false (by omega)
  have z2 : decide (x < ns.length) = true := decide_eq_true hxl
  have z3 : decide ((x : Int) < (ns.length : Int)) = true := decide_eq_true (by omega)
  have HX : Hid (FX w.heap.size _ b ns r er q ⟨11, -1, -1, -1, nx, 1, p, ⟨#[]⟩⟩) := FX.start hn r er q _
  have F0 : Hid (Fr (fun _ => False) w ((w.alloc (bxO b ns.length r er q)).alloc (ndO ⟨11, -1, -1, -1, nx, 1, p, ⟨#[]⟩⟩))) := ((Fr.refl _ _).alloc _).alloc _
  have He : Hid _ := he
  have Ho : Hid _ := ho
  clear hn hx hlim hs he ho hxe sr
  unfold trV treeV at *
  go_enter Try.func63, Try.ntmps63
  go_wp2_with fail
  go_ret
  exact ⟨⟨_, rfl, rfl⟩, F0.out⟩
theorem ec_boo (v p : Int) : EC (.boo v p) := fun w b ns r er q o nx lim hn hl hs he ho hlim => by
  have ho' := ho
  obtain ⟨lv, d, ho'⟩ := ho'
  simp only [OkE] at ho'
  rcases ho' with rfl | rfl
  · exact ec_boo0 p w b ns r er q o nx lim hn hl hs he ho hlim
  · exact ec_boo1 p w b ns r er q o nx lim hn hl hs he ho hlim

set_option maxRecDepth 100000 in
set_option maxHeartbeats 8000000 in
theorem ec_var (s : ByteArray) (p : Int) : EC (.var s p) := fun w b ns r er q o nx lim hn hl hs he ho hlim => by
  simp only [flE] at hs
  simp only [NE] at he
  obtain ⟨lv, d, ho⟩ := ho
  simp only [OkE] at ho
  have sr := hs
  rw [rt_one o (0) (.var s p) rfl] at hlim ⊢
  have hx := sr.one
  obtain ⟨x, hxe⟩ : ∃ x, x = o := ⟨_, rfl⟩
  rw [Nat.add_zero] at hlim ⊢
  rw [← hxe] at hx hlim ⊢
  have hxl := hx.1
  obtain ⟨m0, m1, m2, m3, m4, m5, m6, m7⟩ := hn.node hx
  simp only at m0 m1 m2 m3 m4 m5 m6 m7
  have lb := hn.lt
  have z1 : decide (lim ≤ (x : Int)) = false := decide_eq_false (by omega)
  have z2 : decide (x < ns.length) = true := decide_eq_true hxl
  have z3 : decide ((x : Int) < (ns.length : Int)) = true := decide_eq_true (by omega)
  have HX : Hid (FX w.heap.size _ b ns r er q ⟨12, -1, -1, -1, nx, 0, p, s⟩) := FX.start hn r er q _
  have F0 : Hid (Fr (fun _ => False) w ((w.alloc (bxO b ns.length r er q)).alloc (ndO ⟨12, -1, -1, -1, nx, 0, p, s⟩))) := ((Fr.refl _ _).alloc _).alloc _
  have He : Hid _ := he
  have Ho : Hid _ := ho
  clear hn hx hlim hs he ho hxe sr
  unfold trV treeV at *
  go_enter Try.func63, Try.ntmps63
  go_wp2_with fail
  go_ret
  exact ⟨⟨_, rfl, by simp [prB]⟩, F0.out⟩

set_option maxRecDepth 100000 in
set_option maxHeartbeats 8000000 in
theorem ec_rd (p : Int) : EC (.rd p) := fun w b ns r er q o nx lim hn hl hs he ho hlim => by
  simp only [flE] at hs
  simp only [NE] at he
  obtain ⟨lv, d, ho⟩ := ho
  simp only [OkE] at ho
  have sr := hs
  rw [rt_one o (0) (.rd p) rfl] at hlim ⊢
  have hx := sr.one
  obtain ⟨x, hxe⟩ : ∃ x, x = o := ⟨_, rfl⟩
  rw [Nat.add_zero] at hlim ⊢
  rw [← hxe] at hx hlim ⊢
  have hxl := hx.1
  obtain ⟨m0, m1, m2, m3, m4, m5, m6, m7⟩ := hn.node hx
  simp only at m0 m1 m2 m3 m4 m5 m6 m7
  have lb := hn.lt
  have z1 : decide (lim ≤ (x : Int)) = false := decide_eq_false (by omega)
  have z2 : decide (x < ns.length) = true := decide_eq_true hxl
  have z3 : decide ((x : Int) < (ns.length : Int)) = true := decide_eq_true (by omega)
  have HX : Hid (FX w.heap.size _ b ns r er q ⟨17, -1, -1, -1, nx, 0, p, ⟨#[]⟩⟩) := FX.start hn r er q _
  have F0 : Hid (Fr (fun _ => False) w ((w.alloc (bxO b ns.length r er q)).alloc (ndO ⟨17, -1, -1, -1, nx, 0, p, ⟨#[]⟩⟩))) := ((Fr.refl _ _).alloc _).alloc _
  have He : Hid _ := he
  have Ho : Hid _ := ho
  clear hn hx hlim hs he ho hxe sr
  unfold trV treeV at *
  go_enter Try.func63, Try.ntmps63
  go_wp2_with fail
  go_ret
  exact ⟨⟨_, rfl, rfl⟩, F0.out⟩

set_option maxRecDepth 100000 in
set_option maxHeartbeats 8000000 in
theorem ec_new {t p : Int} {e1 : Exp} (H1 : EC e1) : EC (.new t p e1) := fun w b ns r er q o nx lim hn hl hs he ho hlim => by
  simp only [flE] at hs
  simp only [NE] at he
  obtain ⟨lv, d, ho⟩ := ho
  simp only [OkE] at ho
  obtain ⟨sa, sr⟩ := hs.app
  rw [flE_len] at sr
  rw [rt_one o (szE e1) (.new t p e1) rfl] at hlim ⊢
  have hx := sr.one
  obtain ⟨x, hxe⟩ : ∃ x, x = o + (szE e1) := ⟨_, rfl⟩
  rw [← hxe] at hx hlim ⊢
  have hxl := hx.1
  obtain ⟨ra, era, ha⟩ := rtE_nat o e1
  have ca := fun w' (hn : NT w' b ns) => H1 w' b ns r er q o (-1) x hn hl sa he ⟨_, _, ho.2.2⟩ (by rw [era]; omega)
  obtain ⟨na, ga, ka, va⟩ := sa.root ha
  have lna := len_B e1 he
  have lta : ra < x := by omega
  have Hga : Hid _ := ga
  have Hka : Hid _ := ka
  have Hva : Hid _ := va
  rw [era] at hx ca
  have Hca : Hid _ := ca
  have Hla : Hid ((prB e1).length ≤ 20000) := (show (prB e1).length ≤ 20000 by omega)
  obtain ⟨m0, m1, m2, m3, m4, m5, m6, m7⟩ := hn.node hx
  simp only at m0 m1 m2 m3 m4 m5 m6 m7
  have lb := hn.lt
  have z1 : decide (lim ≤ (x : Int)) = false := decide_eq_false (by omega)
  have z2 : decide (x < ns.length) = true := decide_eq_true hxl
  have z3 : decide ((x : Int) < (ns.length : Int)) = true := decide_eq_true (by omega)
  have HX : Hid (FX w.heap.size _ b ns r er q ⟨15, (ra : Int), -1, -1, nx, t, p, ⟨#[]⟩⟩) := FX.start hn r er q _
  have F0 : Hid (Fr (fun _ => False) w ((w.alloc (bxO b ns.length r er q)).alloc (ndO ⟨15, (ra : Int), -1, -1, nx, t, p, ⟨#[]⟩⟩))) := ((Fr.refl _ _).alloc _).alloc _
  have He : Hid _ := he
  have Ho : Hid _ := ho
  clear hn hx hlim hs he ho hxe ga ka va ca lna era ha sa sr
  unfold trV treeV at *
  go_enter Try.func63, Try.ntmps63
  go_wp2_with fail
  refine (typeF Ho.out.1 _).mono ?_
  rintro v w0 ⟨⟨s1, rfl, hs1⟩, rfl⟩
  have bs1 := sz_str hs1 (tyX_len t)
  have Hs1 : Hid _ := hs1
  clear hs1
  go_wp2_with fail
  refine (Hca.out _ HX.out.nt).mono ?_
  rintro v w1 ⟨⟨s2, rfl, hs2⟩, f1⟩
  have X1 : Hid _ := HX.out.next f1
  have F1 : Hid _ := F0.out.trans f1 (fun _ _ h => h)
  clear HX F0 f1
  obtain ⟨b0, b1, b2, b3, b4, b5⟩ := X1.out.box
  obtain ⟨n0, n1, n2, n3, n4, n5, n6, n7⟩ := X1.out.node
  simp only at n0 n1 n2 n3 n4 n5 n6 n7
  have bs2 := sz_str hs2 Hla.out
  have Hs2 : Hid _ := hs2
  clear hs2
  go_wp2_with fail
  go_ret
  exact ⟨⟨_, rfl, by simp [prB, Hs1.out, Hs2.out]⟩, F1.out⟩
end Go.Proofs.Qxb6500280a
