/- stmtText: without blocks. -/
import Derived.Test.Qxb6500280aRX1
namespace Go.Proofs.Qxb6500280a
open Go Go.RowKit

set_option maxRecDepth 100000 in
set_option maxHeartbeats 8000000 in
theorem st_ret {p : Int} {e1 : Exp} : SCt (.ret p e1) := fun w b ns r er q o nx hn hl hs he ho => by
  simp only [flS] at hs
  simp only [NS] at he
  obtain ⟨d, ho⟩ := ho
  simp only [OkS] at ho
  obtain ⟨sa, sr⟩ := hs.app
  rw [flE_len] at sr
  rw [rtS_one o (szE e1) (.ret p e1) rfl]
  have hx := sr.one
  obtain ⟨x, hxe⟩ : ∃ x, x = o + (szE e1) := ⟨_, rfl⟩
  rw [← hxe] at hx ⊢
  have hxl := hx.1
  obtain ⟨ra, era, ha⟩ := rtE_nat o e1
  have ca := fun w' (hn : NT w' b ns) => ecE e1 w' b ns r er q o (-1) x hn hl sa he ⟨_, _, ho⟩ (by rw [era]; omega)
  have lna := len_B e1 he
  rw [era] at hx ca
  have Hca : Hid _ := ca
  have Hla : Hid ((prB e1).length ≤ 20000) := (show (prB e1).length ≤ 20000 by omega)
  obtain ⟨m0, m1, m2, m3, m4, m5, m6, m7⟩ := hn.node hx
  simp only at m0 m1 m2 m3 m4 m5 m6 m7
  have lb := hn.lt
  have z2 : decide (x < ns.length) = true := decide_eq_true hxl
  have z3 : decide ((x : Int) < (ns.length : Int)) = true := decide_eq_true (by omega)
  have HX : Hid (FX w.heap.size _ b ns r er q ⟨7, (ra : Int), -1, -1, nx, 0, p, ⟨#[]⟩⟩) := FX.start hn r er q _
  have F0 : Hid (Fr (fun _ => False) w ((w.alloc (bxO b ns.length r er q)).alloc (ndO ⟨7, (ra : Int), -1, -1, nx, 0, p, ⟨#[]⟩⟩))) := ((Fr.refl _ _).alloc _).alloc _
  have He : Hid _ := he
  have Ho : Hid _ := ho
  clear hn hx hs he ho sr hxe ca lna era ha sa
  unfold trV treeV at *
  go_enter Try.func44, Try.ntmps44
  go_wp2_with fail
  refine (Hca.out _ HX.out.nt).mono ?_
  rintro v w1 ⟨⟨s1, rfl, hs1⟩, f1⟩
  have X1 : Hid _ := HX.out.next f1
  have F1 : Hid _ := F0.out.trans f1 (fun _ _ h => h)
  clear HX F0 f1
  obtain ⟨b0, b1, b2, b3, b4, b5⟩ := X1.out.box
  obtain ⟨n0, n1, n2, n3, n4, n5, n6, n7⟩ := X1.out.node
  simp only at n0 n1 n2 n3 n4 n5 n6 n7
  have bs1 := sz_str hs1 Hla.out
  have Hs1 : Hid _ := hs1
  clear hs1
  go_wp2_with fail
  go_ret
  exact ⟨⟨_, rfl, by simp [prS, Hs1.out]⟩, F1.out⟩

set_option maxRecDepth 100000 in
set_option maxHeartbeats 8000000 in
theorem st_prt {p : Int} {e1 : Exp} : SCt (.prt p e1) := fun w b ns r er q o nx hn hl hs he ho => by
  simp only [flS] at hs
  simp only [NS] at he
  obtain ⟨d, ho⟩ := ho
  simp only [OkS] at ho
  obtain ⟨sa, sr⟩ := hs.app
  rw [flE_len] at sr
  rw [rtS_one o (szE e1) (.prt p e1) rfl]
  have hx := sr.one
  obtain ⟨x, hxe⟩ : ∃ x, x = o + (szE e1) := ⟨_, rfl⟩
  rw [← hxe] at hx ⊢
  have hxl := hx.1
  obtain ⟨ra, era, ha⟩ := rtE_nat o e1
  have ca := fun w' (hn : NT w' b ns) => ecE e1 w' b ns r er q o (-1) x hn hl sa he ⟨_, _, ho⟩ (by rw [era]; omega)
  have lna := len_B e1 he
  rw [era] at hx ca
  have Hca : Hid _ := ca
  have Hla : Hid ((prB e1).length ≤ 20000) := (show (prB e1).length ≤ 20000 by omega)
  obtain ⟨m0, m1, m2, m3, m4, m5, m6, m7⟩ := hn.node hx
  simp only at m0 m1 m2 m3 m4 m5 m6 m7
  have lb := hn.lt
  have z2 : decide (x < ns.length) = true := decide_eq_true hxl
  have z3 : decide ((x : Int) < (ns.length : Int)) = true := decide_eq_true (by omega)
  have HX : Hid (FX w.heap.size _ b ns r er q ⟨8, (ra : Int), -1, -1, nx, 0, p, ⟨#[]⟩⟩) := FX.start hn r er q _
  have F0 : Hid (Fr (fun _ => False) w ((w.alloc (bxO b ns.length r er q)).alloc (ndO ⟨8, (ra : Int), -1, -1, nx, 0, p, ⟨#[]⟩⟩))) := ((Fr.refl _ _).alloc _).alloc _
  have He : Hid _ := he
  have Ho : Hid _ := ho
  clear hn hx hs he ho sr hxe ca lna era ha sa
  unfold trV treeV at *
  go_enter Try.func44, Try.ntmps44
  go_wp2_with fail
  refine (Hca.out _ HX.out.nt).mono ?_
  rintro v w1 ⟨⟨s1, rfl, hs1⟩, f1⟩
  have X1 : Hid _ := HX.out.next f1
  have F1 : Hid _ := F0.out.trans f1 (fun _ _ h => h)
  clear HX F0 f1
  obtain ⟨b0, b1, b2, b3, b4, b5⟩ := X1.out.box
  obtain ⟨n0, n1, n2, n3, n4, n5, n6, n7⟩ := X1.out.node
  simp only at n0 n1 n2 n3 n4 n5 n6 n7
  have bs1 := sz_str hs1 Hla.out
  have Hs1 : Hid _ := hs1
  clear hs1
  go_wp2_with fail
  go_ret
  exact ⟨⟨_, rfl, by simp [prS, Hs1.out]⟩, F1.out⟩

set_option maxRecDepth 100000 in
set_option maxHeartbeats 8000000 in
theorem st_exp {e1 : Exp} : SCt (.exp e1) := fun w b ns r er q o nx hn hl hs he ho => by
  simp only [flS] at hs
  simp only [NS] at he
  obtain ⟨d, ho⟩ := ho
  simp only [OkS] at ho
  obtain ⟨sa, sr⟩ := hs.app
  rw [flE_len] at sr
  rw [rtS_one o (szE e1) (.exp e1) rfl]
  have hx := sr.one
  obtain ⟨x, hxe⟩ : ∃ x, x = o + (szE e1) := ⟨_, rfl⟩
  rw [← hxe] at hx ⊢
  have hxl := hx.1
  obtain ⟨ra, era, ha⟩ := rtE_nat o e1
  have ca := fun w' (hn : NT w' b ns) => ecE e1 w' b ns r er q o (-1) x hn hl sa he ⟨_, _, ho⟩ (by rw [era]; omega)
  have lna := len_B e1 he
  rw [era] at hx ca
  have Hca : Hid _ := ca
  have Hla : Hid ((prB e1).length ≤ 20000) := (show (prB e1).length ≤ 20000 by omega)
  obtain ⟨m0, m1, m2, m3, m4, m5, m6, m7⟩ := hn.node hx
  simp only at m0 m1 m2 m3 m4 m5 m6 m7
  have lb := hn.lt
  have z2 : decide (x < ns.length) = true := decide_eq_true hxl
  have z3 : decide ((x : Int) < (ns.length : Int)) = true := decide_eq_true (by omega)
  have HX : Hid (FX w.heap.size _ b ns r er q ⟨9, (ra : Int), -1, -1, nx, 0, (poE e1), ⟨#[]⟩⟩) := FX.start hn r er q _
  have F0 : Hid (Fr (fun _ => False) w ((w.alloc (bxO b ns.length r er q)).alloc (ndO ⟨9, (ra : Int), -1, -1, nx, 0, (poE e1), ⟨#[]⟩⟩))) := ((Fr.refl _ _).alloc _).alloc _
  have He : Hid _ := he
  have Ho : Hid _ := ho
  clear hn hx hs he ho sr hxe ca lna era ha sa
  unfold trV treeV at *
  go_enter Try.func44, Try.ntmps44
  go_wp2_with fail
  refine (Hca.out _ HX.out.nt).mono ?_
  rintro v w1 ⟨⟨s1, rfl, hs1⟩, f1⟩
  have X1 : Hid _ := HX.out.next f1
  have F1 : Hid _ := F0.out.trans f1 (fun _ _ h => h)
  clear HX F0 f1
  obtain ⟨b0, b1, b2, b3, b4, b5⟩ := X1.out.box
  obtain ⟨n0, n1, n2, n3, n4, n5, n6, n7⟩ := X1.out.node
  simp only at n0 n1 n2 n3 n4 n5 n6 n7
  have bs1 := sz_str hs1 Hla.out
  have Hs1 : Hid _ := hs1
  clear hs1
  go_wp2_with fail
  go_ret
  exact ⟨⟨_, rfl, by simp [prS, Hs1.out]⟩, F1.out⟩

set_option maxRecDepth 100000 in
set_option maxHeartbeats 8000000 in
theorem st_vd {s : ByteArray} {p t : Int} {e1 : Exp} : SCt (.vd s p t e1) := fun w b ns r er q o nx hn hl hs he ho => by
  simp only [flS] at hs
  simp only [NS] at he
  obtain ⟨d, ho⟩ := ho
  simp only [OkS] at ho
  obtain ⟨sa, sr⟩ := hs.app
  rw [flE_len] at sr
  rw [rtS_one o (szE e1) (.vd s p t e1) rfl]
  have hx := sr.one
  obtain ⟨x, hxe⟩ : ∃ x, x = o + (szE e1) := ⟨_, rfl⟩
  rw [← hxe] at hx ⊢
  have hxl := hx.1
  obtain ⟨ra, era, ha⟩ := rtE_nat o e1
  have ca := fun w' (hn : NT w' b ns) => ecE e1 w' b ns r er q o (-1) x hn hl sa he.2 ⟨_, _, ho.2⟩ (by rw [era]; omega)
  have lna := len_B e1 he.2
  rw [era] at hx ca
  have Hca : Hid _ := ca
  have Hla : Hid ((prB e1).length ≤ 20000) := (show (prB e1).length ≤ 20000 by omega)
  have ls := id_len he.1
  rw [sz_list] at ls
  obtain ⟨m0, m1, m2, m3, m4, m5, m6, m7⟩ := hn.node hx
  simp only at m0 m1 m2 m3 m4 m5 m6 m7
  have lb := hn.lt
  have z2 : decide (x < ns.length) = true := decide_eq_true hxl
  have z3 : decide ((x : Int) < (ns.length : Int)) = true := decide_eq_true (by omega)
  have HX : Hid (FX w.heap.size _ b ns r er q ⟨3, (ra : Int), -1, -1, nx, t, p, s⟩) := FX.start hn r er q _
  have F0 : Hid (Fr (fun _ => False) w ((w.alloc (bxO b ns.length r er q)).alloc (ndO ⟨3, (ra : Int), -1, -1, nx, t, p, s⟩))) := ((Fr.refl _ _).alloc _).alloc _
  have He : Hid _ := he
  have Ho : Hid _ := ho
  clear hn hx hs he ho sr hxe ca lna era ha sa
  unfold trV treeV at *
  go_enter Try.func44, Try.ntmps44
  go_wp2_with fail
  refine (typeF Ho.out.1 _).mono ?_
  rintro v w0 ⟨⟨s0, rfl, hs0⟩, rfl⟩
  have bs0 := sz_str hs0 (tyX_len t)
  have Hs0 : Hid _ := hs0
  clear hs0
  go_wp2_with fail
  refine (Hca.out _ HX.out.nt).mono ?_
  rintro v w1 ⟨⟨s1, rfl, hs1⟩, f1⟩
  have X1 : Hid _ := HX.out.next f1
  have F1 : Hid _ := F0.out.trans f1 (fun _ _ h => h)
  clear HX F0 f1
  obtain ⟨b0, b1, b2, b3, b4, b5⟩ := X1.out.box
  obtain ⟨n0, n1, n2, n3, n4, n5, n6, n7⟩ := X1.out.node
  simp only at n0 n1 n2 n3 n4 n5 n6 n7
  have bs1 := sz_str hs1 Hla.out
  have Hs1 : Hid _ := hs1
  clear hs1
  go_wp2_with fail
  go_ret
  exact ⟨⟨_, rfl, by simp [prS, Hs0.out, Hs1.out]⟩, F1.out⟩

set_option maxRecDepth 100000 in
set_option maxHeartbeats 8000000 in
theorem st_asg {p : Int} {e1 e2 : Exp} : SCt (.asg p e1 e2) := fun w b ns r er q o nx hn hl hs he ho => by
  simp only [flS] at hs
  simp only [NS] at he
  obtain ⟨d, ho⟩ := ho
  simp only [OkS] at ho
  obtain ⟨s12, sr⟩ := hs.app
  obtain ⟨sa, sb⟩ := s12.app
  rw [flE_len] at sb
  rw [List.length_append, flE_len, flE_len] at sr
  rw [rtS_one o (szE e1 + szE e2) (.asg p e1 e2) rfl]
  have hx := sr.one
  obtain ⟨x, hxe⟩ : ∃ x, x = o + (szE e1 + szE e2) := ⟨_, rfl⟩
  rw [← hxe] at hx ⊢
  have hxl := hx.1
  obtain ⟨ra, era, ha⟩ := rtE_nat o e1
  have ca := fun w' (hn : NT w' b ns) => ecE e1 w' b ns r er q o (-1) x hn hl sa he.1 ⟨_, _, ho.2.1⟩ (by rw [era]; omega)
  have lna := len_B e1 he.1
  rw [era] at hx ca
  have Hca : Hid _ := ca
  have Hla : Hid ((prB e1).length ≤ 20000) := (show (prB e1).length ≤ 20000 by omega)
  obtain ⟨rb, erb, hb⟩ := rtE_nat (o + szE e1) e2
  have cb := fun w' (hn : NT w' b ns) => ecE e2 w' b ns r er q (o + szE e1) (-1) x hn hl sb he.2 ⟨_, _, ho.2.2⟩ (by rw [erb]; omega)
  have lnb := len_B e2 he.2
  rw [erb] at hx cb
  have Hcb : Hid _ := cb
  have Hlb : Hid ((prB e2).length ≤ 20000) := (show (prB e2).length ≤ 20000 by omega)
  obtain ⟨m0, m1, m2, m3, m4, m5, m6, m7⟩ := hn.node hx
  simp only at m0 m1 m2 m3 m4 m5 m6 m7
  have lb := hn.lt
  have z2 : decide (x < ns.length) = true := decide_eq_true hxl
  have z3 : decide ((x : Int) < (ns.length : Int)) = true := decide_eq_true (by omega)
  have HX : Hid (FX w.heap.size _ b ns r er q ⟨4, (ra : Int), (rb : Int), -1, nx, 0, p, ⟨#[]⟩⟩) := FX.start hn r er q _
  have F0 : Hid (Fr (fun _ => False) w ((w.alloc (bxO b ns.length r er q)).alloc (ndO ⟨4, (ra : Int), (rb : Int), -1, nx, 0, p, ⟨#[]⟩⟩))) := ((Fr.refl _ _).alloc _).alloc _
  have He : Hid _ := he
  have Ho : Hid _ := ho
  clear hn hx hs he ho sr hxe ca lna era ha sa cb lnb erb hb sb s12
  unfold trV treeV at *
  go_enter Try.func44, Try.ntmps44
  go_wp2_with fail
  refine (Hca.out _ HX.out.nt).mono ?_
  rintro v w1 ⟨⟨s1, rfl, hs1⟩, f1⟩
  have X1 : Hid _ := HX.out.next f1
  have F1 : Hid _ := F0.out.trans f1 (fun _ _ h => h)
  clear HX F0 f1
  obtain ⟨b0, b1, b2, b3, b4, b5⟩ := X1.out.box
  obtain ⟨n0, n1, n2, n3, n4, n5, n6, n7⟩ := X1.out.node
  simp only at n0 n1 n2 n3 n4 n5 n6 n7
  have bs1 := sz_str hs1 Hla.out
  have Hs1 : Hid _ := hs1
  clear hs1
  go_wp2_with fail
  refine (Hcb.out _ X1.out.nt).mono ?_
  rintro v w2 ⟨⟨s2, rfl, hs2⟩, f2⟩
  have X2 : Hid _ := X1.out.next f2
  have F2 : Hid _ := F1.out.trans f2 (fun _ _ h => h)
  clear X1 F1 f2
  clear b0 b1 b2 b3 b4 b5 n0 n1 n2 n3 n4 n5 n6 n7
  obtain ⟨b0, b1, b2, b3, b4, b5⟩ := X2.out.box
  obtain ⟨n0, n1, n2, n3, n4, n5, n6, n7⟩ := X2.out.node
  simp only at n0 n1 n2 n3 n4 n5 n6 n7
  have bs2 := sz_str hs2 Hlb.out
  have Hs2 : Hid _ := hs2
  clear hs2
  go_wp2_with fail
  go_ret
  exact ⟨⟨_, rfl, by simp [prS, Hs1.out, Hs2.out]⟩, F2.out⟩
end Go.Proofs.Qxb6500280a
