/- stmtText: with blocks. -/
import Derived.Test.Qxb6500280aRX2
namespace Go.Proofs.Qxb6500280a
open Go Go.RowKit

set_option maxRecDepth 100000 in
set_option maxHeartbeats 8000000 in
theorem st_iff {p bp : Int} {e1 : Exp} {ss : Stms} (H1 : BCt ss) : SCt (.iff p e1 bp ss) := fun w b ns r er q o nx hn hl hs he ho => by
  simp only [flS] at hs
  simp only [NS] at he
  obtain ⟨d, ho⟩ := ho
  simp only [OkS] at ho
  obtain ⟨s12, sr⟩ := hs.app
  obtain ⟨sa, sb⟩ := s12.app
  rw [flE_len] at sb
  replace sb : Sub ns _ (flB (o + szE e1) bp ss) := sb
  have lB : (flSs (o + szE e1) ss ++ [(⟨2, hdS (o + szE e1) ss, -1, -1, -1, 0, bp, ⟨#[]⟩⟩ : Nd)]).length = szSs ss + 1 := flB_len _ bp _
  rw [List.length_append, flE_len, lB] at sr
  clear lB
  rw [rtS_one o (szE e1 + (szSs ss + 1)) (.iff p e1 bp ss) rfl]
  have hx := sr.one
  obtain ⟨x, hxe⟩ : ∃ x, x = o + (szE e1 + (szSs ss + 1)) := ⟨_, rfl⟩
  rw [← hxe] at hx ⊢
  have hxl := hx.1
  obtain ⟨ra, era, ha⟩ := rtE_nat o e1
  have ca := fun w' (hn : NT w' b ns) => ecE e1 w' b ns r er q o (-1) x hn hl sa he.1 ⟨_, _, ho.1⟩ (by rw [era]; omega)
  have lna := len_B e1 he.1
  rw [era] at hx ca
  have Hca : Hid _ := ca
  have Hla : Hid ((prB e1).length ≤ 20000) := (show (prB e1).length ≤ 20000 by omega)
  obtain ⟨rb, erb⟩ : ∃ rb, rb = o + szE e1 + szSs ss := ⟨_, rfl⟩
  have cb := fun w' (hn : NT w' b ns) => H1 w' b ns r er q (o + szE e1) rb x bp hn hl sb he.2 ⟨_, ho.2.2⟩ erb (by omega)
  have lnb := len_Ss ss he.2
  rw [← erb] at hx
  have Hcb : Hid _ := cb
  have Hlb : Hid ((prBl ss).length ≤ 20000) := (show (prBl ss).length ≤ 20000 by unfold prBl; simp only [List.length_append, List.length_cons, List.length_nil]; omega)
  obtain ⟨m0, m1, m2, m3, m4, m5, m6, m7⟩ := hn.node hx
  simp only at m0 m1 m2 m3 m4 m5 m6 m7
  have lb := hn.lt
  have z2 : decide (x < ns.length) = true := decide_eq_true hxl
  have z3 : decide ((x : Int) < (ns.length : Int)) = true := decide_eq_true (by omega)
  have HX : Hid (FX w.heap.size _ b ns r er q ⟨5, (ra : Int), (rb : Int), -1, nx, 0, p, ⟨#[]⟩⟩) := FX.start hn r er q _
  have F0 : Hid (Fr (fun _ => False) w ((w.alloc (bxO b ns.length r er q)).alloc (ndO ⟨5, (ra : Int), (rb : Int), -1, nx, 0, p, ⟨#[]⟩⟩))) := ((Fr.refl _ _).alloc _).alloc _
  have He : Hid _ := he
  have Ho : Hid _ := ho
  clear hn hx hs he ho sr hxe ca lna era ha sa cb lnb erb sb s12
  unfold trV treeV at *
  go_enter Try.func44, Try.ntmps44
  go_wp2_with fail
  refine (Hca.out _ HX.out.nt).mono ?_
  rintro v w1 ⟨⟨s1, rfl, hs1⟩, f1⟩
  have X1 : Hid _ := HX.out.next f1
  have F1 : Hid _ := F0.out.trans f1 (fun _ _ h => h)
  clear HX F0 f1
  obtain ⟨b0, b1, b2, b3, b4, b5⟩ := X1.out.box
  obtain ⟨n0, n1, n2, n3, n4, n5, n6, n7⟩ := X1.out.node
  simp only at n0 n1 n2 n3 n4 n5 n6 n7
  have bs1 := sz_str hs1 Hla.out
  have Hs1 : Hid _ := hs1
  clear hs1
  go_wp2_with fail
  refine (Hcb.out _ X1.out.nt).mono ?_
  rintro v w2 ⟨⟨s2, rfl, hs2⟩, f2⟩
  have X2 : Hid _ := X1.out.next f2
  have F2 : Hid _ := F1.out.trans f2 (fun _ _ h => h)
  clear X1 F1 f2
  clear b0 b1 b2 b3 b4 b5 n0 n1 n2 n3 n4 n5 n6 n7
  obtain ⟨b0, b1, b2, b3, b4, b5⟩ := X2.out.box
  obtain ⟨n0, n1, n2, n3, n4, n5, n6, n7⟩ := X2.out.node
  simp only at n0 n1 n2 n3 n4 n5 n6 n7
  have bs2 := sz_str hs2 Hlb.out
  have Hs2 : Hid _ := hs2
  clear hs2
  go_wp2_with fail
  go_ret
  exact ⟨⟨_, rfl, by simp [prS, prBl, Hs1.out, Hs2.out]⟩, F2.out⟩

set_option maxRecDepth 100000 in
set_option maxHeartbeats 8000000 in
theorem st_whl {p bp : Int} {e1 : Exp} {ss : Stms} (H1 : BCt ss) : SCt (.whl p e1 bp ss) := fun w b ns r er q o nx hn hl hs he ho => by
  simp only [flS] at hs
  simp only [NS] at he
  obtain ⟨d, ho⟩ := ho
  simp only [OkS] at ho
  obtain ⟨s12, sr⟩ := hs.app
  obtain ⟨sa, sb⟩ := s12.app
  rw [flE_len] at sb
  replace sb : Sub ns _ (flB (o + szE e1) bp ss) := sb
  have lB : (flSs (o + szE e1) ss ++ [(⟨2, hdS (o + szE e1) ss, -1, -1, -1, 0, bp, ⟨#[]⟩⟩ : Nd)]).length = szSs ss + 1 := flB_len _ bp _
  rw [List.length_append, flE_len, lB] at sr
  clear lB
  rw [rtS_one o (szE e1 + (szSs ss + 1)) (.whl p e1 bp ss) rfl]
  have hx := sr.one
  obtain ⟨x, hxe⟩ : ∃ x, x = o + (szE e1 + (szSs ss + 1)) := ⟨_, rfl⟩
  rw [← hxe] at hx ⊢
  have hxl := hx.1
  obtain ⟨ra, era, ha⟩ := rtE_nat o e1
  have ca := fun w' (hn : NT w' b ns) => ecE e1 w' b ns r er q o (-1) x hn hl sa he.1 ⟨_, _, ho.1⟩ (by rw [era]; omega)
  have lna := len_B e1 he.1
  rw [era] at hx ca
  have Hca : Hid _ := ca
  have Hla : Hid ((prB e1).length ≤ 20000) := (show (prB e1).length ≤ 20000 by omega)
  obtain ⟨rb, erb⟩ : ∃ rb, rb = o + szE e1 + szSs ss := ⟨_, rfl⟩
  have cb := fun w' (hn : NT w' b ns) => H1 w' b ns r er q (o + szE e1) rb x bp hn hl sb he.2 ⟨_, ho.2.2⟩ erb (by omega)
  have lnb := len_Ss ss he.2
  rw [← erb] at hx
  have Hcb : Hid _ := cb
  have Hlb : Hid ((prBl ss).length ≤ 20000) := (show (prBl ss).length ≤ 20000 by unfold prBl; simp only [List.length_append, List.length_cons, List.length_nil]; omega)
  obtain ⟨m0, m1, m2, m3, m4, m5, m6, m7⟩ := hn.node hx
  simp only at m0 m1 m2 m3 m4 m5 m6 m7
  have lb := hn.lt
  have z2 : decide (x < ns.length) = true := decide_eq_true hxl
  have z3 : decide ((x : Int) < (ns.length : Int)) = true := decide_eq_true (by omega)
  have HX : Hid (FX w.heap.size _ b ns r er q ⟨6, (ra : Int), (rb : Int), -1, nx, 0, p, ⟨#[]⟩⟩) := FX.start hn r er q _
  have F0 : Hid (Fr (fun _ => False) w ((w.alloc (bxO b ns.length r er q)).alloc (ndO ⟨6, (ra : Int), (rb : Int), -1, nx, 0, p, ⟨#[]⟩⟩))) := ((Fr.refl _ _).alloc _).alloc _
  have He : Hid _ := he
  have Ho : Hid _ := ho
  clear hn hx hs he ho sr hxe ca lna era ha sa cb lnb erb sb s12
  unfold trV treeV at *
  go_enter Try.func44, Try.ntmps44
  go_wp2_with fail
  refine (Hca.out _ HX.out.nt).mono ?_
  rintro v w1 ⟨⟨s1, rfl, hs1⟩, f1⟩
  have X1 : Hid _ := HX.out.next f1
  have F1 : Hid _ := F0.out.trans f1 (fun _ _ h => h)
  clear HX F0 f1
  obtain ⟨b0, b1, b2, b3, b4, b5⟩ := X1.out.box
  obtain ⟨n0, n1, n2, n3, n4, n5, n6, n7⟩ := X1.out.node
  simp only at n0 n1 n2 n3 n4 n5 n6 n7
  have bs1 := sz_str hs1 Hla.out
  have Hs1 : Hid _ := hs1
  clear hs1
  go_wp2_with fail
  refine (Hcb.out _ X1.out.nt).mono ?_
  rintro v w2 ⟨⟨s2, rfl, hs2⟩, f2⟩
  have X2 : Hid _ := X1.out.next f2
  have F2 : Hid _ := F1.out.trans f2 (fun _ _ h => h)
  clear X1 F1 f2
  clear b0 b1 b2 b3 b4 b5 n0 n1 n2 n3 n4 n5 n6 n7
  obtain ⟨b0, b1, b2, b3, b4, b5⟩ := X2.out.box
  obtain ⟨n0, n1, n2, n3, n4, n5, n6, n7⟩ := X2.out.node
  simp only at n0 n1 n2 n3 n4 n5 n6 n7
  have bs2 := sz_str hs2 Hlb.out
  have Hs2 : Hid _ := hs2
  clear hs2
  go_wp2_with fail
  go_ret
  exact ⟨⟨_, rfl, by simp [prS, prBl, Hs1.out, Hs2.out]⟩, F2.out⟩

set_option maxRecDepth 100000 in
set_option maxHeartbeats 8000000 in
theorem st_ife {p bp cp : Int} {e1 : Exp} {ss cs : Stms} (H1 : BCt ss) (H2 : BCt cs) : SCt (.ife p e1 bp ss cp cs) := fun w b ns r er q o nx hn hl hs he ho => by
  simp only [flS] at hs
  simp only [NS] at he
  obtain ⟨d, ho⟩ := ho
  simp only [OkS] at ho
  obtain ⟨s123, sr⟩ := hs.app
  obtain ⟨s12, sc⟩ := s123.app
  obtain ⟨sa, sb⟩ := s12.app
  rw [flE_len] at sb
  replace sb : Sub ns _ (flB (o + szE e1) bp ss) := sb
  have lB : (flSs (o + szE e1) ss ++ [(⟨2, hdS (o + szE e1) ss, -1, -1, -1, 0, bp, ⟨#[]⟩⟩ : Nd)]).length = szSs ss + 1 := flB_len _ bp _
  have lC : (flSs (o + szE e1 + (szSs ss + 1)) cs ++ [(⟨2, hdS (o + szE e1 + (szSs ss + 1)) cs, -1, -1, -1, 0, cp, ⟨#[]⟩⟩ : Nd)]).length = szSs cs + 1 := flB_len _ cp _
  rw [List.length_append, flE_len, lB, ← Nat.add_assoc] at sc
  replace sc : Sub ns _ (flB (o + szE e1 + (szSs ss + 1)) cp cs) := sc
  rw [List.length_append, List.length_append, flE_len, lB, lC] at sr
  clear lB lC
  rw [rtS_one o (szE e1 + (szSs ss + 1) + (szSs cs + 1)) (.ife p e1 bp ss cp cs) rfl]
  have hx := sr.one
  obtain ⟨x, hxe⟩ : ∃ x, x = o + (szE e1 + (szSs ss + 1) + (szSs cs + 1)) := ⟨_, rfl⟩
  rw [← hxe] at hx ⊢
  have hxl := hx.1
  obtain ⟨ra, era, ha⟩ := rtE_nat o e1
  have ca := fun w' (hn : NT w' b ns) => ecE e1 w' b ns r er q o (-1) x hn hl sa he.1 ⟨_, _, ho.1⟩ (by rw [era]; omega)
  have lna := len_B e1 he.1
  rw [era] at hx ca
  have Hca : Hid _ := ca
  have Hla : Hid ((prB e1).length ≤ 20000) := (show (prB e1).length ≤ 20000 by omega)
  obtain ⟨rb, erb⟩ : ∃ rb, rb = o + szE e1 + szSs ss := ⟨_, rfl⟩
  have cb := fun w' (hn : NT w' b ns) => H1 w' b ns r er q (o + szE e1) rb x bp hn hl sb he.2.1 ⟨_, ho.2.2.1⟩ erb (by omega)
  have lnb := len_Ss ss he.2.1
  rw [← erb] at hx
  have Hcb : Hid _ := cb
  have Hlb : Hid ((prBl ss).length ≤ 20000) := (show (prBl ss).length ≤ 20000 by unfold prBl; simp only [List.length_append, List.length_cons, List.length_nil]; omega)
  obtain ⟨rc, erc⟩ : ∃ rc, rc = o + szE e1 + (szSs ss + 1) + szSs cs := ⟨_, rfl⟩
  have cc := fun w' (hn : NT w' b ns) => H2 w' b ns r er q (o + szE e1 + (szSs ss + 1)) rc x cp hn hl sc he.2.2 ⟨_, ho.2.2.2⟩ erc (by omega)
  have lnc := len_Ss cs he.2.2
  rw [← erc] at hx
  have Hcc : Hid _ := cc
  have Hlc : Hid ((prBl cs).length ≤ 20000) := (show (prBl cs).length ≤ 20000 by unfold prBl; simp only [List.length_append, List.length_cons, List.length_nil]; omega)
  obtain ⟨m0, m1, m2, m3, m4, m5, m6, m7⟩ := hn.node hx
  simp only at m0 m1 m2 m3 m4 m5 m6 m7
  have lb := hn.lt
  have z2 : decide (x < ns.length) = true := decide_eq_true hxl
  have z3 : decide ((x : Int) < (ns.length : Int)) = true := decide_eq_true (by omega)
  have HX : Hid (FX w.heap.size _ b ns r er q ⟨5, (ra : Int), (rb : Int), (rc : Int), nx, 0, p, ⟨#[]⟩⟩) := FX.start hn r er q _
  have F0 : Hid (Fr (fun _ => False) w ((w.alloc (bxO b ns.length r er q)).alloc (ndO ⟨5, (ra : Int), (rb : Int), (rc : Int), nx, 0, p, ⟨#[]⟩⟩))) := ((Fr.refl _ _).alloc _).alloc _
  have He : Hid _ := he
  have Ho : Hid _ := ho
  clear hn hx hs he ho sr hxe ca lna era ha sa cb lnb erb sb cc lnc erc sc s12 s123
  unfold trV treeV at *
  go_enter Try.func44, Try.ntmps44
  go_wp2_with fail
  refine (Hca.out _ HX.out.nt).mono ?_
  rintro v w1 ⟨⟨s1, rfl, hs1⟩, f1⟩
  have X1 : Hid _ := HX.out.next f1
  have F1 : Hid _ := F0.out.trans f1 (fun _ _ h => h)
  clear HX F0 f1
  obtain ⟨b0, b1, b2, b3, b4, b5⟩ := X1.out.box
  obtain ⟨n0, n1, n2, n3, n4, n5, n6, n7⟩ := X1.out.node
  simp only at n0 n1 n2 n3 n4 n5 n6 n7
  have bs1 := sz_str hs1 Hla.out
  have Hs1 : Hid _ := hs1
  clear hs1
  go_wp2_with fail
  refine (Hcb.out _ X1.out.nt).mono ?_
  rintro v w2 ⟨⟨s2, rfl, hs2⟩, f2⟩
  have X2 : Hid _ := X1.out.next f2
  have F2 : Hid _ := F1.out.trans f2 (fun _ _ h => h)
  clear X1 F1 f2
  clear b0 b1 b2 b3 b4 b5 n0 n1 n2 n3 n4 n5 n6 n7
  obtain ⟨b0, b1, b2, b3, b4, b5⟩ := X2.out.box
  obtain ⟨n0, n1, n2, n3, n4, n5, n6, n7⟩ := X2.out.node
  simp only at n0 n1 n2 n3 n4 n5 n6 n7
  have bs2 := sz_str hs2 Hlb.out
  have Hs2 : Hid _ := hs2
  clear hs2
  go_wp2_with fail
  refine (Hcc.out _ X2.out.nt).mono ?_
  rintro v w3 ⟨⟨s3, rfl, hs3⟩, f3⟩
  have X3 : Hid _ := X2.out.next f3
  have F3 : Hid _ := F2.out.trans f3 (fun _ _ h => h)
  clear X2 F2 f3
  clear b0 b1 b2 b3 b4 b5 n0 n1 n2 n3 n4 n5 n6 n7
  obtain ⟨b0, b1, b2, b3, b4, b5⟩ := X3.out.box
  obtain ⟨n0, n1, n2, n3, n4, n5, n6, n7⟩ := X3.out.node
  simp only at n0 n1 n2 n3 n4 n5 n6 n7
  have bs3 := sz_str hs3 Hlc.out
  have Hs3 : Hid _ := hs3
  clear hs3
  go_wp2_with fail
  go_ret
  exact ⟨⟨_, rfl, by simp [prS, prBl, Hs1.out, Hs2.out, Hs3.out]⟩, F3.out⟩
mutual
theorem stS : (s : Stm) → SCt s
  | .vd .. => st_vd
  | .asg .. => st_asg
  | .iff _ _ _ b => st_iff (blockX (stSs b))
  | .ife _ _ _ b _ c => st_ife (blockX (stSs b)) (blockX (stSs c))
  | .whl _ _ _ b => st_whl (blockX (stSs b))
  | .ret .. => st_ret
  | .prt .. => st_prt
  | .exp .. => st_exp
theorem stSs : (ss : Stms) → SCs ss
  | .nil => trivial
  | .cons s ss => ⟨stS s, stSs ss⟩
end
end Go.Proofs.Qxb6500280a
