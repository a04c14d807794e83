/- exprText: binary. -/
import Derived.Test.Qxb6500280aRW8
namespace Go.Proofs.Qxb6500280a
open Go Go.RowKit

set_option maxRecDepth 100000 in
set_option maxHeartbeats 8000000 in
theorem ec_binc {k p : Int} {e1 e2 : Exp} (H1 : EC e1) (H2 : EC e2) (kq1 : (kiE e1 == 18) = false) (pq1 : decide (pwE e1 < pow k) = false) (k2 : Int) (kq2 : kiE e2 = 18) (pq2 : pwE e2 = pow k2) (eq2 : ∃ p l r, e2 = .bin k2 p l r) : EC (.bin k p e1 e2) := fun w b ns r er q o nx lim hn hl hs he ho hlim => by
  simp only [flE] at hs
  simp only [NE] at he
  obtain ⟨lv, d, ho⟩ := ho
  simp only [OkE] at ho
  obtain ⟨s12, sr⟩ := hs.app
  obtain ⟨sa, sb⟩ := s12.app
  rw [flE_len] at sb
  rw [List.length_append, flE_len, flE_len] at sr
  have hok : (∃ lv d, OkE lv d e1) ∧ ∃ lv d, OkE lv d e2 := by
    have := ho.2
    split at this
    · exact ⟨⟨_, _, this.2.1⟩, _, _, this.2.2⟩
    · exact ⟨⟨_, _, this.1⟩, _, _, this.2⟩
  rw [rt_one o (szE e1 + szE e2) (.bin k p e1 e2) rfl] at hlim ⊢
  have hx := sr.one
  obtain ⟨x, hxe⟩ : ∃ x, x = o + (szE e1 + szE e2) := ⟨_, rfl⟩
  rw [← hxe] at hx hlim ⊢
  have hxl := hx.1
  obtain ⟨ra, era, ha⟩ := rtE_nat o e1
  have ca := fun w' (hn : NT w' b ns) => H1 w' b ns r er q o (-1) x hn hl sa he.1 hok.1 (by rw [era]; omega)
  obtain ⟨na, ga, ka, va⟩ := sa.root ha
  have lna := len_B e1 he.1
  have lta : ra < x := by omega
  have Hga : Hid _ := ga
  have Hka : Hid _ := ka
  have Hva : Hid _ := va
  rw [era] at hx ca
  have Hca : Hid _ := ca
  have Hla : Hid ((prB e1).length ≤ 20000) := (show (prB e1).length ≤ 20000 by omega)
  obtain ⟨rb, erb, hb⟩ := rtE_nat (o + szE e1) e2
  have cb := fun w' (hn : NT w' b ns) => H2 w' b ns r er q (o + szE e1) (-1) x hn hl sb he.2 hok.2 (by rw [erb]; omega)
  obtain ⟨nb, gb, kb, vb⟩ := sb.root hb
  have lnb := len_B e2 he.2
  have ltb : rb < x := by omega
  have Hgb : Hid _ := gb
  have Hkb : Hid _ := kb
  have Hvb : Hid _ := vb
  rw [erb] at hx cb
  have Hcb : Hid _ := cb
  have Hlb : Hid ((prB e2).length ≤ 20000) := (show (prB e2).length ≤ 20000 by omega)
  obtain ⟨m0, m1, m2, m3, m4, m5, m6, m7⟩ := hn.node hx
  simp only at m0 m1 m2 m3 m4 m5 m6 m7
  have lb := hn.lt
  have z1 : decide (lim ≤ (x : Int)) = false := decide_eq_false (by omega)
  have z2 : decide (x < ns.length) = true := decide_eq_true hxl
  have z3 : decide ((x : Int) < (ns.length : Int)) = true := decide_eq_true (by omega)
  have HX : Hid (FX w.heap.size _ b ns r er q ⟨18, (ra : Int), (rb : Int), -1, nx, k, p, ⟨#[]⟩⟩) := FX.start hn r er q _
  have F0 : Hid (Fr (fun _ => False) w ((w.alloc (bxO b ns.length r er q)).alloc (ndO ⟨18, (ra : Int), (rb : Int), -1, nx, k, p, ⟨#[]⟩⟩))) := ((Fr.refl _ _).alloc _).alloc _
  have He : Hid _ := he
  have Ho : Hid _ := ho
  clear hok hn hx hlim hs he ho hxe ga ka va ca lna era ha sa gb kb vb cb lnb erb hb sb s12 sr
  have Hpq1 : Hid _ := pq1
  have Hpq2 : Hid _ := pq2
  clear pq1 pq2
  have va2 : Hid (nb.val = k2) := (by obtain ⟨p, l, r, h⟩ := eq2; exact Hvb.out _ _ _ _ h)
  clear eq2
  have y1 : decide (ra < ns.length) = true := decide_eq_true (by omega)
  have y2 : decide ((ra : Int) < (ns.length : Int)) = true := decide_eq_true (by omega)
  have y3 : decide (rb < ns.length) = true := decide_eq_true (by omega)
  have y4 : decide ((rb : Int) < (ns.length : Int)) = true := decide_eq_true (by omega)
  unfold trV treeV at *
  go_enter Try.func63, Try.ntmps63
  go_wp2_with fail
  refine (powerP k _).mono ?_
  rintro v w0 ⟨rfl, rfl⟩
  have pk5 := pow_le k
  go_wp2_with fail
  refine (kindX (lim := (x : Int)) HX.out.nt Hga.out (by omega)).mono ?_
  rintro v w1 ⟨rfl, f1⟩
  have X1 : Hid _ := HX.out.next f1
  have F1 : Hid _ := F0.out.trans f1 (fun _ _ h => h)
  clear HX F0 f1
  obtain ⟨b0, b1, b2, b3, b4, b5⟩ := X1.out.box
  obtain ⟨n0, n1, n2, n3, n4, n5, n6, n7⟩ := X1.out.node
  simp only at n0 n1 n2 n3 n4 n5 n6 n7
  rw [Hka.out]
  obtain ⟨kk1, hkk1⟩ : ∃ kk, kk = kiE e1 := ⟨_, rfl⟩
  rw [← hkk1] at kq1 ⊢
  clear hkk1
  go_wp2_with fail
  refine (kindX (lim := (x : Int)) X1.out.nt Hgb.out (by omega)).mono ?_
  rintro v w2 ⟨rfl, f2⟩
  have X2 : Hid _ := X1.out.next f2
  have F2 : Hid _ := F1.out.trans f2 (fun _ _ h => h)
  clear X1 F1 f2
  clear b0 b1 b2 b3 b4 b5 n0 n1 n2 n3 n4 n5 n6 n7
  obtain ⟨b0, b1, b2, b3, b4, b5⟩ := X2.out.box
  obtain ⟨n0, n1, n2, n3, n4, n5, n6, n7⟩ := X2.out.node
  simp only at n0 n1 n2 n3 n4 n5 n6 n7
  rw [Hkb.out]
  rw [kq2]
  clear kq2
  obtain ⟨p0, p1, p2, p3, p4, p5, p6, p7⟩ := X2.out.nt.node Hgb.out
  rw [va2.out] at p5
  have lbb := X2.out.nt.lt
  go_wp2_with fail
  refine (powerP k2 _).mono ?_
  rintro v w0 ⟨rfl, rfl⟩
  have pk2 := pow_le k2
  go_wp2_with fail
  refine (Hca.out _ X2.out.nt).mono ?_
  rintro v w3 ⟨⟨s2, rfl, hs2⟩, f3⟩
  have X3 : Hid _ := X2.out.next f3
  have F3 : Hid _ := F2.out.trans f3 (fun _ _ h => h)
  clear X2 F2 f3
  clear b0 b1 b2 b3 b4 b5 n0 n1 n2 n3 n4 n5 n6 n7
  obtain ⟨b0, b1, b2, b3, b4, b5⟩ := X3.out.box
  obtain ⟨n0, n1, n2, n3, n4, n5, n6, n7⟩ := X3.out.node
  simp only at n0 n1 n2 n3 n4 n5 n6 n7
  clear p0 p1 p2 p3 p4 p5 p6 p7 lbb
  have bs2 := sz_str hs2 Hla.out
  have Hs2 : Hid _ := hs2
  clear hs2
  go_wp2_with fail
  refine (wrappedF s2 _ _ (by omega)).mono ?_
  rintro v w0 ⟨⟨s3, rfl, hs3⟩, rfl⟩
  have bs3 : s3.size ≤ 20004 := sz_str hs3 (Nat.le_trans (wrL_len _ _) (by rw [sz_list]; omega))
  have Hs3 : Hid _ := hs3
  clear hs3
  go_wp2_with fail
  refine (Hcb.out _ X3.out.nt).mono ?_
  rintro v w4 ⟨⟨s4, rfl, hs4⟩, f4⟩
  have X4 : Hid _ := X3.out.next f4
  have F4 : Hid _ := F3.out.trans f4 (fun _ _ h => h)
  clear X3 F3 f4
  clear b0 b1 b2 b3 b4 b5 n0 n1 n2 n3 n4 n5 n6 n7
  obtain ⟨b0, b1, b2, b3, b4, b5⟩ := X4.out.box
  obtain ⟨n0, n1, n2, n3, n4, n5, n6, n7⟩ := X4.out.node
  simp only at n0 n1 n2 n3 n4 n5 n6 n7
  have bs4 := sz_str hs4 Hlb.out
  have Hs4 : Hid _ := hs4
  clear hs4
  go_wp2_with fail
  refine (wrappedF s4 _ _ (by omega)).mono ?_
  rintro v w0 ⟨⟨s5, rfl, hs5⟩, rfl⟩
  have bs5 : s5.size ≤ 20004 := sz_str hs5 (Nat.le_trans (wrL_len _ _) (by rw [sz_list]; omega))
  have Hs5 : Hid _ := hs5
  clear hs5
  go_wp2_with fail
  refine (tokText_any k _).mono ?_
  rintro v w0 ⟨rfl, rfl⟩
  have bt6 := tokText_size k
  go_wp2_with fail
  go_ret
  exact ⟨⟨_, rfl, by simp [prB, Hs3.out, Hs2.out, Hs4.out, Hs5.out, Hpq1.out, Hpq2.out, Nat.lt_succ_iff]⟩, F4.out⟩
end Go.Proofs.Qxb6500280a
