/- The model machine: steps (written by genVM11.py). -/
import Derived.Test.Qxb6500281aGreatVM10
import Derived.Test.Qxb6500281aGreatVR5
namespace Go.Proofs.Qxb6500281aGreat
open Go Go.RowKit

section
variable {w w' w1 : World} {rn hm : Nat} {C : List Nat} {I : List Int} {V V' : Vs} {M M' : MS} {col col' : Nat → Nat} {P P' F : Nat → Prop} {cv iv ov fv : Value} {g : Nat → Value} {f : Fm} {r : List Fm} {e : Ending}
theorem drop_fu2 (V : Vs) (n : Nat) : (dropO V n).fuel = V.fuel := by
  obtain ⟨fs, pc, fuel, ip, out, en, rt, steps, most⟩ := V
  cases fs <;> rfl
set_option maxRecDepth 100000 in
set_option maxHeartbeats 1000000 in
theorem stepM22 (H : MR w rn hm C I V M col P cv iv ov fv g) (hok : POk C I V M) (hf : V.fs = f :: r) (hop : byteAt C V.pc = 22) (hp : V.pc + 1 + 2 ≤ C.length) (hi : 1 ≤ f.ops.length) (hr : (0 : Int) ≤ (M.rt.length : Int) - f.rb - f.lr) (hx : opn V 0 = 0) (hfu : V.fuel ≤ 9223372036854775807) : Calls Tryz.prog 47 #[.pointer (some ⟨rn, 0, none⟩)] w (MT w rn hm C I (execV C I 22 V.pc { V with steps := wr64 (V.steps + 1), pc := V.pc + 1 + 2 } M).1 (execV C I 22 V.pc { V with steps := wr64 (V.steps + 1), pc := V.pc + 1 + 2 } M).2 P) := by
  obtain ⟨V2, hV2⟩ : ∃ V2 : Vs, V2 = { V with steps := wr64 (V.steps + 1), pc := V.pc + 1 + 2 } := ⟨_, rfl⟩
  obtain ⟨X1, hX1⟩ : ∃ X, X = (execV C I 22 V.pc { V with steps := wr64 (V.steps + 1), pc := V.pc + 1 + 2 } M).1 := ⟨_, rfl⟩
  obtain ⟨X2, hX2⟩ : ∃ X, X = (execV C I 22 V.pc { V with steps := wr64 (V.steps + 1), pc := V.pc + 1 + 2 } M).2 := ⟨_, rfl⟩
  rw [← hX1, ← hX2]
  rw [← hV2] at hX1 hX2
  have hf2 : V2.fs = f :: r := by rw [hV2]; exact hf
  have hcl := H.cl
  have hsum : usedF V.fs = 3 + f.loc.length + f.ops.length + usedF r := by rw [hf]; rfl
  have hrl := lenUsed r
  have hus := hok.us
  have hms := hok.ms
  have h24 := hok.d24
  have hq : f.rb + f.lr ≤ M.rt.length := by have := hok.ch; rw [hf] at this; exact this.1
  have c10 := H.cl' (o := 10) (by omega)
  have c6 := H.cl' (o := 6) (by omega)
  have c0 := H.cl' (o := 0) (by omega)
  simp only [rC] at c10 c6 c0
  have hlt := H.rlt
  have hz := H.blk.frozen
  obtain ⟨b, c, e, hb', hc⟩ := H.code.all (by omega)
  have hbr : b ≠ rn := fun z => by
    have h1 := (H.ccv b ⟨_, _, e⟩).1
    rw [z, H.crn.1] at h1
    cases h1
  have He : Hid _ := e
  rw [e] at c0
  have p0 := hc V.pc (by omega)
  rw [hop] at p0
  have q1 : ∀ w, Calls Tryz.prog 59 #[.int .i64 22] w fun e w' => e = .returned (.int .i64 2) ∧ w' = w := fun w => opArgsF 22 (by omega) w
  have HK : Hid (MR ((w.setCell ⟨rn, 10, none⟩ (.int .i64 (wr64 (V.steps + 1)))).setCell ⟨rn, 6, none⟩ (.int .i64 (V.pc + 1 + 2 : Nat))) rn hm C I V2 M col P cv iv ov fv g) := by show MR _ rn hm C I V2 M col P cv iv ov fv g; rw [hV2]; exact (H.s_steps (wr64 (V.steps + 1))).s_pc (V.pc + 1 + 2)
  have FF : Hid _ := ((Fr.refl (fun c => c = rn) w).setC rn 10 (.int .i64 (wr64 (V.steps + 1))) (fun _ => rfl)).setC rn 6 (.int .i64 (V.pc + 1 + 2 : Nat)) (fun _ => rfl)
  have HE : Hid (_ ∧ _) := ⟨H, And.intro hX1 (And.intro hX2 (And.intro hf2 (And.intro (And.intro hi hr) (And.intro hV2 (And.intro hok hsum)))))⟩
  have HB : Hid _ := And.intro h24 (And.intro hq (And.intro hus (And.intro hms hrl)))
  have h48 : r.length ≤ 48 := by omega
  have hd24 : M.rt.length ≤ 24 := h24
  have hlo48 : f.loc.length ≤ 48 := by omega
  have hlr24 : f.lr ≤ 24 := by omega
  have hrb24 : f.rb ≤ 24 := by omega
  generalize hpcE : V.pc = pc at *
  generalize V.steps = sx at *
  clear H e hf hX1 hX2 hf2 hsum hrl hus hms h24 hq hV2 hpcE hi hr hok
  have hp' : (pc : Int) + 1 + 2 ≤ C.length := by omega
  have z : decide ((pc : Int) ≥ C.length) = false := decide_eq_false (by omega)
  have y2 : decide ((pc : Int) + 1 + 2 > (C.length : Int)) = false := decide_eq_false (by omega)
  have y3 : decide ((C.length : Int) < (pc : Int) + 1 + 2) = false := decide_eq_false (by omega)
  go_enter Tryz.func47, Tryz.ntmps47
  go_wp2_with fail
  refine (q1 _).mono ?_
  rintro v wa ⟨rfl, rfl⟩
  clear q1
  go_upto_region 9 with fail
  generalize hw2 : World.setCell _ ⟨rn, 6, none⟩ _ = w2
  have H2 : MR w2 rn hm C I V2 M col P cv iv ov fv g := by rw [← hw2]; exact HK.out
  have F2 : Fr (fun c => c = rn) w w2 := by rw [← hw2]; exact FF.out
  clear hw2 c10 c6 c0 hlt hz p0 HK FF z y2 y3 hb' hc hbr
  have hf2 := HE.out.2.2.2.1
  have hT := topMF H2 hf2 h48
  have c5 := H2.cl' (o := 5) (by omega)
  have c7 := H2.cl' (o := 7) (by omega)
  simp only [rC] at c5 c7
  obtain ⟨fb, cap, efv, q1, q2, q3, p0, p1, p2, p3, p4, kl, ko⟩ := H2.tops hf2
  rw [efv] at c5
  obtain ⟨la, lc, el, hlc⟩ := kl.sl
  rw [el] at p1
  have hlt := H2.rlt
  obtain ⟨OH, m1, _⟩ := H2.hp
  have hD := fun n => depthMF (m1.same ((Fr.refl (fun _ => False) w2).drewN n))
  have HF : Hid _ := And.intro H2 F2
  obtain ⟨t, ht⟩ : ∃ t, t = r.length := ⟨_, rfl⟩
  rw [← ht] at c5 p1 p3 p4 q1 h48 hT
  have hti : (t : Int) < (t : Int) + 1 := by omega
  have Ht : Hid _ := ht
  obtain ⟨d, hde⟩ : ∃ d, d = M.rt.length := ⟨_, rfl⟩
  rw [← hde] at hD hd24
  have Hde : Hid _ := hde
  clear hde
  clear H2 F2 hf2 efv el ko kl p0 p2 ht m1 hlc q3
  go_wp2_with fail
  refine hT.mono ?_
  rintro v w3 ⟨rfl, rfl⟩
  clear hT
  go_wp2_with fail
  go_quiet (fail)
  go_wp2_with fail
  refine (hD _).mono ?_
  rintro v w4 ⟨rfl, rfl⟩
  clear hD c5 c7 p1 p3 p4 q1 q2 hlt
  go_upto_region 74 with fail
  generalize hw4 : World.drewN _ _ = w4
  have H4 : MR w4 rn hm C I V2 M col P cv iv ov fv g := by rw [← hw4]; exact HF.out.1.same ((Fr.refl (fun _ => False) _).drewN _)
  have F4 : Fr (fun c => c = rn) w w4 := by rw [← hw4]; exact HF.out.2.drewN _
  clear hw4 HF
  have hz4 : MZ w rn hm C I V2 M P w4 := HE.out.1.zs H4 F4
  have HZ : Hid _ := hz4
  clear H4 F4 hz4
  obtain ⟨⟨col5, cv5, iv5, ov5, fv5, g5, H5⟩, k5⟩ := HZ.out
  have hlt5 := H5.rlt
  have hq5 := need_ok H5 HE.out.2.2.2.1 HB.out.1 (by have h1 := HB.out; omega) (by have h1 := HB.out; have h2 := HE.out.2.2.2.2.2.2.2; omega) 1 0 (by have h1 := HE.out.2.2.2.2.1; omega) (by have h1 := HE.out.2.2.2.2.1; omega)
  rw [show ((1 : Nat) : Int) = 1 from rfl, show ((0 : Nat) : Int) = 0 from rfl] at hq5
  clear H5 k5
  go_wp2_with fail
  refine hq5.mono ?_
  rintro v wz ⟨rfl, n5, rfl⟩
  have HZ' : Hid (MZ w rn hm C I V2 M P (w4.drewN n5)) := MZ.then HZ.out (ME.z0 HZ.out.1 ((Fr.refl (fun _ => False) w4).drewN n5))
  clear hq5 hlt5 HZ
  have HZ := HZ'
  clear HZ'
  obtain ⟨⟨col6, cv6, iv6, ov6, fv6, g6, H6⟩, k6⟩ := HZ.out
  have hlt6 := H6.rlt
  have hq6 := vpopMF H6 HE.out.2.2.2.1 (by have h1 := HB.out; have h2 := HE.out.2.2.2.2.2.2.2; omega) (by have h1 := HE.out.2.2.2.2.1; omega) (by have h1 := HB.out; have h2 := HE.out.2.2.2.2.2.2.2; omega)
  clear H6 k6
  go_wp2_with fail
  refine hq6.mono ?_
  rintro v w6 ⟨rfl, h6⟩
  have HZ' : Hid (MZ w rn hm C I (dropO V2 1) M P w6) := MZ.then HZ.out h6
  clear hq6 hlt6 h6 HZ
  have HZ := HZ'
  clear HZ'
  obtain ⟨⟨col7, cv7, iv7, ov7, fv7, g7, H7⟩, k7⟩ := HZ.out
  have hlt7 := H7.rlt
  obtain ⟨cb, cc, ec, hcb, hcc⟩ := H7.code.all (by omega)
  have c0 := H7.cl' (o := 0) (by omega)
  simp only [rC] at c0
  rw [ec] at c0
  have q := u16F H7.code H7.cb hcl (pc + 1) (by omega)
  rw [ec, show ((pc + 1 : Nat) : Int) = (pc : Int) + 1 from rfl] at q
  have hq := fun n => vjumpMF (H7.same ((Fr.refl (fun _ => False) w6).drewN n)) (by rw [drop_fu2]; exact (by have h2 := HE.out.2.2.2.2.2.1; rw [h2]; exact hfu)) pc (u16V C (pc + 1))
  have hx2 : opn V2 0 = 0 := by have h2 := HE.out.2.2.2.2.2.1; rw [h2]; exact hx
  have Hx2 : Hid _ := hx2
  have yb : (opn V2 0 == 0) = true := by simpa using hx2
  have yb2 : (opn V2 0 != 0) = false := by simpa using hx2
  generalize opn V2 0 = x at yb yb2 ⊢
  clear H7 k7 ec hcc hx2 hx
  go_wp2_with fail
  refine q.mono ?_
  rintro v wz ⟨rfl, n, rfl⟩
  go_wp2_with fail
  refine (hq n).mono ?_
  rintro v w8 ⟨rfl, h8⟩
  have HZ' : Hid (MZ w rn hm C I (jumpV C (dropO V2 1) pc (u16V C (pc + 1))) M P w8) := MZ.nx (MZ.then HZ.out (ME.z0 HZ.out.1 ((Fr.refl (fun _ => False) w6).drewN n))) (fun c z => z) h8
  clear HZ
  have HZ := HZ'
  go_wp2_with fail
  go_end0
  rw [show X1 = jumpV C (dropO V2 1) pc (u16V C (pc + 1)) by rw [HE.out.2.1]; show (if opn V2 0 = 0 then _ else _, M).1 = _; rw [if_pos Hx2.out], show X2 = M by rw [HE.out.2.2.1]; exact rfl]
  exact MZ.t HZ.out
set_option maxRecDepth 100000 in
set_option maxHeartbeats 1000000 in
theorem stepM22n (H : MR w rn hm C I V M col P cv iv ov fv g) (hok : POk C I V M) (hf : V.fs = f :: r) (hop : byteAt C V.pc = 22) (hp : V.pc + 1 + 2 ≤ C.length) (hi : 1 ≤ f.ops.length) (hr : (0 : Int) ≤ (M.rt.length : Int) - f.rb - f.lr) (hx : opn V 0 ≠ 0) (hfu : V.fuel ≤ 9223372036854775807) : Calls Tryz.prog 47 #[.pointer (some ⟨rn, 0, none⟩)] w (MT w rn hm C I (execV C I 22 V.pc { V with steps := wr64 (V.steps + 1), pc := V.pc + 1 + 2 } M).1 (execV C I 22 V.pc { V with steps := wr64 (V.steps + 1), pc := V.pc + 1 + 2 } M).2 P) := by
  obtain ⟨V2, hV2⟩ : ∃ V2 : Vs, V2 = { V with steps := wr64 (V.steps + 1), pc := V.pc + 1 + 2 } := ⟨_, rfl⟩
  obtain ⟨X1, hX1⟩ : ∃ X, X = (execV C I 22 V.pc { V with steps := wr64 (V.steps + 1), pc := V.pc + 1 + 2 } M).1 := ⟨_, rfl⟩
  obtain ⟨X2, hX2⟩ : ∃ X, X = (execV C I 22 V.pc { V with steps := wr64 (V.steps + 1), pc := V.pc + 1 + 2 } M).2 := ⟨_, rfl⟩
  rw [← hX1, ← hX2]
  rw [← hV2] at hX1 hX2
  have hf2 : V2.fs = f :: r := by rw [hV2]; exact hf
  have hcl := H.cl
  have hsum : usedF V.fs = 3 + f.loc.length + f.ops.length + usedF r := by rw [hf]; rfl
  have hrl := lenUsed r
  have hus := hok.us
  have hms := hok.ms
  have h24 := hok.d24
  have hq : f.rb + f.lr ≤ M.rt.length := by have := hok.ch; rw [hf] at this; exact this.1
  have c10 := H.cl' (o := 10) (by omega)
  have c6 := H.cl' (o := 6) (by omega)
  have c0 := H.cl' (o := 0) (by omega)
  simp only [rC] at c10 c6 c0
  have hlt := H.rlt
  have hz := H.blk.frozen
  obtain ⟨b, c, e, hb', hc⟩ := H.code.all (by omega)
  have hbr : b ≠ rn := fun z => by
    have h1 := (H.ccv b ⟨_, _, e⟩).1
    rw [z, H.crn.1] at h1
    cases h1
  have He : Hid _ := e
  rw [e] at c0
  have p0 := hc V.pc (by omega)
  rw [hop] at p0
  have q1 : ∀ w, Calls Tryz.prog 59 #[.int .i64 22] w fun e w' => e = .returned (.int .i64 2) ∧ w' = w := fun w => opArgsF 22 (by omega) w
  have HK : Hid (MR ((w.setCell ⟨rn, 10, none⟩ (.int .i64 (wr64 (V.steps + 1)))).setCell ⟨rn, 6, none⟩ (.int .i64 (V.pc + 1 + 2 : Nat))) rn hm C I V2 M col P cv iv ov fv g) := by show MR _ rn hm C I V2 M col P cv iv ov fv g; rw [hV2]; exact (H.s_steps (wr64 (V.steps + 1))).s_pc (V.pc + 1 + 2)
  have FF : Hid _ := ((Fr.refl (fun c => c = rn) w).setC rn 10 (.int .i64 (wr64 (V.steps + 1))) (fun _ => rfl)).setC rn 6 (.int .i64 (V.pc + 1 + 2 : Nat)) (fun _ => rfl)
  have HE : Hid (_ ∧ _) := ⟨H, And.intro hX1 (And.intro hX2 (And.intro hf2 (And.intro (And.intro hi hr) (And.intro hV2 (And.intro hok hsum)))))⟩
  have HB : Hid _ := And.intro h24 (And.intro hq (And.intro hus (And.intro hms hrl)))
  have h48 : r.length ≤ 48 := by omega
  have hd24 : M.rt.length ≤ 24 := h24
  have hlo48 : f.loc.length ≤ 48 := by omega
  have hlr24 : f.lr ≤ 24 := by omega
  have hrb24 : f.rb ≤ 24 := by omega
  generalize hpcE : V.pc = pc at *
  generalize V.steps = sx at *
  clear H e hf hX1 hX2 hf2 hsum hrl hus hms h24 hq hV2 hpcE hi hr hok
  have hp' : (pc : Int) + 1 + 2 ≤ C.length := by omega
  have z : decide ((pc : Int) ≥ C.length) = false := decide_eq_false (by omega)
  have y2 : decide ((pc : Int) + 1 + 2 > (C.length : Int)) = false := decide_eq_false (by omega)
  have y3 : decide ((C.length : Int) < (pc : Int) + 1 + 2) = false := decide_eq_false (by omega)
  go_enter Tryz.func47, Tryz.ntmps47
  go_wp2_with fail
  refine (q1 _).mono ?_
  rintro v wa ⟨rfl, rfl⟩
  clear q1
  go_upto_region 9 with fail
  generalize hw2 : World.setCell _ ⟨rn, 6, none⟩ _ = w2
  have H2 : MR w2 rn hm C I V2 M col P cv iv ov fv g := by rw [← hw2]; exact HK.out
  have F2 : Fr (fun c => c = rn) w w2 := by rw [← hw2]; exact FF.out
  clear hw2 c10 c6 c0 hlt hz p0 HK FF z y2 y3 hb' hc hbr
  have hf2 := HE.out.2.2.2.1
  have hT := topMF H2 hf2 h48
  have c5 := H2.cl' (o := 5) (by omega)
  have c7 := H2.cl' (o := 7) (by omega)
  simp only [rC] at c5 c7
  obtain ⟨fb, cap, efv, q1, q2, q3, p0, p1, p2, p3, p4, kl, ko⟩ := H2.tops hf2
  rw [efv] at c5
  obtain ⟨la, lc, el, hlc⟩ := kl.sl
  rw [el] at p1
  have hlt := H2.rlt
  obtain ⟨OH, m1, _⟩ := H2.hp
  have hD := fun n => depthMF (m1.same ((Fr.refl (fun _ => False) w2).drewN n))
  have HF : Hid _ := And.intro H2 F2
  obtain ⟨t, ht⟩ : ∃ t, t = r.length := ⟨_, rfl⟩
  rw [← ht] at c5 p1 p3 p4 q1 h48 hT
  have hti : (t : Int) < (t : Int) + 1 := by omega
  have Ht : Hid _ := ht
  obtain ⟨d, hde⟩ : ∃ d, d = M.rt.length := ⟨_, rfl⟩
  rw [← hde] at hD hd24
  have Hde : Hid _ := hde
  clear hde
  clear H2 F2 hf2 efv el ko kl p0 p2 ht m1 hlc q3
  go_wp2_with fail
  refine hT.mono ?_
  rintro v w3 ⟨rfl, rfl⟩
  clear hT
  go_wp2_with fail
  go_quiet (fail)
  go_wp2_with fail
  refine (hD _).mono ?_
  rintro v w4 ⟨rfl, rfl⟩
  clear hD c5 c7 p1 p3 p4 q1 q2 hlt
  go_upto_region 74 with fail
  generalize hw4 : World.drewN _ _ = w4
  have H4 : MR w4 rn hm C I V2 M col P cv iv ov fv g := by rw [← hw4]; exact HF.out.1.same ((Fr.refl (fun _ => False) _).drewN _)
  have F4 : Fr (fun c => c = rn) w w4 := by rw [← hw4]; exact HF.out.2.drewN _
  clear hw4 HF
  have hz4 : MZ w rn hm C I V2 M P w4 := HE.out.1.zs H4 F4
  have HZ : Hid _ := hz4
  clear H4 F4 hz4
  obtain ⟨⟨col5, cv5, iv5, ov5, fv5, g5, H5⟩, k5⟩ := HZ.out
  have hlt5 := H5.rlt
  have hq5 := need_ok H5 HE.out.2.2.2.1 HB.out.1 (by have h1 := HB.out; omega) (by have h1 := HB.out; have h2 := HE.out.2.2.2.2.2.2.2; omega) 1 0 (by have h1 := HE.out.2.2.2.2.1; omega) (by have h1 := HE.out.2.2.2.2.1; omega)
  rw [show ((1 : Nat) : Int) = 1 from rfl, show ((0 : Nat) : Int) = 0 from rfl] at hq5
  clear H5 k5
  go_wp2_with fail
  refine hq5.mono ?_
  rintro v wz ⟨rfl, n5, rfl⟩
  have HZ' : Hid (MZ w rn hm C I V2 M P (w4.drewN n5)) := MZ.then HZ.out (ME.z0 HZ.out.1 ((Fr.refl (fun _ => False) w4).drewN n5))
  clear hq5 hlt5 HZ
  have HZ := HZ'
  clear HZ'
  obtain ⟨⟨col6, cv6, iv6, ov6, fv6, g6, H6⟩, k6⟩ := HZ.out
  have hlt6 := H6.rlt
  have hq6 := vpopMF H6 HE.out.2.2.2.1 (by have h1 := HB.out; have h2 := HE.out.2.2.2.2.2.2.2; omega) (by have h1 := HE.out.2.2.2.2.1; omega) (by have h1 := HB.out; have h2 := HE.out.2.2.2.2.2.2.2; omega)
  clear H6 k6
  go_wp2_with fail
  refine hq6.mono ?_
  rintro v w6 ⟨rfl, h6⟩
  have HZ' : Hid (MZ w rn hm C I (dropO V2 1) M P w6) := MZ.then HZ.out h6
  clear hq6 hlt6 h6 HZ
  have HZ := HZ'
  clear HZ'
  obtain ⟨⟨col7, cv7, iv7, ov7, fv7, g7, H7⟩, k7⟩ := HZ.out
  have hlt7 := H7.rlt
  obtain ⟨cb, cc, ec, hcb, hcc⟩ := H7.code.all (by omega)
  have c0 := H7.cl' (o := 0) (by omega)
  simp only [rC] at c0
  rw [ec] at c0
  have q := u16F H7.code H7.cb hcl (pc + 1) (by omega)
  rw [ec, show ((pc + 1 : Nat) : Int) = (pc : Int) + 1 from rfl] at q
  have hq := fun n => vjumpMF (H7.same ((Fr.refl (fun _ => False) w6).drewN n)) (by rw [drop_fu2]; exact (by have h2 := HE.out.2.2.2.2.2.1; rw [h2]; exact hfu)) pc (u16V C (pc + 1))
  have hx2 : opn V2 0 ≠ 0 := by have h2 := HE.out.2.2.2.2.2.1; rw [h2]; exact hx
  have Hx2 : Hid _ := hx2
  have yb : (opn V2 0 == 0) = false := by simpa using hx2
  have yb2 : (opn V2 0 != 0) = true := by simpa using hx2
  generalize opn V2 0 = x at yb yb2 ⊢
  clear H7 k7 ec hcc hx2 hx
  go_wp2_with fail
  refine q.mono ?_
  rintro v wz ⟨rfl, n, rfl⟩
  have HZ' : Hid (MZ w rn hm C I (dropO V2 1) M P (w6.drewN n)) := MZ.then HZ.out (ME.z0 HZ.out.1 ((Fr.refl (fun _ => False) w6).drewN n))
  clear HZ
  have HZ := HZ'
  go_wp2_with fail
  go_end0
  rw [show X1 = dropO V2 1 by rw [HE.out.2.1]; show (if opn V2 0 = 0 then _ else _, M).1 = _; rw [if_neg Hx2.out], show X2 = M by rw [HE.out.2.2.1]; exact rfl]
  exact MZ.t HZ.out
set_option maxRecDepth 100000 in
set_option maxHeartbeats 1000000 in
theorem stepM23 (H : MR w rn hm C I V M col P cv iv ov fv g) (hok : POk C I V M) (hf : V.fs = f :: r) (hop : byteAt C V.pc = 23) (hp : V.pc + 1 + 2 ≤ C.length) (hi : 1 ≤ f.ops.length) (hr : (0 : Int) ≤ (M.rt.length : Int) - f.rb - f.lr) (hx : opn V 0 ≠ 0) (hfu : V.fuel ≤ 9223372036854775807) : Calls Tryz.prog 47 #[.pointer (some ⟨rn, 0, none⟩)] w (MT w rn hm C I (execV C I 23 V.pc { V with steps := wr64 (V.steps + 1), pc := V.pc + 1 + 2 } M).1 (execV C I 23 V.pc { V with steps := wr64 (V.steps + 1), pc := V.pc + 1 + 2 } M).2 P) := by
  obtain ⟨V2, hV2⟩ : ∃ V2 : Vs, V2 = { V with steps := wr64 (V.steps + 1), pc := V.pc + 1 + 2 } := ⟨_, rfl⟩
  obtain ⟨X1, hX1⟩ : ∃ X, X = (execV C I 23 V.pc { V with steps := wr64 (V.steps + 1), pc := V.pc + 1 + 2 } M).1 := ⟨_, rfl⟩
  obtain ⟨X2, hX2⟩ : ∃ X, X = (execV C I 23 V.pc { V with steps := wr64 (V.steps + 1), pc := V.pc + 1 + 2 } M).2 := ⟨_, rfl⟩
  rw [← hX1, ← hX2]
  rw [← hV2] at hX1 hX2
  have hf2 : V2.fs = f :: r := by rw [hV2]; exact hf
  have hcl := H.cl
  have hsum : usedF V.fs = 3 + f.loc.length + f.ops.length + usedF r := by rw [hf]; rfl
  have hrl := lenUsed r
  have hus := hok.us
  have hms := hok.ms
  have h24 := hok.d24
  have hq : f.rb + f.lr ≤ M.rt.length := by have := hok.ch; rw [hf] at this; exact this.1
  have c10 := H.cl' (o := 10) (by omega)
  have c6 := H.cl' (o := 6) (by omega)
  have c0 := H.cl' (o := 0) (by omega)
  simp only [rC] at c10 c6 c0
  have hlt := H.rlt
  have hz := H.blk.frozen
  obtain ⟨b, c, e, hb', hc⟩ := H.code.all (by omega)
  have hbr : b ≠ rn := fun z => by
    have h1 := (H.ccv b ⟨_, _, e⟩).1
    rw [z, H.crn.1] at h1
    cases h1
  have He : Hid _ := e
  rw [e] at c0
  have p0 := hc V.pc (by omega)
  rw [hop] at p0
  have q1 : ∀ w, Calls Tryz.prog 59 #[.int .i64 23] w fun e w' => e = .returned (.int .i64 2) ∧ w' = w := fun w => opArgsF 23 (by omega) w
  have HK : Hid (MR ((w.setCell ⟨rn, 10, none⟩ (.int .i64 (wr64 (V.steps + 1)))).setCell ⟨rn, 6, none⟩ (.int .i64 (V.pc + 1 + 2 : Nat))) rn hm C I V2 M col P cv iv ov fv g) := by show MR _ rn hm C I V2 M col P cv iv ov fv g; rw [hV2]; exact (H.s_steps (wr64 (V.steps + 1))).s_pc (V.pc + 1 + 2)
  have FF : Hid _ := ((Fr.refl (fun c => c = rn) w).setC rn 10 (.int .i64 (wr64 (V.steps + 1))) (fun _ => rfl)).setC rn 6 (.int .i64 (V.pc + 1 + 2 : Nat)) (fun _ => rfl)
  have HE : Hid (_ ∧ _) := ⟨H, And.intro hX1 (And.intro hX2 (And.intro hf2 (And.intro (And.intro hi hr) (And.intro hV2 (And.intro hok hsum)))))⟩
  have HB : Hid _ := And.intro h24 (And.intro hq (And.intro hus (And.intro hms hrl)))
  have h48 : r.length ≤ 48 := by omega
  have hd24 : M.rt.length ≤ 24 := h24
  have hlo48 : f.loc.length ≤ 48 := by omega
  have hlr24 : f.lr ≤ 24 := by omega
  have hrb24 : f.rb ≤ 24 := by omega
  generalize hpcE : V.pc = pc at *
  generalize V.steps = sx at *
  clear H e hf hX1 hX2 hf2 hsum hrl hus hms h24 hq hV2 hpcE hi hr hok
  have hp' : (pc : Int) + 1 + 2 ≤ C.length := by omega
  have z : decide ((pc : Int) ≥ C.length) = false := decide_eq_false (by omega)
  have y2 : decide ((pc : Int) + 1 + 2 > (C.length : Int)) = false := decide_eq_false (by omega)
  have y3 : decide ((C.length : Int) < (pc : Int) + 1 + 2) = false := decide_eq_false (by omega)
  go_enter Tryz.func47, Tryz.ntmps47
  go_wp2_with fail
  refine (q1 _).mono ?_
  rintro v wa ⟨rfl, rfl⟩
  clear q1
  go_upto_region 9 with fail
  generalize hw2 : World.setCell _ ⟨rn, 6, none⟩ _ = w2
  have H2 : MR w2 rn hm C I V2 M col P cv iv ov fv g := by rw [← hw2]; exact HK.out
  have F2 : Fr (fun c => c = rn) w w2 := by rw [← hw2]; exact FF.out
  clear hw2 c10 c6 c0 hlt hz p0 HK FF z y2 y3 hb' hc hbr
  have hf2 := HE.out.2.2.2.1
  have hT := topMF H2 hf2 h48
  have c5 := H2.cl' (o := 5) (by omega)
  have c7 := H2.cl' (o := 7) (by omega)
  simp only [rC] at c5 c7
  obtain ⟨fb, cap, efv, q1, q2, q3, p0, p1, p2, p3, p4, kl, ko⟩ := H2.tops hf2
  rw [efv] at c5
  obtain ⟨la, lc, el, hlc⟩ := kl.sl
  rw [el] at p1
  have hlt := H2.rlt
  obtain ⟨OH, m1, _⟩ := H2.hp
  have hD := fun n => depthMF (m1.same ((Fr.refl (fun _ => False) w2).drewN n))
  have HF : Hid _ := And.intro H2 F2
  obtain ⟨t, ht⟩ : ∃ t, t = r.length := ⟨_, rfl⟩
  rw [← ht] at c5 p1 p3 p4 q1 h48 hT
  have hti : (t : Int) < (t : Int) + 1 := by omega
  have Ht : Hid _ := ht
  obtain ⟨d, hde⟩ : ∃ d, d = M.rt.length := ⟨_, rfl⟩
  rw [← hde] at hD hd24
  have Hde : Hid _ := hde
  clear hde
  clear H2 F2 hf2 efv el ko kl p0 p2 ht m1 hlc q3
  go_wp2_with fail
  refine hT.mono ?_
  rintro v w3 ⟨rfl, rfl⟩
  clear hT
  go_wp2_with fail
  go_quiet (fail)
  go_wp2_with fail
  refine (hD _).mono ?_
  rintro v w4 ⟨rfl, rfl⟩
  clear hD c5 c7 p1 p3 p4 q1 q2 hlt
  go_upto_region 80 with fail
  generalize hw4 : World.drewN _ _ = w4
  have H4 : MR w4 rn hm C I V2 M col P cv iv ov fv g := by rw [← hw4]; exact HF.out.1.same ((Fr.refl (fun _ => False) _).drewN _)
  have F4 : Fr (fun c => c = rn) w w4 := by rw [← hw4]; exact HF.out.2.drewN _
  clear hw4 HF
  have hz4 : MZ w rn hm C I V2 M P w4 := HE.out.1.zs H4 F4
  have HZ : Hid _ := hz4
  clear H4 F4 hz4
  obtain ⟨⟨col5, cv5, iv5, ov5, fv5, g5, H5⟩, k5⟩ := HZ.out
  have hlt5 := H5.rlt
  have hq5 := need_ok H5 HE.out.2.2.2.1 HB.out.1 (by have h1 := HB.out; omega) (by have h1 := HB.out; have h2 := HE.out.2.2.2.2.2.2.2; omega) 1 0 (by have h1 := HE.out.2.2.2.2.1; omega) (by have h1 := HE.out.2.2.2.2.1; omega)
  rw [show ((1 : Nat) : Int) = 1 from rfl, show ((0 : Nat) : Int) = 0 from rfl] at hq5
  clear H5 k5
  go_wp2_with fail
  refine hq5.mono ?_
  rintro v wz ⟨rfl, n5, rfl⟩
  have HZ' : Hid (MZ w rn hm C I V2 M P (w4.drewN n5)) := MZ.then HZ.out (ME.z0 HZ.out.1 ((Fr.refl (fun _ => False) w4).drewN n5))
  clear hq5 hlt5 HZ
  have HZ := HZ'
  clear HZ'
  obtain ⟨⟨col6, cv6, iv6, ov6, fv6, g6, H6⟩, k6⟩ := HZ.out
  have hlt6 := H6.rlt
  have hq6 := vpopMF H6 HE.out.2.2.2.1 (by have h1 := HB.out; have h2 := HE.out.2.2.2.2.2.2.2; omega) (by have h1 := HE.out.2.2.2.2.1; omega) (by have h1 := HB.out; have h2 := HE.out.2.2.2.2.2.2.2; omega)
  clear H6 k6
  go_wp2_with fail
  refine hq6.mono ?_
  rintro v w6 ⟨rfl, h6⟩
  have HZ' : Hid (MZ w rn hm C I (dropO V2 1) M P w6) := MZ.then HZ.out h6
  clear hq6 hlt6 h6 HZ
  have HZ := HZ'
  clear HZ'
  obtain ⟨⟨col7, cv7, iv7, ov7, fv7, g7, H7⟩, k7⟩ := HZ.out
  have hlt7 := H7.rlt
  obtain ⟨cb, cc, ec, hcb, hcc⟩ := H7.code.all (by omega)
  have c0 := H7.cl' (o := 0) (by omega)
  simp only [rC] at c0
  rw [ec] at c0
  have q := u16F H7.code H7.cb hcl (pc + 1) (by omega)
  rw [ec, show ((pc + 1 : Nat) : Int) = (pc : Int) + 1 from rfl] at q
  have hq := fun n => vjumpMF (H7.same ((Fr.refl (fun _ => False) w6).drewN n)) (by rw [drop_fu2]; exact (by have h2 := HE.out.2.2.2.2.2.1; rw [h2]; exact hfu)) pc (u16V C (pc + 1))
  have hx2 : opn V2 0 ≠ 0 := by have h2 := HE.out.2.2.2.2.2.1; rw [h2]; exact hx
  have Hx2 : Hid _ := hx2
  have yb : (opn V2 0 == 0) = false := by simpa using hx2
  have yb2 : (opn V2 0 != 0) = true := by simpa using hx2
  generalize opn V2 0 = x at yb yb2 ⊢
  clear H7 k7 ec hcc hx2 hx
  go_wp2_with fail
  refine q.mono ?_
  rintro v wz ⟨rfl, n, rfl⟩
  go_wp2_with fail
  refine (hq n).mono ?_
  rintro v w8 ⟨rfl, h8⟩
  have HZ' : Hid (MZ w rn hm C I (jumpV C (dropO V2 1) pc (u16V C (pc + 1))) M P w8) := MZ.nx (MZ.then HZ.out (ME.z0 HZ.out.1 ((Fr.refl (fun _ => False) w6).drewN n))) (fun c z => z) h8
  clear HZ
  have HZ := HZ'
  go_wp2_with fail
  go_end0
  rw [show X1 = jumpV C (dropO V2 1) pc (u16V C (pc + 1)) by rw [HE.out.2.1]; show (if opn V2 0 = 0 then _ else _, M).1 = _; rw [if_neg Hx2.out], show X2 = M by rw [HE.out.2.2.1]; exact rfl]
  exact MZ.t HZ.out
set_option maxRecDepth 100000 in
set_option maxHeartbeats 1000000 in
theorem stepM23n (H : MR w rn hm C I V M col P cv iv ov fv g) (hok : POk C I V M) (hf : V.fs = f :: r) (hop : byteAt C V.pc = 23) (hp : V.pc + 1 + 2 ≤ C.length) (hi : 1 ≤ f.ops.length) (hr : (0 : Int) ≤ (M.rt.length : Int) - f.rb - f.lr) (hx : opn V 0 = 0) (hfu : V.fuel ≤ 9223372036854775807) : Calls Tryz.prog 47 #[.pointer (some ⟨rn, 0, none⟩)] w (MT w rn hm C I (execV C I 23 V.pc { V with steps := wr64 (V.steps + 1), pc := V.pc + 1 + 2 } M).1 (execV C I 23 V.pc { V with steps := wr64 (V.steps + 1), pc := V.pc + 1 + 2 } M).2 P) := by
  obtain ⟨V2, hV2⟩ : ∃ V2 : Vs, V2 = { V with steps := wr64 (V.steps + 1), pc := V.pc + 1 + 2 } := ⟨_, rfl⟩
  obtain ⟨X1, hX1⟩ : ∃ X, X = (execV C I 23 V.pc { V with steps := wr64 (V.steps + 1), pc := V.pc + 1 + 2 } M).1 := ⟨_, rfl⟩
  obtain ⟨X2, hX2⟩ : ∃ X, X = (execV C I 23 V.pc { V with steps := wr64 (V.steps + 1), pc := V.pc + 1 + 2 } M).2 := ⟨_, rfl⟩
  rw [← hX1, ← hX2]
  rw [← hV2] at hX1 hX2
  have hf2 : V2.fs = f :: r := by rw [hV2]; exact hf
  have hcl := H.cl
  have hsum : usedF V.fs = 3 + f.loc.length + f.ops.length + usedF r := by rw [hf]; rfl
  have hrl := lenUsed r
  have hus := hok.us
  have hms := hok.ms
  have h24 := hok.d24
  have hq : f.rb + f.lr ≤ M.rt.length := by have := hok.ch; rw [hf] at this; exact this.1
  have c10 := H.cl' (o := 10) (by omega)
  have c6 := H.cl' (o := 6) (by omega)
  have c0 := H.cl' (o := 0) (by omega)
  simp only [rC] at c10 c6 c0
  have hlt := H.rlt
  have hz := H.blk.frozen
  obtain ⟨b, c, e, hb', hc⟩ := H.code.all (by omega)
  have hbr : b ≠ rn := fun z => by
    have h1 := (H.ccv b ⟨_, _, e⟩).1
    rw [z, H.crn.1] at h1
    cases h1
  have He : Hid _ := e
  rw [e] at c0
  have p0 := hc V.pc (by omega)
  rw [hop] at p0
  have q1 : ∀ w, Calls Tryz.prog 59 #[.int .i64 23] w fun e w' => e = .returned (.int .i64 2) ∧ w' = w := fun w => opArgsF 23 (by omega) w
  have HK : Hid (MR ((w.setCell ⟨rn, 10, none⟩ (.int .i64 (wr64 (V.steps + 1)))).setCell ⟨rn, 6, none⟩ (.int .i64 (V.pc + 1 + 2 : Nat))) rn hm C I V2 M col P cv iv ov fv g) := by show MR _ rn hm C I V2 M col P cv iv ov fv g; rw [hV2]; exact (H.s_steps (wr64 (V.steps + 1))).s_pc (V.pc + 1 + 2)
  have FF : Hid _ := ((Fr.refl (fun c => c = rn) w).setC rn 10 (.int .i64 (wr64 (V.steps + 1))) (fun _ => rfl)).setC rn 6 (.int .i64 (V.pc + 1 + 2 : Nat)) (fun _ => rfl)
  have HE : Hid (_ ∧ _) := ⟨H, And.intro hX1 (And.intro hX2 (And.intro hf2 (And.intro (And.intro hi hr) (And.intro hV2 (And.intro hok hsum)))))⟩
  have HB : Hid _ := And.intro h24 (And.intro hq (And.intro hus (And.intro hms hrl)))
  have h48 : r.length ≤ 48 := by omega
  have hd24 : M.rt.length ≤ 24 := h24
  have hlo48 : f.loc.length ≤ 48 := by omega
  have hlr24 : f.lr ≤ 24 := by omega
  have hrb24 : f.rb ≤ 24 := by omega
  generalize hpcE : V.pc = pc at *
  generalize V.steps = sx at *
  clear H e hf hX1 hX2 hf2 hsum hrl hus hms h24 hq hV2 hpcE hi hr hok
  have hp' : (pc : Int) + 1 + 2 ≤ C.length := by omega
  have z : decide ((pc : Int) ≥ C.length) = false := decide_eq_false (by omega)
  have y2 : decide ((pc : Int) + 1 + 2 > (C.length : Int)) = false := decide_eq_false (by omega)
  have y3 : decide ((C.length : Int) < (pc : Int) + 1 + 2) = false := decide_eq_false (by omega)
  go_enter Tryz.func47, Tryz.ntmps47
  go_wp2_with fail
  refine (q1 _).mono ?_
  rintro v wa ⟨rfl, rfl⟩
  clear q1
  go_upto_region 9 with fail
  generalize hw2 : World.setCell _ ⟨rn, 6, none⟩ _ = w2
  have H2 : MR w2 rn hm C I V2 M col P cv iv ov fv g := by rw [← hw2]; exact HK.out
  have F2 : Fr (fun c => c = rn) w w2 := by rw [← hw2]; exact FF.out
  clear hw2 c10 c6 c0 hlt hz p0 HK FF z y2 y3 hb' hc hbr
  have hf2 := HE.out.2.2.2.1
  have hT := topMF H2 hf2 h48
  have c5 := H2.cl' (o := 5) (by omega)
  have c7 := H2.cl' (o := 7) (by omega)
  simp only [rC] at c5 c7
  obtain ⟨fb, cap, efv, q1, q2, q3, p0, p1, p2, p3, p4, kl, ko⟩ := H2.tops hf2
  rw [efv] at c5
  obtain ⟨la, lc, el, hlc⟩ := kl.sl
  rw [el] at p1
  have hlt := H2.rlt
  obtain ⟨OH, m1, _⟩ := H2.hp
  have hD := fun n => depthMF (m1.same ((Fr.refl (fun _ => False) w2).drewN n))
  have HF : Hid _ := And.intro H2 F2
  obtain ⟨t, ht⟩ : ∃ t, t = r.length := ⟨_, rfl⟩
  rw [← ht] at c5 p1 p3 p4 q1 h48 hT
  have hti : (t : Int) < (t : Int) + 1 := by omega
  have Ht : Hid _ := ht
  obtain ⟨d, hde⟩ : ∃ d, d = M.rt.length := ⟨_, rfl⟩
  rw [← hde] at hD hd24
  have Hde : Hid _ := hde
  clear hde
  clear H2 F2 hf2 efv el ko kl p0 p2 ht m1 hlc q3
  go_wp2_with fail
  refine hT.mono ?_
  rintro v w3 ⟨rfl, rfl⟩
  clear hT
  go_wp2_with fail
  go_quiet (fail)
  go_wp2_with fail
  refine (hD _).mono ?_
  rintro v w4 ⟨rfl, rfl⟩
  clear hD c5 c7 p1 p3 p4 q1 q2 hlt
  go_upto_region 80 with fail
  generalize hw4 : World.drewN _ _ = w4
  have H4 : MR w4 rn hm C I V2 M col P cv iv ov fv g := by rw [← hw4]; exact HF.out.1.same ((Fr.refl (fun _ => False) _).drewN _)
  have F4 : Fr (fun c => c = rn) w w4 := by rw [← hw4]; exact HF.out.2.drewN _
  clear hw4 HF
  have hz4 : MZ w rn hm C I V2 M P w4 := HE.out.1.zs H4 F4
  have HZ : Hid _ := hz4
  clear H4 F4 hz4
  obtain ⟨⟨col5, cv5, iv5, ov5, fv5, g5, H5⟩, k5⟩ := HZ.out
  have hlt5 := H5.rlt
  have hq5 := need_ok H5 HE.out.2.2.2.1 HB.out.1 (by have h1 := HB.out; omega) (by have h1 := HB.out; have h2 := HE.out.2.2.2.2.2.2.2; omega) 1 0 (by have h1 := HE.out.2.2.2.2.1; omega) (by have h1 := HE.out.2.2.2.2.1; omega)
  rw [show ((1 : Nat) : Int) = 1 from rfl, show ((0 : Nat) : Int) = 0 from rfl] at hq5
  clear H5 k5
  go_wp2_with fail
  refine hq5.mono ?_
  rintro v wz ⟨rfl, n5, rfl⟩
  have HZ' : Hid (MZ w rn hm C I V2 M P (w4.drewN n5)) := MZ.then HZ.out (ME.z0 HZ.out.1 ((Fr.refl (fun _ => False) w4).drewN n5))
  clear hq5 hlt5 HZ
  have HZ := HZ'
  clear HZ'
  obtain ⟨⟨col6, cv6, iv6, ov6, fv6, g6, H6⟩, k6⟩ := HZ.out
  have hlt6 := H6.rlt
  have hq6 := vpopMF H6 HE.out.2.2.2.1 (by have h1 := HB.out; have h2 := HE.out.2.2.2.2.2.2.2; omega) (by have h1 := HE.out.2.2.2.2.1; omega) (by have h1 := HB.out; have h2 := HE.out.2.2.2.2.2.2.2; omega)
  clear H6 k6
  go_wp2_with fail
  refine hq6.mono ?_
  rintro v w6 ⟨rfl, h6⟩
  have HZ' : Hid (MZ w rn hm C I (dropO V2 1) M P w6) := MZ.then HZ.out h6
  clear hq6 hlt6 h6 HZ
  have HZ := HZ'
  clear HZ'
  obtain ⟨⟨col7, cv7, iv7, ov7, fv7, g7, H7⟩, k7⟩ := HZ.out
  have hlt7 := H7.rlt
  obtain ⟨cb, cc, ec, hcb, hcc⟩ := H7.code.all (by omega)
  have c0 := H7.cl' (o := 0) (by omega)
  simp only [rC] at c0
  rw [ec] at c0
  have q := u16F H7.code H7.cb hcl (pc + 1) (by omega)
  rw [ec, show ((pc + 1 : Nat) : Int) = (pc : Int) + 1 from rfl] at q
  have hq := fun n => vjumpMF (H7.same ((Fr.refl (fun _ => False) w6).drewN n)) (by rw [drop_fu2]; exact (by have h2 := HE.out.2.2.2.2.2.1; rw [h2]; exact hfu)) pc (u16V C (pc + 1))
  have hx2 : opn V2 0 = 0 := by have h2 := HE.out.2.2.2.2.2.1; rw [h2]; exact hx
  have Hx2 : Hid _ := hx2
  have yb : (opn V2 0 == 0) = true := by simpa using hx2
  have yb2 : (opn V2 0 != 0) = false := by simpa using hx2
  generalize opn V2 0 = x at yb yb2 ⊢
  clear H7 k7 ec hcc hx2 hx
  go_wp2_with fail
  refine q.mono ?_
  rintro v wz ⟨rfl, n, rfl⟩
  have HZ' : Hid (MZ w rn hm C I (dropO V2 1) M P (w6.drewN n)) := MZ.then HZ.out (ME.z0 HZ.out.1 ((Fr.refl (fun _ => False) w6).drewN n))
  clear HZ
  have HZ := HZ'
  go_wp2_with fail
  go_end0
  rw [show X1 = dropO V2 1 by rw [HE.out.2.1]; show (if opn V2 0 = 0 then _ else _, M).1 = _; rw [if_pos Hx2.out], show X2 = M by rw [HE.out.2.2.1]; exact rfl]
  exact MZ.t HZ.out
end
end Go.Proofs.Qxb6500281aGreat
