/- The model checker: variables. -/
import Derived.Test.Qxb6500277aGreatMC4
namespace Go.Proofs.Qxb6500277aGreat
open Go Go.RowKit

section
variable {w w' : World} {B : Nat} {A : Ma} {X : Cx} {cur : Nat} {s : Ck} {er po : Int} {fv vv : Value} {n : Nat}
set_option maxRecDepth 100000 in
set_option maxHeartbeats 8000000 in
theorem em_var (H : MXc w B A X cur s 0 0 fv vv) {b : Nat} {nx x : Int} {nm : ByteArray} {p : Int} (L : Lie A.ns b (flE b nx (.var nm p))) (hx : x = rtE b (.var nm p)) : Calls Tryz.prog 177 #[.pointer (some ⟨A.m, 0, none⟩), .int .i64 x] w (EMP w B A X cur s fv vv (ckE X b (.var nm p) s)) := by
  obtain rfl : x = (b : Nat) := by rw [hx]; simp [rtE, szE]
  have hn := L.one
  have hr : ckE X b (.var nm p) s = match fndV nm s.vs with | none => .bad 15 p | some i => Go.Proofs.Qxb6500277aGreat.note b (vAt s.vs i).ty (refer b (vAt s.vs i).slot s) := by
    simp only [ckE]
    cases fndV nm s.vs <;> rfl
  obtain ⟨-, r1, r2, r3, r4, r5, r6, r7, r8, r9, r10, hz, hlt, hltt, hltr⟩ := H.regs
  obtain ⟨hk, hnb, r0, n0, n1, n2, n3, n4, n5, n6, n7⟩ := H.node hn
  try simp only at n0 n1 n2 n3 n4 n5 n6 n7
  have ty0 := H.tyb.cell (o := b) hk
  have tyz := H.tyb.frozen
  have rf0 := H.rfb.cell (o := b) hk
  have rfz := H.rfb.frozen
  have h200 := H.le
  have hkl : ((b : Nat) : Int) < A.ns.length := by omega
  have hK0 : ((b : Nat) : Int) ≥ 0 := by omega
  have BX := boxN_blk w ⟨12, -1, -1, -1, nx, 0, p, nm⟩
  have FX := (Fr.refl (fun _ => False) w).alloc (boxN ⟨12, -1, -1, -1, nx, 0, p, nm⟩)
  have HA := H.same FX
  have HHA : Hid (MXc (w.alloc (boxN ⟨12, -1, -1, -1, nx, 0, p, nm⟩)) B A X cur s 0 0 fv vv ∧ Blk (w.alloc (boxN ⟨12, -1, -1, -1, nx, 0, p, nm⟩)) w.heap.size 8 (ndCell ⟨12, -1, -1, -1, nx, 0, p, nm⟩) ∧ Fr (fun _ => False) w (w.alloc (boxN ⟨12, -1, -1, -1, nx, 0, p, nm⟩))) := ⟨HA, BX, FX⟩
  have Hnew : Hid (∀ d, w.heap.size ≤ d → ¬ MSc A fv vv d) := H.new
  clear BX FX HA
  obtain ⟨va, vc, hvv⟩ := H.vs.sl
  have hvl := H.vl
  rw [hvv] at r4
  have Hr : Hid (_ = _) := hr
  have Hvv : Hid _ := hvv
  have HH : Hid (MXc w B A X cur s 0 0 fv vv) := H
  clear H L hx hr hvv
  go_enter Tryz.func177, Tryz.ntmps177
  go_wp2_with fail
  generalize hw0 : w.alloc _ = w0
  have HW0 : Hid (MXc w0 B A X cur s 0 0 fv vv ∧ Blk w0 w.heap.size 8 (ndCell ⟨12, -1, -1, -1, nx, 0, p, nm⟩) ∧ Fr (fun _ => False) w w0) := by rw [← hw0]; exact HHA.out
  clear hw0 HHA r1 r2 r3 r4 r5 r6 r7 r8 r9 r10 hz hlt hltt hltr hnb r0 n0 n1 n2 n3 n4 n5 n6 n7 ty0 tyz rf0 rfz
  go_loopg [7] s.vs.length (fun g iv wr => ∃ m : Nat, iv = .int .i64 ((m : Int) - 1) ∧ m ≤ g ∧ NoHit s.vs nm m ∧ Fr (fun _ => False) w0 wr)
  case atStart => exact ⟨s.vs.length, rfl, Nat.le_refl _, ⟨Nat.le_refl _, fun j h1 h2 => by omega⟩, Fr.refl _ _⟩
  case round =>
    obtain ⟨m, rfl, hm, hN, F⟩ := hrel
    obtain ⟨M0, BX0, F0⟩ := HW0.out
    have M1 := M0.same F
    have BX1 := BX0.frame F (fun h => h)
    have b6 := BX1.cell (o := 6) (by omega)
    have b7 := BX1.cell (o := 7) (by omega)
    simp only [ndCell] at b6 b7
    have bl := BX1.lt
    obtain ⟨-, d1, d2, d3, d4, d5, d6, d7, d8, d9, d10, dz, dl, dlt, dlr⟩ := M1.regs
    rw [Hvv.out] at d4
    have FF : Fr (fun _ => False) w wr := F0.trans F (fun _ _ h => h)
    cases m with
    | zero =>
      rw [show ((0 : Nat) : Int) - 1 = -1 from rfl]
      have z0 : decide ((-1 : Int) ≥ 0) = false := by decide
      have hf : fndV nm s.vs = none := lst_miss fun j hj => by simpa using hN.2 j (by omega) hj
      have HR : Hid (ckE X b (.var nm p) s = .bad 15 p) := by show _ = _; rw [Hr.out, hf]
      have HM : Hid (MXc wr B A X cur s 0 0 fv vv ∧ Fr (fun _ => False) w wr) := ⟨M1, FF⟩
      clear M1 M0 BX0 BX1 F F0 FF hf hN hm
      go_wp2_with fail
      go_quiet (fail)
      go_wp2_with fail
      generalize hw2 : wr.drewN _ = w2
      have M2 : MXc w2 B A X cur s 0 0 fv vv := hw2 ▸ HM.out.1.same ((Fr.refl _ _).drewN _)
      have F2 : Fr (fun _ => False) w w2 := hw2 ▸ HM.out.2.drewN _
      refine (failM_live M2 15 p).mono ?_
      rintro v w3 ⟨rfl, C3, k3⟩
      go_wp2_with fail
      go_ret
      exact (EMP.bad HR.out k3 (by decide) C3 (Kp.refl s)).pre F2
    | succ k =>
      rw [show ((k + 1 : Nat) : Int) - 1 = (k : Int) by omega]
      have hk' : k < s.vs.length := by have := hN.1; omega
      have z0 : decide ((k : Int) ≥ 0) = true := decide_eq_true (by omega)
      obtain ⟨vb, cap, e, hb, _, c0, c1, c2, c3⟩ := M1.var hk'
      have e2 := Hvv.out.symm.trans e
      injection e2 with e2 _ e3
      subst e2 e3
      have hk24 : (k : Int) < 24 := by omega
      have hkl2 : (k : Int) < (s.vs.length : Nat) := by omega
      by_cases en : (vAt s.vs k).name = nm
      · have y1 := strEq en
        have hf : fndV nm s.vs = some k := lst_hit hk' (by simpa using en) fun j h1 h2 => by simpa using hN.2 j (by omega) h2
        have HR : Hid (ckE X b (.var nm p) s = Go.Proofs.Qxb6500277aGreat.note b (vAt s.vs k).ty (refer b (vAt s.vs k).slot s)) := by show _ = _; rw [Hr.out, hf]
        have HM : Hid (MXc wr B A X cur s 0 0 fv vv ∧ Fr (fun _ => False) w wr) := ⟨M1, FF⟩
        have z1 : decide ((k : Int) < 0) = false := decide_eq_false (by omega)
        have rf1 := M1.rfb.cell (o := b) hk
        have rfz1 := M1.rfb.frozen
        have ty1 := M1.tyb.cell (o := b) hk
        have tyz1 := M1.tyb.frozen
        obtain ⟨x1, x2, x3, x4, x5, x6⟩ := M1.dis
        have vdd := M1.vd vb ⟨_, _, e⟩
        obtain ⟨v1, v2, v3, v4, v5⟩ := vdd
        have HN : Hid (∀ (w1 : World), MXc w1 B A X cur s 0 0 fv vv → MXc ((w1.setCell ⟨A.rb, b, none⟩ (.int .i64 (vAt s.vs k).slot)).setCell ⟨A.tb, b, none⟩ (.int .i64 (vAt s.vs k).ty)) B A X cur { refer b (vAt s.vs k).slot s with ty := s.ty.set b (vAt s.vs k).ty } 0 0 fv vv ∧ Fr (MSc A fv vv) w1 ((w1.setCell ⟨A.rb, b, none⟩ (.int .i64 (vAt s.vs k).slot)).setCell ⟨A.tb, b, none⟩ (.int .i64 (vAt s.vs k).ty))) := fun w1 C1 =>
          ⟨((C1.refer b _).1.note b _).1, (C1.refer b _).2.trans ((C1.refer b _).1.note b _).2 (fun _ _ h => h)⟩
        clear M1 M0 BX0 BX1 F F0 FF hf hN hm en e
        go_wp2_with fail
        go_quiet (fail)
        go_wp2_with fail
        refine wp_region_text (by kernel_rfl) (by kernel_rfl) ?_
        go_wp2_with fail
        refine ⟨by kernel_rfl, ?_⟩
        go_wp2_with fail
        go_ret
        exact (EMP.ok (HR.out.trans rfl) (HN.out _ (HM.out.1.same ((Fr.refl _ _).drewN _))).2 (HN.out _ (HM.out.1.same ((Fr.refl _ _).drewN _))).1).pre (HM.out.2.drewN _)
      · have y1 := strNe en
        have HN : Hid (NoHit s.vs nm k ∧ k + 1 ≤ gk) := ⟨⟨by omega, fun j h1 h2 => by
          by_cases ej : k = j
          · subst ej; exact en
          · exact hN.2 j (by omega) h2⟩, hm⟩
        have HF : Hid _ := F
        clear M1 M0 BX0 BX1 F F0 FF hN hm en e
        go_wp2_with fail
        go_quiet (fail)
        go_wp2_with fail
        go_roundg k
        case measure => have := HN.out.2; omega
        case rel => exact ⟨k, rfl, Nat.le_refl _, HN.out.1, HF.out.drewN _⟩
end
end Go.Proofs.Qxb6500277aGreat
