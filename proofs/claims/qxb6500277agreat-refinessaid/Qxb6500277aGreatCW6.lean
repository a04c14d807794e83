/- The real checker: fail, none, want, mayDeclare, declare, undo. -/
import Derived.Test.Qxb6500277aGreatCW4
import Derived.Test.Qxb6500277aGreatCW5
namespace Go.Proofs.Qxb6500277aGreat
open Go Go.RowKit

theorem mayD_fnd {s : Ck} (g : Good s) (nm : ByteArray) : (∃ i, i < s.vs.length ∧ (vAt s.vs i).level = s.lvl ∧ (vAt s.vs i).name = nm) ↔ ∃ e, fndV nm s.vs = some e ∧ (vAt s.vs e).level = s.lvl := by
  constructor
  · rintro ⟨i, h1, h2, h3⟩
    cases hf : fndV nm s.vs with
    | none => exact absurd h3 (by simpa using lst_none hf i h1)
    | some e =>
      obtain ⟨e1, e2, e3⟩ := lst_some hf
      refine ⟨e, rfl, ?_⟩
      have e4 : i ≤ e := Nat.le_of_not_lt fun hl => by simpa using absurd h3 (by simpa using e3 i hl h1)
      have := g.lv e e1
      by_cases ee : i = e
      · subst ee; exact h2
      · have := g.asc i e (by omega) e1
        omega
  · rintro ⟨e, h1, h2⟩
    obtain ⟨e1, e2, e3⟩ := lst_some h1
    exact ⟨e, e1, h2, by simpa using e2⟩
section
variable {w w' : World} {A : Ca} {X : Cx} {cur : Nat} {s : Ck} {er po : Int}
theorem CM.find (H : CM w A X cur s er po) {nm : ByteArray} (hs : nm.size ≤ 8) : Calls Tryz.prog 67 #[.pointer (some ⟨A.c, 1, none⟩), .string nm] w fun e w' => e = .returned (.int .i64 (oi (fndV nm s.vs))) ∧ ∃ m, w' = w.drewN m := by
  obtain ⟨f, b1, b2, _⟩ := H.blk
  exact findT b1 b2.tv (by omega) nm (by omega)
theorem CM.findF (H : CM w A X cur s er po) {nm : ByteArray} (hs : nm.size ≤ 8) : Calls Tryz.prog 67 #[.pointer (some ⟨A.c, 165, none⟩), .string nm] w fun e w' => e = .returned (.int .i64 (oi (fndF nm X.fs))) ∧ ∃ m, w' = w.drewN m := by
  obtain ⟨f, b1, b2, _⟩ := H.blk
  have := findT b1 b2.tf (by omega) nm (by omega)
  rw [fndV_nmV] at this
  exact this
theorem CM.drewN (H : CM w A X cur s er po) (m : Nat) : CM (w.drewN m) A X cur s er po := H.same ((Fr.refl _ _).drewN m)
theorem CM.errFr (e p : Int) : Fr (CS A) w ((w.setCell ⟨A.c, 418, none⟩ (.int .i64 e)).setCell ⟨A.c, 419, none⟩ (.int .i64 p)) := ((Fr.refl (CS A) w).setC A.c 418 (.int .i64 e) (fun _ => .inl rfl)).setC A.c 419 (.int .i64 p) (fun _ => .inl rfl)
set_option maxRecDepth 100000 in
set_option maxHeartbeats 1000000 in
theorem failC (H : CM w A X cur s er po) (e p : Int) : Calls Tryz.prog 86 #[.pointer (some ⟨A.c, 0, none⟩), .int .i64 e, .int .i64 p] w fun v w' => v = .returned (.bool false) ∧ CM w' A X cur s e p ∧ Fr (CS A) w w' := by
  obtain ⟨r0, r161, r162, r163, r164, r325, r414, r416, r417, r418, r419, hz⟩ := H.regs
  have hlt := H.blt.1
  have Hk : Hid (_ ∧ _) := ⟨H.setErr e p, CM.errFr (A := A) (w := w) e p⟩
  clear H
  go_enter Tryz.func86, Tryz.ntmps86
  go_wp2_with fail
  go_ret
  exact ⟨rfl, Hk.out⟩
set_option maxRecDepth 100000 in
set_option maxHeartbeats 1000000 in
theorem noneC (H : CM w A X cur s er po) (e p : Int) : Calls Tryz.prog 222 #[.pointer (some ⟨A.c, 0, none⟩), .int .i64 e, .int .i64 p] w fun v w' => v = .returned (.int .i64 (-1)) ∧ CM w' A X cur s e p ∧ Fr (CS A) w w' := by
  obtain ⟨r0, r161, r162, r163, r164, r325, r414, r416, r417, r418, r419, hz⟩ := H.regs
  have hlt := H.blt.1
  have Hk : Hid (_ ∧ _) := ⟨H.setErr e p, CM.errFr (A := A) (w := w) e p⟩
  clear H
  go_enter Tryz.func222, Tryz.ntmps222
  go_wp2_with fail
  go_ret
  exact ⟨rfl, Hk.out⟩
/-- expr over all expressions of at most n nodes. -/
def ExC (A : Ca) (X : Cx) (cur n : Nat) : Prop := ∀ (e : Exp), szE e ≤ n → TyE e → ∀ (w : World) (s : Ck) (b : Nat) (nx x : Int), CM w A X cur s 0 0 → Lie A.ns b (flE b nx e) → x = rtE b e → Calls Tryz.prog 191 #[.pointer (some ⟨A.c, 0, none⟩), .int .i64 x] w (EP w A X cur (ckE X b e s))
theorem rtE_nat (b : Nat) (e : Exp) : rtE b e = ((b + szE e - 1 : Nat) : Int) := by have := szE_pos e; unfold rtE; omega
set_option maxRecDepth 100000 in
set_option maxHeartbeats 2000000 in
theorem wantF {n : Nat} (I : ExC A X cur n) (e : Exp) (hn : szE e ≤ n) (ht : TyE e) (H : CM w A X cur s 0 0) {b : Nat} {nx x : Int} (L : Lie A.ns b (flE b nx e)) (hx : x = rtE b e) (t : Int) : Calls Tryz.prog 190 #[.pointer (some ⟨A.c, 0, none⟩), .int .i64 x, .int .i64 t] w (CB w A X cur (wantE X b e t s)) := by
  have hE := I e hn ht w s b nx x H L hx
  have hv := H.vt
  rw [rtE_nat] at hx
  obtain ⟨k, hk⟩ : ∃ k, k = b + szE e - 1 := ⟨_, rfl⟩
  rw [← hk] at hx
  subst hx
  obtain ⟨nd, h1, h2, h3, h4⟩ := L.root
  rw [← hk] at h1
  have hkeep := keepE X e b s
  have Hw : Hid (wantE X b e t s = (ckE X b e s).bind fun u s => isT u t (poE e) s) := rfl
  clear H hk L
  go_enter Tryz.func190, Tryz.ntmps190
  go_wp2_with fail
  refine hE.mono ?_
  rintro v w1 ⟨k1, h⟩
  clear hE
  cases hr : ckE X b e s with
  | bad er po =>
    rw [hr] at h Hw
    obtain ⟨rfl, h0, s', C⟩ := h
    clear hkeep
    go_wp2_with fail
    go_ret
    refine ⟨k1, ?_⟩
    rw [Hw.out]
    exact ⟨rfl, h0, s', C⟩
  | ok u s1 =>
    rw [hr] at h Hw
    obtain ⟨rfl, C⟩ := h
    obtain ⟨u0, u8⟩ := (hkeep u s1 hr).2.2 hv ht
    have z0 : decide (u < 0) = false := decide_eq_false (by omega)
    clear hkeep
    by_cases e1 : u = t
    · subst e1
      go_wp2_with fail
      go_ret
      refine ⟨k1, ?_⟩
      rw [Hw.out]
      simp only [Rc.bind_ok, isT, if_true]
      exact ⟨rfl, C⟩
    · have z1 : (u != t) = true := by simpa using e1
      have z2 : (u == t) = false := by simpa using e1
      obtain ⟨hk', hnb, r415, n0, n1, n2, n3, n4, n5, n6, n7, n8⟩ := C.node h1
      rw [h3] at n6
      have hF := failC C 17 (poE e)
      have hlt := C.blt.1
      have hle := C.le
      have hkl : (k : Int) < A.ns.length := by omega
      have Hz : Hid (¬ u = t) := e1
      clear C e1 hle
      go_wp2_with fail
      refine hF.mono ?_
      rintro v w2 ⟨rfl, C2, k2⟩
      go_wp2_with fail
      go_ret
      refine ⟨k1.trans k2 (fun _ _ h => h), ?_⟩
      rw [Hw.out]
      simp only [Rc.bind_ok, isT]
      rw [if_neg Hz.out]
      exact ⟨rfl, by decide, s1, C2⟩
end
end Go.Proofs.Qxb6500277aGreat
