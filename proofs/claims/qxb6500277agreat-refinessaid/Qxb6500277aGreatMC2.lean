/- The model checker: fn, is; expr behind a failure. -/
import Derived.Test.Qxb6500277aGreatMC1
namespace Go.Proofs.Qxb6500277aGreat
open Go Go.RowKit

section
variable {w w' : World} {B : Nat} {A : Ma} {X : Cx} {cur : Nat} {s : Ck} {er po : Int} {fv vv : Value} {S : Nat → Prop}
theorem zip_len (H : MXc w B A X cur s er po fv vv) : (X.fs.zip s.lim).length = X.fs.length := by simp [H.lim]
theorem zip_get (H : MXc w B A X cur s er po fv vv) {i : Nat} (hi : i < X.fs.length) : ∃ h : i < (X.fs.zip s.lim).length, (X.fs.zip s.lim)[i] = (fAt X.fs i, lAt s.lim i) := by
  refine ⟨by rw [zip_len H]; exact hi, ?_⟩
  rw [List.getElem_zip]
  unfold fAt lAt
  simp [List.getD_eq_getElem?_getD, hi, H.lim]
/-- The record of function i. -/
theorem MXc.func (H : MXc w B A X cur s er po fv vv) {i : Nat} (hi : i < X.fs.length) : ∃ b cap, fv = .slice (some ⟨b, 0, none⟩) X.fs.length cap ∧ b < w.heap.size ∧ isBlk fv b ∧ w.cell? ⟨b, i * 7, none⟩ = some (.int .i64 (fAt X.fs i).node) ∧ w.cell? ⟨b, i * 7 + 1, none⟩ = some (.int .i64 (fAt X.fs i).ret) ∧ w.cell? ⟨b, i * 7 + 2, none⟩ = some (.int .i64 (fAt X.fs i).pi) ∧ w.cell? ⟨b, i * 7 + 3, none⟩ = some (.int .i64 (fAt X.fs i).pr) ∧
    w.cell? ⟨b, i * 7 + 4, none⟩ = some (.int .i64 (lAt s.lim i).1) ∧ w.cell? ⟨b, i * 7 + 5, none⟩ = some (.int .i64 (lAt s.lim i).2) ∧ w.cell? ⟨b, i * 7 + 6, none⟩ = some (.string (fAt X.fs i).name) ∧ ∀ o, w.frozen? ⟨b, o, none⟩ = false := by
  obtain ⟨hl, he⟩ := zip_get H hi
  obtain ⟨b, cap, e, hc, hb, hcell, hz⟩ := H.fs.get hl
  rw [he] at hcell
  rw [zip_len H] at e
  exact ⟨b, cap, e, hb, isBlk_sl e, hcell 0 (by omega), hcell 1 (by omega), hcell 2 (by omega), hcell 3 (by omega), hcell 4 (by omega), hcell 5 (by omega), hcell 6 (by omega), hz⟩
theorem MXc.var (H : MXc w B A X cur s er po fv vv) {i : Nat} (hi : i < s.vs.length) : ∃ b cap, vv = .slice (some ⟨b, 0, none⟩) s.vs.length cap ∧ b < w.heap.size ∧ isBlk vv b ∧ w.cell? ⟨b, i * 4, none⟩ = some (.string (vAt s.vs i).name) ∧ w.cell? ⟨b, i * 4 + 1, none⟩ = some (.int .i64 (vAt s.vs i).ty) ∧ w.cell? ⟨b, i * 4 + 2, none⟩ = some (.int .i64 (vAt s.vs i).slot) ∧ w.cell? ⟨b, i * 4 + 3, none⟩ = some (.int .i64 (vAt s.vs i).level) := by
  obtain ⟨b, cap, e, hc, hb, hcell⟩ := H.vs.get hi
  exact ⟨b, cap, e, hb, isBlk_sl e, hcell 0 (by omega), hcell 1 (by omega), hcell 2 (by omega), hcell 3 (by omega)⟩
theorem fr7_blk (w : World) (h : Fh) (l : Nat × Nat) : Blk (w.alloc (.cells #[.int .i64 h.node, .int .i64 h.ret, .int .i64 h.pi, .int .i64 h.pr, .int .i64 l.1, .int .i64 l.2, .string h.name] 109)) w.heap.size 7 (frC (h, l)) := Blk.new w _ _ _ fun o ho => by
  have ho : o < 7 := ho
  rcases lt7c ho with rfl | rfl | rfl | rfl | rfl | rfl | rfl <;> rfl
set_option maxRecDepth 100000 in
set_option maxHeartbeats 4000000 in
theorem fnM (H : MXc w B A X cur s er po fv vv) (nm : ByteArray) : Calls Tryz.prog 53 #[.pointer (some ⟨A.m, 0, none⟩), .string nm] w fun e w' => e = .returned (.int .i64 (oi (fndF nm X.fs))) ∧ Fr (fun _ => False) w w' := by
  obtain ⟨-, r1, r2, r3, r4, r5, r6, r7, r8, r9, r10, hz, hlt, -, -⟩ := H.regs
  obtain ⟨fa, fc, hfv⟩ := H.fs.sl
  rw [zip_len H] at hfv
  have hx8 := H.xok.le
  have HH : Hid (MXc w B A X cur s er po fv vv) := H
  rw [hfv] at r3
  clear H
  go_enter Tryz.func53, Tryz.ntmps53
  go_wp2_with fail
  clear r1 r2 r3 r4 r5 r6 r7 r8 r9 r10 hz hlt
  go_loopg [12] X.fs.length (fun g iv wr => ∃ i : Nat, iv = .int .i64 i ∧ i + g = X.fs.length ∧ (∀ j, j < i → (fAt X.fs j).name ≠ nm) ∧ Fr (fun _ => False) w wr)
  case atStart => exact ⟨0, rfl, by omega, fun j hj => by omega, Fr.refl _ _⟩
  case round =>
    obtain ⟨i, rfl, hg, hno, F⟩ := hrel
    have Hg : Hid _ := hg
    have H2 := HH.out.same F
    by_cases hi : i < X.fs.length
    · have z0 : decide ((i : Int) < ((X.fs.length : Nat) : Int)) = true := decide_eq_true (by omega)
      obtain ⟨b, cap, e, hb, _, c0, c1, c2, c3, c4, c5, c6, cz⟩ := H2.func hi
      have e2 := hfv.symm.trans e
      injection e2 with e2 _ e3
      subst e2 e3
      have hi8 : i < 8 := by omega
      have Hno : Hid _ := hno
      have HF : Hid _ := F.alloc (.cells #[.int .i64 (fAt X.fs i).node, .int .i64 (fAt X.fs i).ret, .int .i64 (fAt X.fs i).pi, .int .i64 (fAt X.fs i).pr, .int .i64 (lAt s.lim i).1, .int .i64 (lAt s.lim i).2, .string (fAt X.fs i).name] 109)
      by_cases en : (fAt X.fs i).name = nm
      · have y1 := strEq en
        have Hr : Hid (fndF nm X.fs = some i) := fndF_one H2.xok hi en
        clear hg hno H2 F en e
        go_wp2_with fail
        go_ret
        exact ⟨by rw [Hr.out]; rfl, HF.out⟩
      · have y1 := strNe en
        have Hen : Hid _ := en
        clear hg hno H2 F en e
        go_wp2_with fail
        go_roundg (gk - 1)
        case measure => have := Hg.out; omega
        case rel => exact ⟨i + 1, by simp, by have := Hg.out; omega, fun j hj => by
            by_cases ej : j = i
            · subst ej; exact Hen.out
            · exact Hno.out j (by omega), HF.out⟩
    · have z0 : decide ((i : Int) < ((X.fs.length : Nat) : Int)) = false := decide_eq_false (by omega)
      have z1 : decide (i < X.fs.length) = false := decide_eq_false hi
      have Hr : Hid (fndF nm X.fs = none) := lst_miss fun j hj => by simpa using hno j (by omega)
      clear hg hi hno H2
      go_wp2_with fail
      go_ret
      exact ⟨by rw [Hr.out]; rfl, F⟩
/-- What expr of the model answers. -/
def EMP (w : World) (B : Nat) (A : Ma) (X : Cx) (cur : Nat) (s : Ck) (fv vv : Value) (r : Rc Int) (e : Ending) (w' : World) : Prop := Fr (MSc A fv vv) w w' ∧ match r with
  | .ok t s' => e = .returned (.int .i64 t) ∧ MXc w' B A X cur s' 0 0 fv vv
  | .bad er po => e = .returned (.int .i64 (-1)) ∧ er ≠ 0 ∧ ∃ s', MXc w' B A X cur s' er po fv vv ∧ Kp s s'
/-- What 'is' of the model leaves. -/
def IMP (w : World) (B : Nat) (A : Ma) (X : Cx) (cur : Nat) (s : Ck) (fv vv : Value) (r : Rc Unit) (e : Ending) (w' : World) : Prop := Fr (MSc A fv vv) w w' ∧ e = .returned (.tuple #[]) ∧ match r with
  | .ok _ s' => MXc w' B A X cur s' 0 0 fv vv
  | .bad er po => er ≠ 0 ∧ ∃ s', MXc w' B A X cur s' er po fv vv ∧ Kp s s'
theorem EMP.bad {r : Rc Int} {e p : Int} (hr : r = .bad e p) (k : Fr (MSc A fv vv) w w') (h0 : e ≠ 0) {s' : Ck} (C : MXc w' B A X cur s' e p fv vv) (hk : Kp s s') : EMP w B A X cur s fv vv r (.returned (.int .i64 (-1))) w' := ⟨k, by rw [hr]; exact ⟨rfl, h0, s', C, hk⟩⟩
theorem EMP.ok {r : Rc Int} {t : Int} {s' : Ck} (hr : r = .ok t s') (k : Fr (MSc A fv vv) w w') (C : MXc w' B A X cur s' 0 0 fv vv) : EMP w B A X cur s fv vv r (.returned (.int .i64 t)) w' := ⟨k, by rw [hr]; exact ⟨rfl, C⟩⟩
theorem IMP.bad {r : Rc Unit} {e p : Int} (hr : r = .bad e p) (k : Fr (MSc A fv vv) w w') (h0 : e ≠ 0) {s' : Ck} (C : MXc w' B A X cur s' e p fv vv) (hk : Kp s s') : IMP w B A X cur s fv vv r (.returned (.tuple #[])) w' := ⟨k, rfl, by rw [hr]; exact ⟨h0, s', C, hk⟩⟩
theorem IMP.ok {r : Rc Unit} {u : Unit} {s' : Ck} (hr : r = .ok u s') (k : Fr (MSc A fv vv) w w') (C : MXc w' B A X cur s' 0 0 fv vv) : IMP w B A X cur s fv vv r (.returned (.tuple #[])) w' := ⟨k, rfl, by rw [hr]; exact C⟩
set_option maxRecDepth 100000 in
set_option maxHeartbeats 2000000 in
theorem exprM_dead (H : MXc w B A X cur s er po fv vv) (h0 : er ≠ 0) (x : Int) : Calls Tryz.prog 177 #[.pointer (some ⟨A.m, 0, none⟩), .int .i64 x] w fun e w' => e = .returned (.int .i64 (-1)) ∧ w' = w := by
  obtain ⟨-, r1, r2, r3, r4, r5, r6, r7, r8, r9, r10, hz, hlt, -, -⟩ := H.regs
  have z0 : (er != 0) = true := by simpa using h0
  have z1 : (er == 0) = false := by simpa using h0
  clear H
  go_enter Tryz.func177, Tryz.ntmps177
  go_wp2_with fail
  go_ret
  exact ⟨rfl, rfl⟩
set_option maxRecDepth 100000 in
set_option maxHeartbeats 2000000 in
theorem isM_dead (H : MXc w B A X cur s er po fv vv) (h0 : er ≠ 0) (x t : Int) : Calls Tryz.prog 176 #[.pointer (some ⟨A.m, 0, none⟩), .int .i64 x, .int .i64 t] w fun e w' => e = .returned (.tuple #[]) ∧ w' = w := by
  obtain ⟨-, r1, r2, r3, r4, r5, r6, r7, r8, r9, r10, hz, hlt, -, -⟩ := H.regs
  have hE := exprM_dead H h0 x
  have z0 : (er != 0) = true := by simpa using h0
  have z1 : (er == 0) = false := by simpa using h0
  clear H
  go_enter Tryz.func176, Tryz.ntmps176
  go_wp2_with fail
  refine hE.mono ?_
  rintro e w1 ⟨rfl, rfl⟩
  go_wp2_with fail
  go_end0
  exact ⟨rfl, rfl⟩
def ExM (B : Nat) (A : Ma) (X : Cx) (cur n : Nat) (fv vv : Value) : Prop := ∀ (e : Exp), szE e ≤ n → TyE e → ∀ (w : World) (s : Ck) (b : Nat) (nx x : Int), MXc w B A X cur s 0 0 fv vv → Lie A.ns b (flE b nx e) → x = rtE b e → Calls Tryz.prog 177 #[.pointer (some ⟨A.m, 0, none⟩), .int .i64 x] w (EMP w B A X cur s fv vv (ckE X b e s))
set_option maxRecDepth 100000 in
set_option maxHeartbeats 2000000 in
theorem isM {n : Nat} (I : ExM B A X cur n fv vv) (e : Exp) (hn : szE e ≤ n) (ht : TyE e) (H : MXc w B A X cur s 0 0 fv vv) {b : Nat} {nx x : Int} (L : Lie A.ns b (flE b nx e)) (hx : x = rtE b e) (t : Int) : Calls Tryz.prog 176 #[.pointer (some ⟨A.m, 0, none⟩), .int .i64 x, .int .i64 t] w (IMP w B A X cur s fv vv (wantE X b e t s)) := by
  have hE := I e hn ht w s b nx x H L hx
  rw [rtE_nat] at hx
  obtain ⟨k, hk⟩ : ∃ k, k = b + szE e - 1 := ⟨_, rfl⟩
  rw [← hk] at hx
  subst hx
  obtain ⟨nd, h1, h2, h3, h4⟩ := L.root
  rw [← hk] at h1
  have hkeep := keepE X e b s
  have Hw : Hid (wantE X b e t s = (ckE X b e s).bind fun u s => isT u t (poE e) s) := rfl
  clear H hk L
  go_enter Tryz.func176, Tryz.ntmps176
  go_wp2_with fail
  refine hE.mono ?_
  rintro v w1 ⟨k1, h⟩
  clear hE
  cases hr : ckE X b e s with
  | bad er po =>
    rw [hr] at h Hw
    obtain ⟨rfl, h0, s', C, kp⟩ := h
    obtain ⟨-, r1, r2, r3, r4, r5, r6, r7, r8, r9, r10, hz, hlt, -, -⟩ := C.regs
    have z0 : (er == 0) = false := by simpa using h0
    have HC : Hid (MXc w1 B A X cur s' er po fv vv) := C
    have H0 : Hid _ := h0
    clear hkeep C h0
    go_wp2_with fail
    go_end0
    exact IMP.bad (by rw [Hw.out]; rfl) k1 H0.out HC.out kp
  | ok u s1 =>
    rw [hr] at h Hw
    obtain ⟨rfl, C⟩ := h
    obtain ⟨-, r1, r2, r3, r4, r5, r6, r7, r8, r9, r10, hz, hlt, -, -⟩ := C.regs
    have kp := (hkeep u s1 hr).1.k
    by_cases e1 : u = t
    · subst e1
      have HC : Hid (MXc w1 B A X cur s1 0 0 fv vv) := C
      clear hkeep C
      go_wp2_with fail
      go_end0
      exact IMP.ok (u := ()) (by rw [Hw.out]; simp only [Rc.bind_ok, isT, if_true]) k1 HC.out
    · have z1 : (u != t) = true := by simpa using e1
      have z2 : (u == t) = false := by simpa using e1
      obtain ⟨hk', hnb, r415, n0, n1, n2, n3, n4, n5, n6, n7⟩ := C.node h1
      rw [h3] at n6
      have hF := failM_live C 17 (poE e)
      have hle := C.le
      have hkl : (k : Int) < A.ns.length := by omega
      have Hz : Hid (¬ u = t) := e1
      have Hkp : Hid _ := kp
      clear C e1 hle hkeep kp
      go_wp2_with fail
      refine hF.mono ?_
      rintro v w2 ⟨rfl, C2, k2⟩
      go_wp2_with fail
      go_end0
      exact IMP.bad (by rw [Hw.out]; simp only [Rc.bind_ok, isT]; rw [if_neg Hz.out]) (k1.trans k2 (fun _ _ h => h)) (by decide) C2 Hkp.out
end
end Go.Proofs.Qxb6500277aGreat
