/- The real checker: clear, mainIsThere, refused, New. -/
import Derived.Test.Qxb6500277aGreatCB4
namespace Go.Proofs.Qxb6500277aGreat
open Go Go.RowKit

section
variable {w w' : World} {A : Ca} {X : Cx} {cur : Nat} {s : Ck} {er po : Int} {n : Nat}
def blank (ty rf : List Int) : Ck := ⟨[], 0, 0, 0, [], ty, rf⟩
set_option maxRecDepth 100000 in
set_option maxHeartbeats 4000000 in
theorem clearC {c p : Nat} {f : Nat → Value} (B : Blk w c 420 f) (h0 : f 0 = .pointer (some ⟨p, 0, none⟩)) : Calls Tryz.prog 40 #[.pointer (some ⟨c, 0, none⟩)] w fun e w' => e = .returned (.tuple #[]) ∧ (∃ f', Blk w' c 420 f' ∧ (∀ ty rf, RF f' p ⟨[], []⟩ 0 (blank ty rf) 0 0) ∧ f' 415 = f 415 ∧ f' 416 = f 416 ∧ f' 417 = f 417) ∧ Fr (fun b => b = c) w w' := by
  have hlt := B.lt
  have K1 := clearT (o := 1) B (by omega)
  have H0 : Hid _ := h0
  clear B h0
  go_enter Tryz.func40, Tryz.ntmps40
  go_wp2_with fail
  refine K1.mono ?_
  rintro e w1 ⟨rfl, ⟨f1, B1, T1, e1⟩, F1⟩
  have hl1 := B1.lt
  have K2 := clearT (o := 165) B1 (by omega)
  have HT : Hid (Tab f1 1 [] ∧ ∀ k, k < 1 ∨ 1 + 161 ≤ k → f1 k = f k) := ⟨T1, e1⟩
  clear K1 T1 e1 B1
  go_wp2_with fail
  refine K2.mono ?_
  rintro e w2 ⟨rfl, ⟨f2, B2, T2, e2⟩, F2⟩
  have hl2 := B2.lt
  have hz := B2.frozen
  have c1 := B2.cell (o := 162) (by omega)
  have c2 := B2.cell (o := 163) (by omega)
  have c3 := B2.cell (o := 164) (by omega)
  have c4 := B2.cell (o := 414) (by omega)
  have c5 := B2.cell (o := 418) (by omega)
  have c6 := B2.cell (o := 419) (by omega)
  have B3 := (((((B2.set 162 (.int .i64 0)).set 163 (.int .i64 0)).set 164 (.int .i64 0)).set 414 (.int .i64 0)).set 418 (.int .i64 0)).set 419 (.int .i64 0)
  have F3 := ((((((F1.trans F2 (fun _ _ h => h)).setC c 162 (.int .i64 0) (fun _ => rfl)).setC c 163 (.int .i64 0) (fun _ => rfl)).setC c 164 (.int .i64 0) (fun _ => rfl)).setC c 414 (.int .i64 0) (fun _ => rfl)).setC c 418 (.int .i64 0) (fun _ => rfl)).setC c 419 (.int .i64 0) (fun _ => rfl)
  have HB : Hid (_ ∧ _) := ⟨B3, F3⟩
  have HT2 : Hid (Tab f2 165 [] ∧ ∀ k, k < 165 ∨ 165 + 161 ≤ k → f2 k = f1 k) := ⟨T2, e2⟩
  clear B3 F3 T2 e2 B2 F1 F2 K2
  go_wp2_with fail
  go_end0
  obtain ⟨T1, e1⟩ := HT.out
  obtain ⟨T2, e2⟩ := HT2.out
  have far : ∀ k, k ≠ 162 → k ≠ 163 → k ≠ 164 → k ≠ 414 → k ≠ 418 → k ≠ 419 → upd (upd (upd (upd (upd (upd f2 162 (.int .i64 0)) 163 (.int .i64 0)) 164 (.int .i64 0)) 414 (.int .i64 0)) 418 (.int .i64 0)) 419 (.int .i64 0) k = f2 k := fun k a b c d e f => by
    rw [upd_other _ _ _ _ f, upd_other _ _ _ _ e, upd_other _ _ _ _ d, upd_other _ _ _ _ c, upd_other _ _ _ _ b, upd_other _ _ _ _ a]
  refine ⟨rfl, ⟨_, HB.out.1, fun ty rf => ⟨?_, (T1.congr fun k k1 k2 => ?_), ?_, ?_, ?_, (T2.congr fun k k1 k2 => far k (by omega) (by omega) (by omega) (by omega) (by omega) (by omega)), (fun i hi => by cases hi), (fun i hi => by cases hi), ?_, ?_, ?_⟩, ?_, ?_, ?_⟩, HB.out.2⟩
  · rw [far 0 (by omega) (by omega) (by omega) (by omega) (by omega) (by omega), e2 0 (by omega), e1 0 (by omega)]; exact H0.out
  · rw [far k (by omega) (by omega) (by omega) (by omega) (by omega) (by omega), e2 k (by omega)]
  · rw [upd_other _ _ _ _ (by omega), upd_other _ _ _ _ (by omega), upd_other _ _ _ _ (by omega), upd_other _ _ _ _ (by omega), upd_other _ _ _ _ (by omega), upd_same]; rfl
  · rw [upd_other _ _ _ _ (by omega), upd_other _ _ _ _ (by omega), upd_other _ _ _ _ (by omega), upd_other _ _ _ _ (by omega), upd_same]; rfl
  · rw [upd_other _ _ _ _ (by omega), upd_other _ _ _ _ (by omega), upd_other _ _ _ _ (by omega), upd_same]; rfl
  · rw [upd_other _ _ _ _ (by omega), upd_other _ _ _ _ (by omega), upd_same]; rfl
  · rw [upd_other _ _ _ _ (by omega), upd_same]
  · rw [upd_same]
  · rw [far 415 (by omega) (by omega) (by omega) (by omega) (by omega) (by omega), e2 415 (by omega), e1 415 (by omega)]
  · rw [far 416 (by omega) (by omega) (by omega) (by omega) (by omega) (by omega), e2 416 (by omega), e1 416 (by omega)]
  · rw [far 417 (by omega) (by omega) (by omega) (by omega) (by omega) (by omega), e2 417 (by omega), e1 417 (by omega)]
/-- Where 'main' fails. -/
def mainT (X : Cx) (gs : List Fnc) (len : Int) : Option Int := match fndF mainB X.fs with
  | none => some len
  | some m => if (fAt X.fs m).pi + (fAt X.fs m).pr ≠ 0 ∨ (fAt X.fs m).ret ≠ 0 then some ((gs[m]?.map (·.p)).getD 0) else none
def CMn (w : World) (A : Ca) (X : Cx) (cur : Nat) (s : Ck) (r : Option Int) (e : Ending) (w' : World) : Prop := Fr (CS A) w w' ∧ match r with
  | none => e = .returned (.bool true) ∧ CM w' A X cur s 0 0
  | some p => e = .returned (.bool false) ∧ CM w' A X cur s 20 p
theorem CMn.bad {r : Option Int} {p : Int} (hr : r = some p) (k : Fr (CS A) w w') (C : CM w' A X cur s 20 p) : CMn w A X cur s r (.returned (.bool false)) w' := ⟨k, by rw [hr]; exact ⟨rfl, C⟩⟩
theorem CMn.ok {r : Option Int} (hr : r = none) (k : Fr (CS A) w w') (C : CM w' A X cur s 0 0) : CMn w A X cur s r (.returned (.bool true)) w' := ⟨k, by rw [hr]; exact ⟨rfl, C⟩⟩
set_option maxRecDepth 100000 in
set_option maxHeartbeats 8000000 in
theorem mainC (H : CM w A X cur s 0 0) {gs : List Fnc} (L : Lie A.ns 0 (flFs 0 gs)) (hH : HdsAt X 0 0 gs) (len : Int) : Calls Tryz.prog 66 #[.pointer (some ⟨A.c, 0, none⟩), .int .i64 len] w (CMn w A X cur s (mainT X gs len)) := by
  have hF := H.findF (nm := mainB) (by decide)
  have hlt := H.blt.1
  have h200 := H.le
  have hx8 := H.xok.le
  have HH : Hid (CM w A X cur s 0 0) := H
  clear H
  go_enter Tryz.func66, Tryz.ntmps66
  go_wp2_with fail
  refine Calls.mono hF ?_
  rintro e w1 ⟨rfl, m, rfl⟩
  clear hF
  cases hf : fndF mainB X.fs with
  | none =>
    have HR : Hid (mainT X gs len = some len) := by show _ = _; unfold mainT; rw [hf]
    rw [show oi none = -1 from rfl]
    clear hf
    go_wp2_with fail
    refine (failC (HH.out.drewN m) 20 len).mono ?_
    rintro v w3 ⟨rfl, C3, k3⟩
    go_wp2_with fail
    go_ret
    exact CMn.bad HR.out ((CS_drewN m).trans k3 (fun _ _ h => h)) C3
  | some i =>
    have hr : mainT X gs len = if (fAt X.fs i).pi + (fAt X.fs i).pr ≠ 0 ∨ (fAt X.fs i).ret ≠ 0 then some ((gs[i]?.map (·.p)).getD 0) else none := by unfold mainT; rw [hf]
    have hi : i < X.fs.length := (lst_some hf).1
    have hi8 : i < 8 := by omega
    rw [show oi (some i) = (i : Int) from rfl]
    have z1 : decide ((i : Int) < 0) = false := decide_eq_false (by omega)
    have hg := hH.pre
    obtain ⟨f, J, nd, g1, g2, g3, g4⟩ := hH.get gs 0 0 L i (by omega)
    rw [Nat.zero_add] at g2
    rw [g1] at hr
    simp only [Option.map_some, Option.getD_some] at hr
    have C := HH.out.drewN m
    generalize hw1 : w.drewN m = w1 at *
    have F1 : Fr (CS A) w w1 := hw1 ▸ CS_drewN m
    clear HH hw1 hlt
    obtain ⟨f0', f1', f2', f3', f4', f5', f6'⟩ := C.func hi
    obtain ⟨hk, hnb, r415, n0, n1, n2, n3, n4, n5, n6, n7, n8⟩ := C.node g3
    rw [g2] at f0'
    rw [g4] at n6
    have hlt := C.blt.1
    have hJi : (J : Int) < A.ns.length := by omega
    obtain ⟨q4, qi, qr⟩ := C.xok.p4 i hi
    have hcnt := cIR (pAt X.pt i)
    have hpi : (fAt X.fs i).pi ≤ 4 := by omega
    have hpr : (fAt X.fs i).pr ≤ 4 := by omega
    have Hg2 : Hid _ := g2
    have Hg3 : Hid _ := g3
    have Hg4 : Hid _ := g4
    clear hf hg g1 g2 g3 g4 qi qr hcnt
    by_cases h1 : (fAt X.fs i).pi + (fAt X.fs i).pr = 0
    · have e1 : (((fAt X.fs i).pi : Int) + ((fAt X.fs i).pr : Int) != 0) = false := by simp; omega
      have e2 : (((fAt X.fs i).pi : Int) + ((fAt X.fs i).pr : Int) == 0) = true := by simp; omega
      by_cases h2 : (fAt X.fs i).ret = 0
      · rw [if_neg (by simp [h1, h2])] at hr
        rw [h2] at f1'
        have HR : Hid (_ = _) := hr
        have HC : Hid (CM w1 A X cur s 0 0) := C
        clear hr h1 h2 C
        go_wp2_with fail
        go_quiet (fail)
        go_wp2_with fail
        go_ret
        exact CMn.ok HR.out (F1.trans (CS_drewN _) (fun _ _ h => h)) (HC.out.drewN _)
      · rw [if_pos (.inr h2)] at hr
        have e3 : ((fAt X.fs i).ret != 0) = true := by simpa using h2
        have e4 : ((fAt X.fs i).ret == 0) = false := by simpa using h2
        have HR : Hid (_ = _) := hr
        have HC : Hid (CM w1 A X cur s 0 0) := C
        clear hr h1 h2 C
        go_wp2_with fail
        go_quiet (fail)
        go_wp2_with fail
        generalize hw2 : w1.drewN _ = w2
        have C2 : CM w2 A X cur s 0 0 := hw2 ▸ HC.out.drewN _
        have F2 : Fr (CS A) w w2 := F1.trans (hw2 ▸ CS_drewN _) (fun _ _ h => h)
        clear HC F1 f0' f1' f2' f3' f4' f5' f6' hnb r415 n0 n1 n2 n3 n4 n5 n6 n7 hlt hw2
        obtain ⟨f0', f1', f2', f3', f4', f5', f6'⟩ := C2.func hi
        obtain ⟨_, hnb, r415, n0, n1, n2, n3, n4, n5, n6, n7, _⟩ := C2.node Hg3.out
        rw [Hg2.out] at f0'
        rw [Hg4.out] at n6
        have hlt := C2.blt.1
        have hN := failC (C2.same ((Fr.refl _ _).drew)) 20 f.p
        have HF : Hid _ := F2
        clear C2 F2
        refine wp_region_text (by kernel_rfl) (by kernel_rfl) ?_
        go_wp2_with fail
        refine hN.mono ?_
        rintro v w3 ⟨rfl, C3, k3⟩
        go_wp2_with fail
        refine ⟨by kernel_rfl, ?_⟩
        go_wp2_with fail
        go_ret
        exact CMn.bad HR.out ((HF.out.drew).trans k3 (fun _ _ h => h)) C3
    · rw [if_pos (.inl h1)] at hr
      have e1 : (((fAt X.fs i).pi : Int) + ((fAt X.fs i).pr : Int) != 0) = true := by simp; omega
      have e2 : (((fAt X.fs i).pi : Int) + ((fAt X.fs i).pr : Int) == 0) = false := by simp; omega
      have HR : Hid (_ = _) := hr
      have HC : Hid (CM w1 A X cur s 0 0) := C
      clear hr h1 C
      go_wp2_with fail
      go_quiet (fail)
      go_wp2_with fail
      generalize hw2 : w1.drewN _ = w2
      have C2 : CM w2 A X cur s 0 0 := hw2 ▸ HC.out.drewN _
      have F2 : Fr (CS A) w w2 := F1.trans (hw2 ▸ CS_drewN _) (fun _ _ h => h)
      clear HC F1 f0' f1' f2' f3' f4' f5' f6' hnb r415 n0 n1 n2 n3 n4 n5 n6 n7 hlt hw2
      obtain ⟨f0', f1', f2', f3', f4', f5', f6'⟩ := C2.func hi
      obtain ⟨_, hnb, r415, n0, n1, n2, n3, n4, n5, n6, n7, _⟩ := C2.node Hg3.out
      rw [Hg2.out] at f0'
      rw [Hg4.out] at n6
      have hlt := C2.blt.1
      have hN := failC (C2.same ((Fr.refl _ _).drew)) 20 f.p
      have HF : Hid _ := F2
      clear C2 F2
      refine wp_region_text (by kernel_rfl) (by kernel_rfl) ?_
      go_wp2_with fail
      refine hN.mono ?_
      rintro v w3 ⟨rfl, C3, k3⟩
      go_wp2_with fail
      refine ⟨by kernel_rfl, ?_⟩
      go_wp2_with fail
      go_ret
      exact CMn.bad HR.out ((HF.out.drew).trans k3 (fun _ _ h => h)) C3
/-- An answer's value. -/
def chkV (v : Value) (root e0 p0 : Int) (t r f : Value) (main err pos : Int) : Value := .agg #[v, .int .i64 root, .int .i64 e0, .int .i64 p0, t, r, f, .int .i64 main, .int .i64 err, .int .i64 pos]
def refV (e p : Int) : Value := chkV (.slice none 0 0) (-1) 0 0 (.slice none 0 0) (.slice none 0 0) (.slice none 0 0) (-1) e p
set_option maxRecDepth 100000 in
set_option maxHeartbeats 1000000 in
theorem refusedC (w : World) (e p : Int) : Calls Tryz.prog 63 #[.int .i64 e, .int .i64 p] w fun v w' => v = .returned (refV e p) ∧ Fr (fun _ => False) w w' := by
  go_enter Tryz.func63, Tryz.ntmps63
  go_wp2_with fail
  exact bodyPost_ret (v := refV e p) (by simp [results, Tryz.results63, go_sem, refV, chkV]) rfl ⟨rfl, (Fr.refl _ _).alloc _⟩
end
end Go.Proofs.Qxb6500277aGreat
