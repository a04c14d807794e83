/- The real parser in memory; the small functions. -/
import Derived.Test.Qxb6500277aGreatPA1
import Derived.Deep.QuietTactic
import Derived.BigQuiet
import Derived.BigRegion
namespace Go.Proofs.Qxb6500277aGreat
open Go Go.RowKit

def ndCell (n : Nd) (o : Nat) : Value := match o with | 0 => .int .i64 n.kind | 1 => .int .i64 n.a | 2 => .int .i64 n.b | 3 => .int .i64 n.c | 4 => .int .i64 n.nx | 5 => .int .i64 n.val | 6 => .int .i64 n.pos | _ => .string n.name
def ndV (n : Nd) : Value := .agg #[.int .i64 n.kind, .int .i64 n.a, .int .i64 n.b, .int .i64 n.c, .int .i64 n.nx, .int .i64 n.val, .int .i64 n.pos, .string n.name]
def NdP (f : Nat → Value) (ns : List Nd) : Prop := ∀ j (h : j < ns.length), ∀ o, o < 8 → f (j * 8 + o) = ndCell ns[j] o
def NdAt (w : World) (b : Nat) (ns : List Nd) : Prop := ∃ f, Blk w b 1600 f ∧ NdP f ns
structure Pa where
  p : Nat
  lx : Nat
  tb : Nat
  ab : Nat
def pCell (A : Pa) (L i n : Nat) (fl : Bool) (er q : Int) (o : Nat) : Value := match o with
  | 0 => .pointer (some ⟨A.lx, 0, none⟩) | 1 => .slice (some ⟨A.tb, 0, none⟩) L L | 2 => .int .i64 i | 3 => .slice (some ⟨A.ab, 0, none⟩) 200 200
  | 4 => .int .i64 n | 5 => .bool fl | 6 => .int .i64 er | _ => .int .i64 q
structure PM (w : World) (A : Pa) (T : List Tok) (i : Nat) (ns : List Nd) (fl : Bool) (er q : Int) : Prop where
  blk : Blk w A.p 8 (pCell A T.length i ns.length fl er q)
  tks : TokAt w A.tb T
  arr : NdAt w A.ab ns
  tok : TkOk T
  lt : i < T.length
  nok : NsOk ns
  le : ns.length ≤ 200
  apt : A.p ≠ A.tb ∧ A.p ≠ A.ab ∧ A.tb ≠ A.ab
def PS (A : Pa) (c : Nat) : Prop := c = A.p ∨ c = A.ab
section
variable {w w' : World} {A : Pa} {T : List Tok} {i : Nat} {ns : List Nd} {fl : Bool} {er q : Int} {S : Nat → Prop}
theorem NdAt.frame {b : Nat} (h : NdAt w b ns) (k : Fr S w w') (hb : ¬ S b) : NdAt w' b ns := by
  obtain ⟨f, h1, h2⟩ := h
  exact ⟨f, h1.frame k hb, h2⟩
theorem PM.frame (P : PM w A T i ns fl er q) (k : Fr S w w') (h1 : ¬ S A.p) (h2 : ¬ S A.tb) (h3 : ¬ S A.ab) : PM w' A T i ns fl er q :=
  ⟨P.blk.frame k h1, P.tks.frame k h2, P.arr.frame k h3, P.tok, P.lt, P.nok, P.le, P.apt⟩
theorem PM.same (P : PM w A T i ns fl er q) (k : Fr (fun _ => False) w w') : PM w' A T i ns fl er q := P.frame k (fun h => h) (fun h => h) (fun h => h)
theorem PM.blt (P : PM w A T i ns fl er q) : A.p < w.heap.size ∧ A.tb < w.heap.size ∧ A.ab < w.heap.size := by
  obtain ⟨f, h1, _⟩ := P.arr
  exact ⟨P.blk.lt, Blk.lt P.tks, h1.lt⟩
theorem PM.tkE (P : PM w A T i ns fl er q) : T[i]'P.lt = tk T i := by simp [tk, List.getElem?_eq_getElem P.lt]
theorem PM.cellK (P : PM w A T i ns fl er q) : w.cell? ⟨A.tb, i * 4, none⟩ = some (.int .i64 (kd T i)) ∧ w.cell? ⟨A.tb, i * 4 + 1, none⟩ = some (.int .i64 (ps T i)) ∧ w.cell? ⟨A.tb, i * 4 + 2, none⟩ = some (.int .i64 (tk T i).val) ∧ w.cell? ⟨A.tb, i * 4 + 3, none⟩ = some (.string (tk T i).text) := by
  have h0 := P.tks.tok i P.lt 0 (by omega)
  have h1 := P.tks.tok i P.lt 1 (by omega)
  have h2 := P.tks.tok i P.lt 2 (by omega)
  have h3 := P.tks.tok i P.lt 3 (by omega)
  rw [P.tkE] at h0 h1 h2 h3
  exact ⟨h0, h1, h2, h3⟩
theorem PM.regs (P : PM w A T i ns fl er q) : w.cell? ⟨A.p, 0, none⟩ = some (.pointer (some ⟨A.lx, 0, none⟩)) ∧ w.cell? ⟨A.p, 1, none⟩ = some (.slice (some ⟨A.tb, 0, none⟩) T.length T.length) ∧ w.cell? ⟨A.p, 2, none⟩ = some (.int .i64 i) ∧ w.cell? ⟨A.p, 3, none⟩ = some (.slice (some ⟨A.ab, 0, none⟩) 200 200) ∧ w.cell? ⟨A.p, 4, none⟩ = some (.int .i64 ns.length) ∧ w.cell? ⟨A.p, 5, none⟩ = some (.bool fl) ∧ w.cell? ⟨A.p, 6, none⟩ = some (.int .i64 er) ∧ w.cell? ⟨A.p, 7, none⟩ = some (.int .i64 q) :=
  ⟨P.blk.cell (by omega), P.blk.cell (by omega), P.blk.cell (by omega), P.blk.cell (by omega), P.blk.cell (by omega), P.blk.cell (by omega), P.blk.cell (by omega), P.blk.cell (by omega)⟩
theorem PM.ib (P : PM w A T i ns fl er q) : (i : Int) < 8192 ∧ (T.length : Int) ≤ 8192 := by have := P.lt; have := P.tok.le; omega
theorem ndLt (j o : Nat) (h : j < 200) (ho : o < 8) : j * 8 + o < 1600 := by omega
set_option maxRecDepth 100000 in
set_option maxHeartbeats 1000000 in
theorem kindF (P : PM w A T i ns fl er q) : Calls Tryz.prog 147 #[.pointer (some ⟨A.p, 0, none⟩)] w fun e w' => e = .returned (.int .i64 (kd T i)) ∧ Fr (fun _ => False) w w' := by
  obtain ⟨_, r1, r2, _⟩ := P.regs
  obtain ⟨c0, _⟩ := P.cellK
  obtain ⟨b1, b2, _⟩ := P.blt
  obtain ⟨i1, i2⟩ := P.ib
  have hlt : decide ((i : Int) < (T.length : Nat)) = true := decide_eq_true (by have := P.lt; omega)
  have hl := P.lt
  go_enter Tryz.func147, Tryz.ntmps147
  go_wp2_with fail
  go_quiet (fail)
  go_wp2_with fail
  go_ret
  exact ⟨rfl, (Fr.refl _ _).drewN _⟩
set_option maxRecDepth 100000 in
set_option maxHeartbeats 1000000 in
theorem atFp (P : PM w A T i ns fl er q) : Calls Tryz.prog 184 #[.pointer (some ⟨A.p, 0, none⟩)] w fun e w' => e = .returned (.int .i64 (ps T i)) ∧ Fr (fun _ => False) w w' := by
  obtain ⟨_, r1, r2, _⟩ := P.regs
  obtain ⟨_, c0, _⟩ := P.cellK
  obtain ⟨b1, b2, _⟩ := P.blt
  obtain ⟨i1, i2⟩ := P.ib
  have hlt : decide ((i : Int) < (T.length : Nat)) = true := decide_eq_true (by have := P.lt; omega)
  have hl := P.lt
  go_enter Tryz.func184, Tryz.ntmps184
  go_wp2_with fail
  go_quiet (fail)
  go_wp2_with fail
  go_ret
  exact ⟨rfl, (Fr.refl _ _).drewN _⟩
theorem PM.setI (P : PM w A T i ns fl er q) {j : Nat} (hj : j < T.length) : PM (w.setCell ⟨A.p, 2, none⟩ (.int .i64 j)) A T j ns fl er q := by
  have k := (Fr.refl (fun c => c = A.p) w).setC A.p 2 (.int .i64 j) (fun _ => rfl)
  refine ⟨(P.blk.set 2 (.int .i64 j)).congr fun o ho => ?_, P.tks.frame k (Ne.symm P.apt.1), P.arr.frame k (Ne.symm P.apt.2.1), P.tok, hj, P.nok, P.le, P.apt⟩
  obtain rfl | rfl | rfl | rfl | rfl | rfl | rfl | rfl : o = 0 ∨ o = 1 ∨ o = 2 ∨ o = 3 ∨ o = 4 ∨ o = 5 ∨ o = 6 ∨ o = 7 := by omega
  all_goals rfl
set_option maxRecDepth 100000 in
set_option maxHeartbeats 1000000 in
theorem stepFp (P : PM w A T i ns fl er q) : Calls Tryz.prog 219 #[.pointer (some ⟨A.p, 0, none⟩)] w fun e w' => e = .returned (.tuple #[]) ∧ PM w' A T (stp T i) ns fl er q ∧ Fr (PS A) w w' := by
  obtain ⟨_, r1, r2, _⟩ := P.regs
  obtain ⟨b1, b2, _⟩ := P.blt
  obtain ⟨i1, i2⟩ := P.ib
  have hz := P.blk.frozen
  unfold stp
  by_cases h : i + 1 < T.length
  · rw [if_pos h]
    have hh : decide ((i : Int) + 1 < (T.length : Nat)) = true := decide_eq_true (by omega)
    go_enter Tryz.func219, Tryz.ntmps219
    go_wp2_with fail
    go_quiet (fail)
    go_wp2_with fail
    go_end0
    have e1 : ((i : Int) + 1) = ((i + 1 : Nat) : Int) := by omega
    rw [e1]
    exact ⟨rfl, (P.same ((Fr.refl _ _).drewN _)).setI h, ((Fr.refl _ _).drewN _).setC A.p 2 _ (fun _ => .inl rfl)⟩
  · rw [if_neg h]
    have hh : decide ((i : Int) + 1 < (T.length : Nat)) = false := decide_eq_false (by omega)
    go_enter Tryz.func219, Tryz.ntmps219
    go_wp2_with fail
    go_quiet (fail)
    go_wp2_with fail
    go_end0
    exact ⟨rfl, P.same ((Fr.refl _ _).drewN _), (Fr.refl _ _).drewN _⟩
theorem PM.setF (P : PM w A T i ns false er q) (e p : Int) : PM (((w.setCell ⟨A.p, 5, none⟩ (.bool true)).setCell ⟨A.p, 6, none⟩ (.int .i64 e)).setCell ⟨A.p, 7, none⟩ (.int .i64 p)) A T i ns true e p := by
  have k := (((Fr.refl (fun c => c = A.p) w).setC A.p 5 (.bool true) (fun _ => rfl)).setC A.p 6 (.int .i64 e) (fun _ => rfl)).setC A.p 7 (.int .i64 p) (fun _ => rfl)
  refine ⟨(((P.blk.set 5 (.bool true)).set 6 (.int .i64 e)).set 7 (.int .i64 p)).congr fun o ho => ?_, P.tks.frame k (Ne.symm P.apt.1), P.arr.frame k (Ne.symm P.apt.2.1), P.tok, P.lt, P.nok, P.le, P.apt⟩
  obtain rfl | rfl | rfl | rfl | rfl | rfl | rfl | rfl : o = 0 ∨ o = 1 ∨ o = 2 ∨ o = 3 ∨ o = 4 ∨ o = 5 ∨ o = 6 ∨ o = 7 := by omega
  all_goals rfl
set_option maxRecDepth 100000 in
set_option maxHeartbeats 1000000 in
theorem failF (P : PM w A T i ns false er q) (e p : Int) : Calls Tryz.prog 218 #[.pointer (some ⟨A.p, 0, none⟩), .int .i64 e, .int .i64 p] w fun v w' => v = .returned (.int .i64 (-1)) ∧ PM w' A T i ns true e p ∧ Fr (PS A) w w' := by
  obtain ⟨_, _, _, _, _, r5, r6, r7⟩ := P.regs
  obtain ⟨b1, b2, _⟩ := P.blt
  have hz := P.blk.frozen
  go_enter Tryz.func218, Tryz.ntmps218
  go_wp2_with fail
  go_ret
  exact ⟨rfl, P.setF e p, (((Fr.refl _ _).setC A.p 5 _ (fun _ => .inl rfl)).setC A.p 6 _ (fun _ => .inl rfl)).setC A.p 7 _ (fun _ => .inl rfl)⟩
set_option maxRecDepth 100000 in
set_option maxHeartbeats 1000000 in
theorem take_failed (P : PM w A T i ns true er q) (k : Int) : Calls Tryz.prog 183 #[.pointer (some ⟨A.p, 0, none⟩), .int .i64 k] w fun v w' => v = .returned (.bool false) ∧ w' = w := by
  obtain ⟨_, _, _, _, _, r5, r6, r7⟩ := P.regs
  obtain ⟨b1, b2, _⟩ := P.blt
  go_enter Tryz.func183, Tryz.ntmps183
  go_wp2_with fail
  go_ret
  exact ⟨rfl, rfl⟩
set_option maxRecDepth 100000 in
set_option maxHeartbeats 1000000 in
theorem takeF (P : PM w A T i ns false er q) (k : Int) : Calls Tryz.prog 183 #[.pointer (some ⟨A.p, 0, none⟩), .int .i64 k] w fun v w' => Fr (PS A) w w' ∧ ((kd T i = k ∧ v = .returned (.bool true) ∧ PM w' A T (stp T i) ns false er q) ∨ (kd T i ≠ k ∧ v = .returned (.bool false) ∧ PM w' A T i ns true 10 (ps T i))) := by
  obtain ⟨_, _, _, _, _, r5, r6, r7⟩ := P.regs
  obtain ⟨b1, b2, _⟩ := P.blt
  by_cases h : kd T i = k
  · have hb : (kd T i != k) = false := by simp [h]
    go_enter Tryz.func183, Tryz.ntmps183
    go_wp2_with fail
    refine (kindF P).mono ?_
    rintro v w1 ⟨rfl, f1⟩
    go_wp2_with fail
    refine (stepFp (P.same f1)).mono ?_
    rintro v w2 ⟨rfl, P2, f2⟩
    go_wp2_with fail
    go_ret
    exact ⟨(f1.mono (fun _ _ h => h.elim)).trans f2 (fun _ _ h => h), .inl ⟨h, rfl, P2⟩⟩
  · have hb : (kd T i != k) = true := by simpa using h
    go_enter Tryz.func183, Tryz.ntmps183
    go_wp2_with fail
    refine (kindF P).mono ?_
    rintro v w1 ⟨rfl, f1⟩
    go_wp2_with fail
    refine (atFp (P.same f1)).mono ?_
    rintro v w2 ⟨rfl, f2⟩
    go_wp2_with fail
    refine (failF ((P.same f1).same f2) 10 (ps T i)).mono ?_
    rintro v w3 ⟨rfl, P3, f3⟩
    go_wp2_with fail
    go_ret
    exact ⟨((f1.trans f2 (fun _ _ h => h)).mono (fun _ _ h => h.elim)).trans f3 (fun _ _ h => h), .inr ⟨h, rfl, P3⟩⟩
set_option maxRecDepth 100000 in
set_option maxHeartbeats 1000000 in
theorem openF (P : PM w A T i ns false er q) (d : Nat) (hd : d ≤ 8) : Calls Tryz.prog 220 #[.pointer (some ⟨A.p, 0, none⟩), .int .i64 (8 - (d : Int))] w fun v w' => Fr (PS A) w w' ∧ ((¬ 8 ≤ d ∧ v = .returned (.bool true) ∧ w' = w) ∨ (8 ≤ d ∧ v = .returned (.bool false) ∧ PM w' A T i ns true 11 (ps T i))) := by
  by_cases h : 8 ≤ d
  · have hb : decide ((8 : Int) - d ≤ 0) = true := decide_eq_true (by omega)
    go_enter Tryz.func220, Tryz.ntmps220
    go_wp2_with fail
    refine (atFp P).mono ?_
    rintro v w2 ⟨rfl, f2⟩
    go_wp2_with fail
    refine (failF (P.same f2) 11 (ps T i)).mono ?_
    rintro v w3 ⟨rfl, P3, f3⟩
    go_wp2_with fail
    go_ret
    exact ⟨(f2.mono (fun _ _ h => h.elim)).trans f3 (fun _ _ h => h), .inr ⟨h, rfl, P3⟩⟩
  · have hb : decide ((8 : Int) - d ≤ 0) = false := decide_eq_false (by omega)
    go_enter Tryz.func220, Tryz.ntmps220
    go_wp2_with fail
    go_ret
    exact ⟨Fr.refl _ _, .inl ⟨h, rfl, rfl⟩⟩
end
set_option maxRecDepth 100000 in
set_option maxHeartbeats 1000000 in
theorem freshF (k p : Int) (w : World) : Calls Tryz.prog 185 #[.int .i64 k, .int .i64 p] w fun v w' => v = .returned (ndV (fre k p)) ∧ Fr (fun _ => False) w w' := by
  have f := (Fr.refl (fun _ => False) w).alloc (.cells #[.int .i64 k, .int .i64 (-1), .int .i64 (-1), .int .i64 (-1), .int .i64 (-1), .int .i64 0, .int .i64 p, .string ⟨#[]⟩] 145)
  go_enter Tryz.func185, Tryz.ntmps185
  go_wp2_with fail
  exact bodyPost_ret (v := ndV (fre k p)) (by simp [results, Tryz.results185, go_sem, ndV, fre]) rfl ⟨rfl, f⟩
end Go.Proofs.Qxb6500277aGreat
