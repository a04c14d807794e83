/- The real parser: power, hang, add. -/
import Derived.Test.Qxb6500277aGreatPW1
namespace Go.Proofs.Qxb6500277aGreat
open Go Go.RowKit

set_option maxHeartbeats 4000000 in
theorem powerF (k : Int) (w : World) : Calls Tryz.prog 240 #[.int .i64 k] w fun e w' => e = .returned (.int .i64 (pow k)) ∧ w' = w := by
  by_cases h38 : k = 38
  · subst h38
    go_enter Tryz.func240, Tryz.ntmps240
    go_wp2_with fail
    go_ret
    exact ⟨rfl, rfl⟩
  by_cases h37 : k = 37
  · subst h37
    go_enter Tryz.func240, Tryz.ntmps240
    go_wp2_with fail
    go_ret
    exact ⟨rfl, rfl⟩
  by_cases h26 : k = 26
  · subst h26
    go_enter Tryz.func240, Tryz.ntmps240
    go_wp2_with fail
    go_ret
    exact ⟨rfl, rfl⟩
  by_cases h27 : k = 27
  · subst h27
    go_enter Tryz.func240, Tryz.ntmps240
    go_wp2_with fail
    go_ret
    exact ⟨rfl, rfl⟩
  by_cases h28 : k = 28
  · subst h28
    go_enter Tryz.func240, Tryz.ntmps240
    go_wp2_with fail
    go_ret
    exact ⟨rfl, rfl⟩
  by_cases h29 : k = 29
  · subst h29
    go_enter Tryz.func240, Tryz.ntmps240
    go_wp2_with fail
    go_ret
    exact ⟨rfl, rfl⟩
  by_cases h30 : k = 30
  · subst h30
    go_enter Tryz.func240, Tryz.ntmps240
    go_wp2_with fail
    go_ret
    exact ⟨rfl, rfl⟩
  by_cases h31 : k = 31
  · subst h31
    go_enter Tryz.func240, Tryz.ntmps240
    go_wp2_with fail
    go_ret
    exact ⟨rfl, rfl⟩
  by_cases h32 : k = 32
  · subst h32
    go_enter Tryz.func240, Tryz.ntmps240
    go_wp2_with fail
    go_ret
    exact ⟨rfl, rfl⟩
  by_cases h33 : k = 33
  · subst h33
    go_enter Tryz.func240, Tryz.ntmps240
    go_wp2_with fail
    go_ret
    exact ⟨rfl, rfl⟩
  by_cases h34 : k = 34
  · subst h34
    go_enter Tryz.func240, Tryz.ntmps240
    go_wp2_with fail
    go_ret
    exact ⟨rfl, rfl⟩
  by_cases h35 : k = 35
  · subst h35
    go_enter Tryz.func240, Tryz.ntmps240
    go_wp2_with fail
    go_ret
    exact ⟨rfl, rfl⟩
  by_cases h36 : k = 36
  · subst h36
    go_enter Tryz.func240, Tryz.ntmps240
    go_wp2_with fail
    go_ret
    exact ⟨rfl, rfl⟩
  have b38 : (k == 38) = false := by simpa using h38
  have b37 : (k == 37) = false := by simpa using h37
  have b26 : (k == 26) = false := by simpa using h26
  have b27 : (k == 27) = false := by simpa using h27
  have b28 : (k == 28) = false := by simpa using h28
  have b29 : (k == 29) = false := by simpa using h29
  have b30 : (k == 30) = false := by simpa using h30
  have b31 : (k == 31) = false := by simpa using h31
  have b32 : (k == 32) = false := by simpa using h32
  have b33 : (k == 33) = false := by simpa using h33
  have b34 : (k == 34) = false := by simpa using h34
  have b35 : (k == 35) = false := by simpa using h35
  have b36 : (k == 36) = false := by simpa using h36
  have e : pow k = 0 := by unfold pow; simp [*]
  rw [e]
  clear e
  clear h38 h37 h26 h27 h28 h29 h30 h31 h32 h33 h34 h35 h36
  go_enter Tryz.func240, Tryz.ntmps240
  go_wp2_with fail
  go_ret
  exact ⟨rfl, rfl⟩
section
variable {w w' : World} {A : Pa} {T : List Tok} {i : Nat} {ns : List Nd} {fl : Bool} {er q : Int} {S : Nat → Prop}
theorem lt8c {o : Nat} (h : o < 8) : o = 0 ∨ o = 1 ∨ o = 2 ∨ o = 3 ∨ o = 4 ∨ o = 5 ∨ o = 6 ∨ o = 7 := by omega
theorem NdP.link {f : Nat → Value} (h : NdP f ns) {k : Nat} {x : Int} (hk : k < ns.length) : NdP (upd f (k * 8 + 4) (.int .i64 x)) (setNx ns k x) := fun j hj o ho => by
  have hj' : j < ns.length := by rw [setNx_len] at hj; exact hj
  have e := h j hj' o ho
  unfold setNx at hj ⊢
  by_cases ej : k = j
  · subst ej
    rw [List.getElem_set_self, List.getElem?_eq_getElem hk, Option.getD_some]
    rcases lt8c ho with rfl | rfl | rfl | rfl | rfl | rfl | rfl | rfl
    all_goals first
      | (simp [upd, ndCell]; done)
      | (simp [upd]; exact e)
  · rw [List.getElem_set_ne ej]
    simp only [upd]
    rw [if_neg (by omega), e]
theorem PM.link (P : PM w A T i ns fl er q) {k : Nat} {x : Int} (hk : k < ns.length) (h1 : (k : Int) < x) (h2 : x < ns.length) : PM (w.setCell ⟨A.ab, k * 8 + 4, none⟩ (.int .i64 x)) A T i (setNx ns k x) fl er q := by
  have F := (Fr.refl (fun c => c = A.ab) w).setC A.ab (k * 8 + 4) (.int .i64 x) (fun _ => rfl)
  obtain ⟨f, hb, hp⟩ := P.arr
  refine ⟨?_, P.tks.frame F P.apt.2.2, ⟨_, hb.set _ _, hp.link hk⟩, P.tok, P.lt, P.nok.link hk h1 h2, by rw [setNx_len]; exact P.le, P.apt⟩
  rw [setNx_len]
  exact P.blk.frame F P.apt.2.1
set_option maxHeartbeats 1000000 in
theorem hang_no (p : Value) {last x : Int} (h : x < 0 ∨ last < 0) (w : World) : Calls Tryz.prog 149 #[p, .int .i64 last, .int .i64 x] w fun e w' => e = .returned (.int .i64 x) ∧ w' = w := by
  by_cases hx : x < 0
  · have b : decide (x ≥ 0) = false := decide_eq_false (by omega)
    go_enter Tryz.func149, Tryz.ntmps149
    go_wp2_with fail
    go_ret
    exact ⟨rfl, rfl⟩
  · have b : decide (x ≥ 0) = true := decide_eq_true (by omega)
    have b2 : decide (last ≥ 0) = false := decide_eq_false (by omega)
    clear h hx
    go_enter Tryz.func149, Tryz.ntmps149
    go_wp2_with fail
    go_ret
    exact ⟨rfl, rfl⟩
set_option maxRecDepth 100000 in
set_option maxHeartbeats 2000000 in
theorem hang_yes (P : PM w A T i ns fl er q) {k : Nat} {x : Int} (hk : k < ns.length) (h1 : (k : Int) < x) (h2 : x < ns.length) : Calls Tryz.prog 149 #[.pointer (some ⟨A.p, 0, none⟩), .int .i64 k, .int .i64 x] w fun e w' => e = .returned (.int .i64 x) ∧ PM w' A T i (setNx ns k x) fl er q ∧ Fr (PS A) w w' := by
  have P2 : Hid _ := P.link hk h1 h2
  obtain ⟨_, r1, r2, r3, _⟩ := P.regs
  obtain ⟨b1, b2, b3⟩ := P.blt
  obtain ⟨f, hb, _⟩ := P.arr
  have hz := hb.frozen
  have hle := P.le
  have hk2 : k < 200 := by omega
  have c := hb.cell (o := k * 8 + 4) (by omega)
  have hx0 : 0 ≤ x := by omega
  have b : decide (x ≥ 0) = true := decide_eq_true (by omega)
  clear hk h1 h2 hle
  go_enter Tryz.func149, Tryz.ntmps149
  go_wp2_with fail
  go_ret
  exact ⟨rfl, P2.out, (Fr.refl _ _).setC A.ab _ _ (fun _ => .inr rfl)⟩
def upd8 (f : Nat → Value) (m : Nat) (nd : Nd) (c : Nat) : Value := if m * 8 ≤ c ∧ c < m * 8 + 8 then ndCell nd (c - m * 8) else f c
theorem NdP.push {f : Nat → Value} (h : NdP f ns) (nd : Nd) : NdP (upd8 f ns.length nd) (ns ++ [nd]) := fun j hj o ho => by
  simp only [List.length_append, List.length_singleton] at hj
  unfold upd8
  by_cases hl : j < ns.length
  · rw [if_neg (by omega), List.getElem_append_left hl]
    exact h j hl o ho
  · obtain rfl : j = ns.length := by omega
    rw [if_pos (by omega), Nat.add_sub_cancel_left]
    simp
theorem set8_blk {b n m : Nat} {f : Nat → Value} (h : Blk w b n f) (nd : Nd) : Blk ((((((((w.setCell ⟨b, m * 8, none⟩ (.int .i64 nd.kind)).setCell ⟨b, m * 8 + 1, none⟩ (.int .i64 nd.a)).setCell ⟨b, m * 8 + 2, none⟩ (.int .i64 nd.b)).setCell ⟨b, m * 8 + 3, none⟩ (.int .i64 nd.c)).setCell ⟨b, m * 8 + 4, none⟩ (.int .i64 nd.nx)).setCell ⟨b, m * 8 + 5, none⟩ (.int .i64 nd.val)).setCell ⟨b, m * 8 + 6, none⟩ (.int .i64 nd.pos)).setCell ⟨b, m * 8 + 7, none⟩ (.string nd.name)) b n (upd8 f m nd) := by
  refine ((((((((h.set _ _).set _ _).set _ _).set _ _).set _ _).set _ _).set _ _).set _ _).congr fun o ho => ?_
  simp only [upd]
  unfold upd8
  by_cases hr : m * 8 ≤ o ∧ o < m * 8 + 8
  · rw [if_pos hr]
    obtain ⟨j, rfl⟩ : ∃ j, o = m * 8 + j := ⟨o - m * 8, by omega⟩
    rw [Nat.add_sub_cancel_left]
    rcases lt8c (show j < 8 by omega) with rfl | rfl | rfl | rfl | rfl | rfl | rfl | rfl <;> simp [ndCell]
  · rw [if_neg hr]
    repeat rw [if_neg (by omega)]
theorem set8_fr {b m : Nat} (nd : Nd) (hb : b < w.heap.size → S b) : Fr S w ((((((((w.setCell ⟨b, m * 8, none⟩ (.int .i64 nd.kind)).setCell ⟨b, m * 8 + 1, none⟩ (.int .i64 nd.a)).setCell ⟨b, m * 8 + 2, none⟩ (.int .i64 nd.b)).setCell ⟨b, m * 8 + 3, none⟩ (.int .i64 nd.c)).setCell ⟨b, m * 8 + 4, none⟩ (.int .i64 nd.nx)).setCell ⟨b, m * 8 + 5, none⟩ (.int .i64 nd.val)).setCell ⟨b, m * 8 + 6, none⟩ (.int .i64 nd.pos)).setCell ⟨b, m * 8 + 7, none⟩ (.string nd.name)) :=
  ((((((((Fr.refl S w).setC b _ _ hb).setC b _ _ hb).setC b _ _ hb).setC b _ _ hb).setC b _ _ hb).setC b _ _ hb).setC b _ _ hb).setC b _ _ hb
/-- The node laid, the count not yet raised. -/
theorem PM.push (P : PM w A T i ns false er q) (nd : Nd) (hn : ns.length < 200) (hx : NOk ns.length ns.length nd) (F : Fr (fun c => c = A.ab) w w') {f : Nat → Value} (hb : Blk w' A.ab 1600 (upd8 f ns.length nd)) (hp : NdP f ns) :
    PM (w'.setCell ⟨A.p, 4, none⟩ (.int .i64 ((ns.length : Int) + 1))) A T i (ns ++ [nd]) false er q := by
  have hap := P.apt
  have k := (Fr.refl (fun c => c = A.p) w').setC A.p 4 (.int .i64 ((ns.length : Int) + 1)) (fun _ => rfl)
  refine ⟨((P.blk.frame F hap.2.1).set 4 _).congr fun o ho => ?_, (P.tks.frame F hap.2.2).frame k (Ne.symm hap.1), ⟨_, hb.frame k (Ne.symm hap.2.1), hp.push nd⟩, P.tok, P.lt, P.nok.add hx, by simp; omega, hap⟩
  rcases lt8c ho with rfl | rfl | rfl | rfl | rfl | rfl | rfl | rfl
  all_goals simp [upd, pCell]
def boxN (nd : Nd) : Obj := .cells #[.int .i64 nd.kind, .int .i64 nd.a, .int .i64 nd.b, .int .i64 nd.c, .int .i64 nd.nx, .int .i64 nd.val, .int .i64 nd.pos, .string nd.name] 145
theorem boxN_blk (w : World) (nd : Nd) : Blk (w.alloc (boxN nd)) w.heap.size 8 (ndCell nd) := Blk.new w _ _ _ fun o ho => by
  rcases lt8c (show o < 8 from ho) with rfl | rfl | rfl | rfl | rfl | rfl | rfl | rfl <;> rfl
set_option maxRecDepth 100000 in
set_option maxHeartbeats 1000000 in
theorem add_failed (P : PM w A T i ns true er q) (nd : Nd) : Calls Tryz.prog 189 #[.pointer (some ⟨A.p, 0, none⟩), ndV nd] w fun v w' => v = .returned (.int .i64 (-1)) ∧ Fr (fun _ => False) w w' := by
  obtain ⟨_, r1, r2, r3, r4, r5, _⟩ := P.regs
  obtain ⟨b1, b2, b3⟩ := P.blt
  unfold ndV
  go_enter Tryz.func189, Tryz.ntmps189
  go_wp2_with fail
  go_ret
  exact ⟨rfl, (Fr.refl _ _).alloc _⟩
set_option maxRecDepth 100000 in
set_option maxHeartbeats 1000000 in
theorem add_full (P : PM w A T i ns false er q) (nd : Nd) (hn : 200 ≤ ns.length) : Calls Tryz.prog 189 #[.pointer (some ⟨A.p, 0, none⟩), ndV nd] w fun v w' => v = .returned (.int .i64 (-1)) ∧ Fr (PS A) w w' ∧ PM w' A T i ns true 12 nd.pos := by
  obtain ⟨_, r1, r2, r3, r4, r5, _⟩ := P.regs
  obtain ⟨b1, b2, b3⟩ := P.blt
  have f1 := (Fr.refl (fun _ => False) w).alloc (boxN nd)
  have b : decide ((ns.length : Int) ≥ 200) = true := decide_eq_true (by omega)
  unfold ndV
  go_enter Tryz.func189, Tryz.ntmps189
  go_wp2_with fail
  refine (failF (P.same f1) 12 nd.pos).mono ?_
  rintro v w3 ⟨rfl, P3, f3⟩
  go_wp2_with fail
  go_ret
  exact ⟨rfl, (f1.mono (fun _ _ h => h.elim)).trans f3 (fun _ _ h => h), P3⟩
set_option maxRecDepth 100000 in
set_option maxHeartbeats 4000000 in
theorem add_ok (P : PM w A T i ns false er q) (nd : Nd) (hn : ¬ 200 ≤ ns.length) (hx : NOk ns.length ns.length nd) : Calls Tryz.prog 189 #[.pointer (some ⟨A.p, 0, none⟩), ndV nd] w fun v w' => v = .returned (.int .i64 ns.length) ∧ Fr (PS A) w w' ∧ PM w' A T i (ns ++ [nd]) false er q := by
  obtain ⟨f, hb0, hp⟩ := P.arr
  have hap : Hid _ := P.apt
  have S8 := set8_blk (m := ns.length) hb0 nd
  have F8 := set8_fr (w := w) (S := fun c => c = A.ab) (b := A.ab) (m := ns.length) nd (fun _ => rfl)
  have P8 := (P.push nd (by omega) hx F8 S8 hp).same (((Fr.refl _ _).alloc (boxN nd)).drew)
  have F9 : Fr (PS A) w _ := (((F8.mono (S' := PS A) (fun _ _ h => .inr h)).setC A.p 4 (.int .i64 ((ns.length : Int) + 1)) (fun _ => .inl rfl)).alloc (boxN nd)).drew
  have HP : Hid _ := P8
  have HF : Hid _ := F9
  clear P8 F9 S8 F8
  unfold boxN at *
  obtain ⟨_, r1, r2, r3, r4, r5, _⟩ := P.regs
  obtain ⟨b1, b2, b3⟩ := P.blt
  have hz := P.blk.frozen
  have hz2 := hb0.frozen
  have hle : ns.length < 200 := by omega
  have b : decide ((ns.length : Int) ≥ 200) = false := decide_eq_false (by omega)
  have hap1 := hap.out.2.1
  have m0 := hb0.cell (o := ns.length * 8) (by omega)
  have m1 := hb0.cell (o := ns.length * 8 + 1) (by omega)
  have m2 := hb0.cell (o := ns.length * 8 + 2) (by omega)
  have m3 := hb0.cell (o := ns.length * 8 + 3) (by omega)
  have m4 := hb0.cell (o := ns.length * 8 + 4) (by omega)
  have m5 := hb0.cell (o := ns.length * 8 + 5) (by omega)
  have m6 := hb0.cell (o := ns.length * 8 + 6) (by omega)
  have m7 := hb0.cell (o := ns.length * 8 + 7) (by omega)
  unfold ndV
  clear hn hx
  go_enter Tryz.func189, Tryz.ntmps189
  go_wp2_with fail
  refine wp_region_text (by kernel_rfl) (by kernel_rfl) ?_
  go_wp2_with fail
  refine ⟨by kernel_rfl, ?_⟩
  go_wp2_with fail
  go_ret
  refine ⟨?_, ?_, ?_⟩
  · congr 2
  · exact HF.out
  · exact HP.out
end
end Go.Proofs.Qxb6500277aGreat
