/- The model parser in memory; the small functions. -/
import Derived.Test.Qxb6500277aGreatNApp
namespace Go.Proofs.Qxb6500277aGreat
open Go Go.RowKit

def sCell (tb L i : Nat) (nv : Value) (er q : Int) (o : Nat) : Value := match o with | 0 => .slice (some ⟨tb, 0, none⟩) L L | 1 => .int .i64 i | 2 => nv | 3 => .int .i64 er | _ => .int .i64 q
structure SM (w : World) (s tb : Nat) (T : List Tok) (i : Nat) (ns : List Nd) (er q : Int) (nv : Value) : Prop where
  blk : Blk w s 5 (sCell tb T.length i nv er q)
  tks : TokAt w tb T
  arr : SlN w nv ns
  tok : TkOk T
  lt : i < T.length
  le : ns.length ≤ 200
  apt : s ≠ tb ∧ ¬ isBlk nv s ∧ ¬ isBlk nv tb
def MSq (s : Nat) (nv : Value) (c : Nat) : Prop := c = s ∨ isBlk nv c
/-- What a call of the model may change. -/
structure Gm (s : Nat) (w : World) (nv : Value) (w' : World) (nv' : Value) : Prop where
  fr : Fr (MSq s nv) w w'
  up : ∀ c, isBlk nv' c → isBlk nv c ∨ w.heap.size ≤ c
theorem isBlk_one {b n c c' : Nat} (h : isBlk (.slice (some ⟨b, 0, none⟩) n c') c) : c = b := by obtain ⟨_, _, e⟩ := h; cases e; rfl
theorem isBlk_nil {c : Nat} (h : isBlk (.slice none 0 0) c) : False := by obtain ⟨_, _, e⟩ := h; cases e
section
variable {w w' w1 w2 : World} {s tb : Nat} {T : List Tok} {i : Nat} {ns : List Nd} {er q : Int} {nv nv1 nv2 : Value} {S : Nat → Prop}
theorem Gm.refl : Gm s w nv w nv := ⟨Fr.refl _ _, fun _ h => .inl h⟩
theorem Gm.same (f : Fr (fun _ => False) w w') : Gm s w nv w' nv := ⟨f.mono (fun _ _ h => h.elim), fun _ h => .inl h⟩
theorem Gm.trans (a : Gm s w nv w1 nv1) (b : Gm s w1 nv1 w2 nv2) : Gm s w nv w2 nv2 :=
  ⟨a.fr.trans b.fr fun c hc h => h.elim .inl fun h => (a.up c h).elim .inr fun h => absurd hc (by omega), fun c h => (b.up c h).elim (a.up c) fun h => .inr (Nat.le_trans a.fr.size h)⟩
theorem SlN.lt (h : SlN w nv ns) {b : Nat} (hb : isBlk nv b) : b < w.heap.size := by
  obtain ⟨n, c, e⟩ := hb
  rcases h with ⟨rfl, _⟩ | ⟨b', cap, f, rfl, _, hb, _⟩
  · cases e
  · cases e; exact hb.lt
theorem SM.frame (P : SM w s tb T i ns er q nv) (k : Fr S w w') (h1 : ¬ S s) (h2 : ¬ S tb) (h3 : ∀ c, isBlk nv c → ¬ S c) : SM w' s tb T i ns er q nv :=
  ⟨P.blk.frame k h1, P.tks.frame k h2, P.arr.frame k (fun b n c e => h3 b ⟨n, c, e⟩), P.tok, P.lt, P.le, P.apt⟩
theorem SM.same (P : SM w s tb T i ns er q nv) (k : Fr (fun _ => False) w w') : SM w' s tb T i ns er q nv := P.frame k (fun h => h) (fun h => h) (fun _ _ h => h)
theorem SM.blt (P : SM w s tb T i ns er q nv) : s < w.heap.size ∧ tb < w.heap.size := ⟨P.blk.lt, Blk.lt P.tks⟩
theorem SM.regs (P : SM w s tb T i ns er q nv) : w.cell? ⟨s, 0, none⟩ = some (.slice (some ⟨tb, 0, none⟩) T.length T.length) ∧ w.cell? ⟨s, 1, none⟩ = some (.int .i64 i) ∧ w.cell? ⟨s, 2, none⟩ = some nv ∧ w.cell? ⟨s, 3, none⟩ = some (.int .i64 er) ∧ w.cell? ⟨s, 4, none⟩ = some (.int .i64 q) :=
  ⟨P.blk.cell (by omega), P.blk.cell (by omega), P.blk.cell (by omega), P.blk.cell (by omega), P.blk.cell (by omega)⟩
theorem SM.tkE (P : SM w s tb T i ns er q nv) : T[i]'P.lt = tk T i := by simp [tk, List.getElem?_eq_getElem P.lt]
theorem SM.cellK (P : SM w s tb T i ns er q nv) : w.cell? ⟨tb, i * 4, none⟩ = some (.int .i64 (kd T i)) ∧ w.cell? ⟨tb, i * 4 + 1, none⟩ = some (.int .i64 (ps T i)) ∧ w.cell? ⟨tb, i * 4 + 2, none⟩ = some (.int .i64 (tk T i).val) ∧ w.cell? ⟨tb, i * 4 + 3, none⟩ = some (.string (tk T i).text) := by
  have h0 := P.tks.tok i P.lt 0 (by omega)
  have h1 := P.tks.tok i P.lt 1 (by omega)
  have h2 := P.tks.tok i P.lt 2 (by omega)
  have h3 := P.tks.tok i P.lt 3 (by omega)
  rw [P.tkE] at h0 h1 h2 h3
  exact ⟨h0, h1, h2, h3⟩
theorem SM.ib (P : SM w s tb T i ns er q nv) : (i : Int) < 8192 ∧ (T.length : Int) ≤ 8192 := by have := P.lt; have := P.tok.le; omega
theorem SM.nxt (P : SM w s tb T i ns er q nv) (h : kd T i ≠ 0) : stp T i = i + 1 ∧ i + 1 < T.length := by
  have h1 : i + 1 < T.length := by
    have h2 := P.tok.eof i P.lt
    rw [P.tkE] at h2
    have h3 : ¬ (i + 1 = T.length) := fun e => h (h2.2 e)
    have := P.lt
    omega
  exact ⟨by unfold stp; rw [if_pos h1], h1⟩
theorem SM.stay (P : SM w s tb T i ns er q nv) (h : kd T i = 0) : stp T i = i := by
  have h2 := P.tok.eof i P.lt
  rw [P.tkE] at h2
  have := h2.1 h
  unfold stp
  rw [if_neg (by omega)]
set_option maxRecDepth 100000 in
set_option maxHeartbeats 1000000 in
theorem kindM (P : SM w s tb T i ns er q nv) : Calls Tryz.prog 129 #[.pointer (some ⟨s, 0, none⟩)] w fun e w' => e = .returned (.int .i64 (kd T i)) ∧ Fr (fun _ => False) w w' := by
  obtain ⟨r1, r2, _⟩ := P.regs
  obtain ⟨c0, _⟩ := P.cellK
  obtain ⟨b1, b2⟩ := P.blt
  obtain ⟨i1, i2⟩ := P.ib
  have hlt : decide ((i : Int) < (T.length : Nat)) = true := decide_eq_true (by have := P.lt; omega)
  have hl := P.lt
  go_enter Tryz.func129, Tryz.ntmps129
  go_wp2_with fail
  go_quiet (fail)
  go_wp2_with fail
  go_ret
  exact ⟨rfl, (Fr.refl _ _).drewN _⟩
set_option maxRecDepth 100000 in
set_option maxHeartbeats 1000000 in
theorem atMq (P : SM w s tb T i ns er q nv) : Calls Tryz.prog 210 #[.pointer (some ⟨s, 0, none⟩)] w fun e w' => e = .returned (.int .i64 (ps T i)) ∧ Fr (fun _ => False) w w' := by
  obtain ⟨r1, r2, _⟩ := P.regs
  obtain ⟨_, c0, _⟩ := P.cellK
  obtain ⟨b1, b2⟩ := P.blt
  obtain ⟨i1, i2⟩ := P.ib
  have hlt : decide ((i : Int) < (T.length : Nat)) = true := decide_eq_true (by have := P.lt; omega)
  have hl := P.lt
  go_enter Tryz.func210, Tryz.ntmps210
  go_wp2_with fail
  go_quiet (fail)
  go_wp2_with fail
  go_ret
  exact ⟨rfl, (Fr.refl _ _).drewN _⟩
theorem lt5c {o : Nat} (h : o < 5) : o = 0 ∨ o = 1 ∨ o = 2 ∨ o = 3 ∨ o = 4 := by omega
theorem SM.setI (P : SM w s tb T i ns er q nv) {j : Nat} (hj : j < T.length) : SM (w.setCell ⟨s, 1, none⟩ (.int .i64 j)) s tb T j ns er q nv := by
  have k := (Fr.refl (fun c => c = s) w).setC s 1 (.int .i64 j) (fun _ => rfl)
  refine ⟨(P.blk.set 1 (.int .i64 j)).congr fun o ho => ?_, P.tks.frame k (Ne.symm P.apt.1), P.arr.frame k (fun b n c e h => P.apt.2.1 (h ▸ ⟨n, c, e⟩)), P.tok, hj, P.le, P.apt⟩
  rcases lt5c ho with rfl | rfl | rfl | rfl | rfl
  all_goals rfl
theorem SM.setF (P : SM w s tb T i ns er q nv) (e p : Int) : SM ((w.setCell ⟨s, 3, none⟩ (.int .i64 e)).setCell ⟨s, 4, none⟩ (.int .i64 p)) s tb T i ns e p nv := by
  have k := ((Fr.refl (fun c => c = s) w).setC s 3 (.int .i64 e) (fun _ => rfl)).setC s 4 (.int .i64 p) (fun _ => rfl)
  refine ⟨((P.blk.set 3 (.int .i64 e)).set 4 (.int .i64 p)).congr fun o ho => ?_, P.tks.frame k (Ne.symm P.apt.1), P.arr.frame k (fun b n c e h => P.apt.2.1 (h ▸ ⟨n, c, e⟩)), P.tok, P.lt, P.le, P.apt⟩
  rcases lt5c ho with rfl | rfl | rfl | rfl | rfl
  all_goals rfl
set_option maxRecDepth 100000 in
set_option maxHeartbeats 1000000 in
theorem failM (P : SM w s tb T i ns 0 q nv) (e p : Int) : Calls Tryz.prog 211 #[.pointer (some ⟨s, 0, none⟩), .int .i64 e, .int .i64 p] w fun v w' => v = .returned (.int .i64 (-1)) ∧ SM w' s tb T i ns e p nv ∧ Gm s w nv w' nv := by
  obtain ⟨r0, r1, r2, r3, r4⟩ := P.regs
  obtain ⟨b1, b2⟩ := P.blt
  have hz := P.blk.frozen
  go_enter Tryz.func211, Tryz.ntmps211
  go_wp2_with fail
  go_ret
  exact ⟨rfl, P.setF e p, ⟨((Fr.refl _ _).setC s 3 _ (fun _ => .inl rfl)).setC s 4 _ (fun _ => .inl rfl), fun _ h => .inl h⟩⟩
set_option maxRecDepth 100000 in
set_option maxHeartbeats 1000000 in
theorem nextM (P : SM w s tb T i ns er q nv) : Calls Tryz.prog 212 #[.pointer (some ⟨s, 0, none⟩)] w fun e w' => e = .returned (.tuple #[]) ∧ SM w' s tb T (stp T i) ns er q nv ∧ Gm s w nv w' nv := by
  by_cases h : kd T i = 0
  · rw [P.stay h]
    have hb : (kd T i != 0) = false := by simp [h]
    go_enter Tryz.func212, Tryz.ntmps212
    go_wp2_with fail
    refine (kindM P).mono ?_
    rintro v w1 ⟨rfl, f1⟩
    go_wp2_with fail
    go_end0
    exact ⟨rfl, P.same f1, .same f1⟩
  · obtain ⟨hs, hl⟩ := P.nxt h
    rw [hs]
    have hb : (kd T i != 0) = true := by simpa using h
    have Hl : Hid _ := hl
    clear hs hl h
    go_enter Tryz.func212, Tryz.ntmps212
    go_wp2_with fail
    refine (kindM P).mono ?_
    rintro v w1 ⟨rfl, f1⟩
    have P1 := P.same f1
    obtain ⟨r0, r1, r2, r3, r4⟩ := P1.regs
    obtain ⟨b1, b2⟩ := P1.blt
    obtain ⟨i1, i2⟩ := P1.ib
    have hz := P1.blk.frozen
    go_wp2_with fail
    go_end0
    have e1 : ((i : Int) + 1) = ((i + 1 : Nat) : Int) := by omega
    rw [e1]
    exact ⟨rfl, P1.setI Hl.out, (Gm.same f1).trans ⟨(Fr.refl _ _).setC s 1 _ (fun _ => .inl rfl), fun _ h => .inl h⟩⟩
end
set_option maxRecDepth 100000 in
set_option maxHeartbeats 1000000 in
theorem nodeM (k p : Int) (w : World) : Calls Tryz.prog 171 #[.int .i64 k, .int .i64 p] w fun v w' => v = .returned (ndV ⟨k, -1, -1, -1, -1, 0, p, ⟨#[]⟩⟩) ∧ Fr (fun _ => False) w w' := by
  have f := (Fr.refl (fun _ => False) w).alloc (.cells #[.int .i64 k, .int .i64 (-1), .int .i64 (-1), .int .i64 (-1), .int .i64 (-1), .int .i64 0, .int .i64 p, .string ⟨#[]⟩] 145)
  go_enter Tryz.func171, Tryz.ntmps171
  go_wp2_with fail
  exact bodyPost_ret (v := ndV ⟨k, -1, -1, -1, -1, 0, p, ⟨#[]⟩⟩) (by simp [results, Tryz.results171, go_sem, ndV]) rfl ⟨rfl, f⟩
end Go.Proofs.Qxb6500277aGreat
