/- The simplifier's memory; push, add, node, pushRoot, popRoot. -/
import Derived.Test.Qxb6500283aGreatC1
import Derived.Test.Qxb6500283aGreatB3
import Derived.Test.Qxb6500283aGreatS5
namespace Go.Proofs.Qxb6500283aGreat
open Go Go.RowKit

structure SLay (g : Nat → Value) (s x no nw nr : Nat) : Prop where
  p0 : g 0 = .pointer (some ⟨x, 0, none⟩)
  s1 : g 1 = .slice (some ⟨s + 1, 0, none⟩) 24 24
  s2 : g 2 = .slice (some ⟨s + 2, 0, none⟩) 24 24
  o3 : g 3 = .slice (some ⟨s + 3, 0, none⟩) 31 31
  n4 : g 4 = .int .i64 (no : Nat)
  w5 : g 5 = .slice (some ⟨s + 4, 0, none⟩) 49 49
  n6 : g 6 = .int .i64 (nw : Nat)
  r7 : g 7 = .slice (some ⟨s + 5, 0, none⟩) 25 25
  n8 : g 8 = .int .i64 (nr : Nat)
section
variable {g : Nat → Value} {s x no nw nr : Nat}
theorem SLay.setO (h : SLay g s x no nw nr) (n : Nat) : SLay (upd g 4 (.int .i64 (n : Nat))) s x n nw nr :=
  ⟨by rw [upd_other _ _ _ _ (by omega)]; exact h.p0, by rw [upd_other _ _ _ _ (by omega)]; exact h.s1, by rw [upd_other _ _ _ _ (by omega)]; exact h.s2, by rw [upd_other _ _ _ _ (by omega)]; exact h.o3, upd_same _ _ _, by rw [upd_other _ _ _ _ (by omega)]; exact h.w5, by rw [upd_other _ _ _ _ (by omega)]; exact h.n6, by rw [upd_other _ _ _ _ (by omega)]; exact h.r7, by rw [upd_other _ _ _ _ (by omega)]; exact h.n8⟩
theorem SLay.setW (h : SLay g s x no nw nr) (n : Nat) : SLay (upd g 6 (.int .i64 (n : Nat))) s x no n nr :=
  ⟨by rw [upd_other _ _ _ _ (by omega)]; exact h.p0, by rw [upd_other _ _ _ _ (by omega)]; exact h.s1, by rw [upd_other _ _ _ _ (by omega)]; exact h.s2, by rw [upd_other _ _ _ _ (by omega)]; exact h.o3, by rw [upd_other _ _ _ _ (by omega)]; exact h.n4, by rw [upd_other _ _ _ _ (by omega)]; exact h.w5, upd_same _ _ _, by rw [upd_other _ _ _ _ (by omega)]; exact h.r7, by rw [upd_other _ _ _ _ (by omega)]; exact h.n8⟩
theorem SLay.setR (h : SLay g s x no nw nr) (n : Nat) : SLay (upd g 8 (.int .i64 (n : Nat))) s x no nw n :=
  ⟨by rw [upd_other _ _ _ _ (by omega)]; exact h.p0, by rw [upd_other _ _ _ _ (by omega)]; exact h.s1, by rw [upd_other _ _ _ _ (by omega)]; exact h.s2, by rw [upd_other _ _ _ _ (by omega)]; exact h.o3, by rw [upd_other _ _ _ _ (by omega)]; exact h.n4, by rw [upd_other _ _ _ _ (by omega)]; exact h.w5, by rw [upd_other _ _ _ _ (by omega)]; exact h.n6, by rw [upd_other _ _ _ _ (by omega)]; exact h.r7, upd_same _ _ _⟩
end
def tkWhat : Tk → Int | .build _ => 0 | .child _ => 1 | .join _ => 2 | .group _ => 3 | .unroll _ _ _ => 4
def tkN : Tk → Nat | .build n => n | .child n => n | .join n => n | .group n => n | .unroll n _ _ => n
def tkAt : Tk → Nat | .unroll _ a _ => a | _ => 0
def tkE : Tk → Int | .unroll _ _ e => e | _ => -1
def tkCell (t : Tk) (j : Nat) : Value := match j with | 0 => .int .i64 (tkWhat t) | 1 => .int .i64 (tkN t : Nat) | 2 => .int .i64 (tkAt t : Nat) | _ => .int .i64 (tkE t)
def HoldsW (f : Nat → Value) : List Tk → Prop
  | [] => True
  | t :: ws => (∀ j, j < 4 → f (ws.length * 4 + j) = tkCell t j) ∧ HoldsW f ws
def HoldsR (f : Nat → Value) : List Nat → Prop
  | [] => True
  | r :: rs => f rs.length = .int .i64 (r : Nat) ∧ HoldsR f rs
theorem HoldsW.same {f f' : Nat → Value} : ∀ {ws : List Tk}, HoldsW f ws → (∀ o, o < ws.length * 4 → f' o = f o) → HoldsW f' ws
  | [], _, _ => trivial
  | t :: ws, h, hs => ⟨fun j hj => by rw [hs _ (by simp; omega)]; exact h.1 j hj, HoldsW.same h.2 (fun o ho => hs o (by simp; omega))⟩
theorem HoldsR.same {f f' : Nat → Value} : ∀ {rs : List Nat}, HoldsR f rs → (∀ o, o < rs.length → f' o = f o) → HoldsR f' rs
  | [], _, _ => trivial
  | r :: rs, h, hs => ⟨by rw [hs _ (by simp)]; exact h.1, HoldsR.same h.2 (fun o ho => hs o (by simp; omega))⟩
def SBld (s b : Nat) : Prop := b = s ∨ (s + 3 ≤ b ∧ b ≤ s + 5)
def SM (w : World) (s x : Nat) (out : List Nd) (ws : List Tk) (rs : List Nat) : Prop := ∃ g fo fw fr, Blk w s 9 g ∧ SLay g s x out.length ws.length rs.length ∧ Blk w (s + 3) 341 fo ∧ Holds11 fo out ∧ Blk w (s + 4) 196 fw ∧ HoldsW fw ws ∧ Blk w (s + 5) 25 fr ∧ HoldsR fr rs
theorem SM.frame {S : Nat → Prop} {w w' : World} {s x : Nat} {out : List Nd} {ws : List Tk} {rs : List Nat} (h : SM w s x out ws rs) (k : Fr S w w') (hS : ∀ b, SBld s b → ¬ S b) : SM w' s x out ws rs := by
  obtain ⟨g, fo, fw, fr, h1, h2, h3, h4, h5, h6, h7, h8⟩ := h
  exact ⟨g, fo, fw, fr, h1.frame k (hS _ (.inl rfl)), h2, h3.frame k (hS _ (.inr ⟨by omega, by omega⟩)), h4, h5.frame k (hS _ (.inr ⟨by omega, by omega⟩)), h6, h7.frame k (hS _ (.inr ⟨by omega, by omega⟩)), h8⟩
theorem SM.idle {w w' : World} {s x : Nat} {out : List Nd} {ws : List Tk} {rs : List Nat} (h : SM w s x out ws rs) (k : Fr (fun _ => False) w w') : SM w' s x out ws rs := h.frame k (fun _ _ h => h)
section
variable {w : World} {s x : Nat} {out : List Nd} {ws : List Tk} {rs : List Nat}
set_option maxRecDepth 100000 in
set_option maxHeartbeats 4000000 in
theorem push_any (t : Tk) (h : SM w s x out ws rs) (hl : ws.length < 49) : Calls Tryz.prog 115 #[.pointer (some ⟨s, 0, none⟩), .int .i64 (tkWhat t), .int .i64 (tkN t : Nat), .int .i64 (tkAt t : Nat), .int .i64 (tkE t)] w fun v w' => v = .returned (.tuple #[]) ∧ SM w' s x out (t :: ws) rs ∧ Fr (fun b => SBld s b) w w' := by
  obtain ⟨g, fo, fw, fr, hB, hL, hO, ho, hW, hw, hR, hr⟩ := h
  have c5 := hB.cell (o := 5) (by omega)
  rw [hL.w5] at c5
  have c6 := hB.cell (o := 6) (by omega)
  rw [hL.n6] at c6
  have z := hB.frozen
  have zw := hW.frozen
  have l1 := hB.lt
  have l2 := hW.lt
  have m0 := hW.cell (o := ws.length * 4) (by omega)
  have m1 := hW.cell (o := ws.length * 4 + 1) (by omega)
  have m2 := hW.cell (o := ws.length * 4 + 2) (by omega)
  have m3 := hW.cell (o := ws.length * 4 + 3) (by omega)
  have hd : decide ((ws.length : Int) < 49) = true := decide_eq_true (by omega)
  have hb : (ws.length : Int) ≤ 48 := by omega
  go_enter Tryz.func115, Tryz.ntmps115
  go_wp2_with fail
  refine wp_region_text (by kernel_rfl) (by kernel_rfl) ?_
  go_wp2_with fail
  refine ⟨by kernel_rfl, ?_⟩
  go_wp2_with fail
  refine wp_region_text (by kernel_rfl) (by kernel_rfl) ?_
  go_wp2_with fail
  refine ⟨by kernel_rfl, ?_⟩
  go_wp2_with fail
  go_end0
  have FW := ((((Fr.refl (fun b => b = s + 4) w).setC (s + 4) (ws.length * 4) (.int .i64 (tkWhat t)) (fun _ => rfl)).setC (s + 4) (ws.length * 4 + 1) (.int .i64 (tkN t : Nat)) (fun _ => rfl)).setC (s + 4) (ws.length * 4 + 2) (.int .i64 (tkAt t : Nat)) (fun _ => rfl)).setC (s + 4) (ws.length * 4 + 3) (.int .i64 (tkE t)) (fun _ => rfl)
  have hW2 := (((hW.set (ws.length * 4) (.int .i64 (tkWhat t))).set (ws.length * 4 + 1) (.int .i64 (tkN t : Nat))).set (ws.length * 4 + 2) (.int .i64 (tkAt t : Nat))).set (ws.length * 4 + 3) (.int .i64 (tkE t))
  have hB2 := hB.frame FW (by omega)
  have FS := fun {W : World} => (Fr.refl (fun b => b = s) W).setC s 6 (.int .i64 ((ws.length : Int) + 1)) (fun _ => rfl)
  refine ⟨rfl, ⟨_, fo, _, fr, (hB2.set 6 (.int .i64 ((ws.length : Int) + 1))).drew.drew, hL.setW (ws.length + 1), ((hO.frame FW (by omega)).frame FS (by omega)).drew.drew, ho, (hW2.frame FS (by omega)).drew.drew, ?_, ((hR.frame FW (by omega)).frame FS (by omega)).drew.drew, hr⟩, ?_⟩
  · refine ⟨fun j hj => ?_, hw.same (fun o ho => ?_)⟩
    · obtain rfl | rfl | rfl | rfl : j = 0 ∨ j = 1 ∨ j = 2 ∨ j = 3 := by omega
      all_goals simp [upd, tkCell]
    · rw [upd_other _ _ _ _ (by omega), upd_other _ _ _ _ (by omega), upd_other _ _ _ _ (by omega), upd_other _ _ _ _ (by omega)]
  · exact ((FW.mono (S' := fun b => SBld s b) (fun b _ e => .inr (by omega))).trans FS (fun b _ e => .inl e)).drew.drew
set_option maxRecDepth 100000 in
set_option maxHeartbeats 4000000 in
theorem addS_any (nd : Nd) (h : SM w s x out ws rs) (hl : out.length < 31) : Calls Tryz.prog 121 #[.pointer (some ⟨s, 0, none⟩), ndV nd] w fun v w' => v = .returned (.int .i64 (out.length : Nat)) ∧ SM w' s x (out ++ [nd]) ws rs ∧ Fr (fun b => SBld s b) w w' := by
  obtain ⟨g, fo, fw, fr, hB, hL, hO, ho, hW, hw, hR, hr⟩ := h
  have c3 := hB.cell (o := 3) (by omega)
  rw [hL.o3] at c3
  have c4 := hB.cell (o := 4) (by omega)
  rw [hL.n4] at c4
  have z := hB.frozen
  have zo := hO.frozen
  have l1 := hB.lt
  have l2 := hO.lt
  have m0 := hO.cell (o := out.length * 11) (by omega)
  have m1 := hO.cell (o := out.length * 11 + 1) (by omega)
  have m2 := hO.cell (o := out.length * 11 + 2) (by omega)
  have m3 := hO.cell (o := out.length * 11 + 3) (by omega)
  have m4 := hO.cell (o := out.length * 11 + 4) (by omega)
  have m5 := hO.cell (o := out.length * 11 + 5) (by omega)
  have m6 := hO.cell (o := out.length * 11 + 6) (by omega)
  have m7 := hO.cell (o := out.length * 11 + 7) (by omega)
  have m8 := hO.cell (o := out.length * 11 + 8) (by omega)
  have m9 := hO.cell (o := out.length * 11 + 9) (by omega)
  have m10 := hO.cell (o := out.length * 11 + 10) (by omega)
  have hd : decide ((out.length : Int) < 31) = true := decide_eq_true (by omega)
  have hb : (out.length : Int) ≤ 30 := by omega
  unfold ndV
  go_enter Tryz.func121, Tryz.ntmps121
  go_wp2_with fail
  refine wp_region_text (by kernel_rfl) (by kernel_rfl) ?_
  go_wp2_with fail
  refine ⟨by kernel_rfl, ?_⟩
  go_wp2_with fail
  refine wp_region_text (by kernel_rfl) (by kernel_rfl) ?_
  go_wp2_with fail
  refine ⟨by kernel_rfl, ?_⟩
  go_wp2_with fail
  go_ret
  have FW := ((((((((((((Fr.refl (fun b => b = s + 3) w).setC (s + 3) (out.length * 11) (.int .i64 nd.kind) (fun _ => rfl)).setC (s + 3) (out.length * 11 + 1) (.int .i64 nd.a) (fun _ => rfl)).setC (s + 3) (out.length * 11 + 2) (.int .i64 nd.b) (fun _ => rfl)).setC (s + 3) (out.length * 11 + 3) (.int .i64 nd.mn) (fun _ => rfl)).setC (s + 3) (out.length * 11 + 4) (.int .i64 nd.mx) (fun _ => rfl)).setC (s + 3) (out.length * 11 + 5) (.int .i64 nd.cap) (fun _ => rfl)).setC (s + 3) (out.length * 11 + 6) (.bool nd.lz) (fun _ => rfl)).setC (s + 3) (out.length * 11 + 7) (.int .u64 (wd nd.st 0 : Nat)) (fun _ => rfl)).setC (s + 3) (out.length * 11 + 8) (.int .u64 (wd nd.st 1 : Nat)) (fun _ => rfl)).setC (s + 3) (out.length * 11 + 9) (.int .u64 (wd nd.st 2 : Nat)) (fun _ => rfl)).setC (s + 3) (out.length * 11 + 10) (.int .u64 (wd nd.st 3 : Nat)) (fun _ => rfl))
  have hO2 : Blk _ (s + 3) 341 (upd11 fo (out.length * 11) nd) := (((((((((((hO.set (out.length * 11) (.int .i64 nd.kind)).set (out.length * 11 + 1) (.int .i64 nd.a)).set (out.length * 11 + 2) (.int .i64 nd.b)).set (out.length * 11 + 3) (.int .i64 nd.mn)).set (out.length * 11 + 4) (.int .i64 nd.mx)).set (out.length * 11 + 5) (.int .i64 nd.cap)).set (out.length * 11 + 6) (.bool nd.lz)).set (out.length * 11 + 7) (.int .u64 (wd nd.st 0 : Nat))).set (out.length * 11 + 8) (.int .u64 (wd nd.st 1 : Nat))).set (out.length * 11 + 9) (.int .u64 (wd nd.st 2 : Nat))).set (out.length * 11 + 10) (.int .u64 (wd nd.st 3 : Nat)))
  have FS := fun {W : World} => (Fr.refl (fun b => b = s) W).setC s 4 (.int .i64 ((out.length : Int) + 1)) (fun _ => rfl)
  have FA := fun {W : World} => (((Fr.refl (fun _ => False) W).alloc (.cells #[.int .i64 nd.kind, .int .i64 nd.a, .int .i64 nd.b, .int .i64 nd.mn, .int .i64 nd.mx, .int .i64 nd.cap, .bool nd.lz, .int .u64 (wd nd.st 0 : Nat), .int .u64 (wd nd.st 1 : Nat), .int .u64 (wd nd.st 2 : Nat), .int .u64 (wd nd.st 3 : Nat)] 97)).drew).drew
  refine ⟨by simp, ⟨_, _, fw, fr, ((hB.frame FW (by omega)).set 4 (.int .i64 ((out.length : Int) + 1))).frame FA (fun h => h), by simpa using hL.setO (out.length + 1), (hO2.frame FS (by omega)).frame FA (fun h => h), ?_, ((hW.frame FW (by omega)).frame FS (by omega)).frame FA (fun h => h), hw, ((hR.frame FW (by omega)).frame FS (by omega)).frame FA (fun h => h), hr⟩, ?_⟩
  · intro i hi j hj
    by_cases hlt : i < out.length
    · rw [upd11_out _ _ _ _ (by omega), List.getElem_append_left hlt]
      exact ho i hlt j hj
    · obtain rfl : i = out.length := by simp at hi; omega
      rw [upd11_in _ _ _ j hj]
      simp
  · exact ((FW.mono (S' := fun b => SBld s b) (fun b _ e => .inr (by omega))).trans FS (fun b _ e => .inl e)).trans FA (fun _ _ h => h.elim)
set_option maxRecDepth 100000 in
set_option maxHeartbeats 1000000 in
theorem node_any (k a b : Int) (h : SM w s x out ws rs) (hl : out.length < 31) : Calls Tryz.prog 119 #[.pointer (some ⟨s, 0, none⟩), .int .i64 k, .int .i64 a, .int .i64 b] w fun v w' => v = .returned (.int .i64 (out.length : Nat)) ∧ SM w' s x (out ++ [⟨k, a, b, 0, 0, 0, false, noP⟩]) ws rs ∧ Fr (fun b => SBld s b) w w' := by
  have hv : ndV ⟨k, a, b, 0, 0, 0, false, noP⟩ = .agg #[.int .i64 k, .int .i64 a, .int .i64 b, .int .i64 0, .int .i64 0, .int .i64 0, .bool false, .int .u64 0, .int .u64 0, .int .u64 0, .int .u64 0] := by simp [ndV, wd_zero]
  go_enter Tryz.func119, Tryz.ntmps119
  go_wp2_with fail
  rw [← hv]
  refine (addS_any _ h hl).mono ?_
  rintro v w1 ⟨rfl, h1, f1⟩
  go_wp2_with fail
  go_ret
  exact ⟨rfl, h1, f1⟩
set_option maxRecDepth 100000 in
set_option maxHeartbeats 4000000 in
theorem pushRoot_any (r : Nat) (h : SM w s x out ws rs) (hl : rs.length < 25) : Calls Tryz.prog 120 #[.pointer (some ⟨s, 0, none⟩), .int .i64 (r : Nat)] w fun v w' => v = .returned (.tuple #[]) ∧ SM w' s x out ws (r :: rs) ∧ Fr (fun b => SBld s b) w w' := by
  obtain ⟨g, fo, fw, fr, hB, hL, hO, ho, hW, hw, hR, hr⟩ := h
  have c7 := hB.cell (o := 7) (by omega)
  rw [hL.r7] at c7
  have c8 := hB.cell (o := 8) (by omega)
  rw [hL.n8] at c8
  have z := hB.frozen
  have zr := hR.frozen
  have l1 := hB.lt
  have l2 := hR.lt
  have m0 := hR.cell (o := rs.length) (by omega)
  have hd : decide ((rs.length : Int) < 25) = true := decide_eq_true (by omega)
  have hb : (rs.length : Int) ≤ 24 := by omega
  go_enter Tryz.func120, Tryz.ntmps120
  go_wp2_with fail
  refine wp_region_text (by kernel_rfl) (by kernel_rfl) ?_
  go_wp2_with fail
  refine ⟨by kernel_rfl, ?_⟩
  go_wp2_with fail
  refine wp_region_text (by kernel_rfl) (by kernel_rfl) ?_
  go_wp2_with fail
  refine ⟨by kernel_rfl, ?_⟩
  go_wp2_with fail
  go_end0
  have FW := (Fr.refl (fun b => b = s + 5) w).setC (s + 5) rs.length (.int .i64 (r : Nat)) (fun _ => rfl)
  have FS := fun {W : World} => (Fr.refl (fun b => b = s) W).setC s 8 (.int .i64 ((rs.length : Int) + 1)) (fun _ => rfl)
  refine ⟨rfl, ⟨_, fo, fw, _, ((hB.frame FW (by omega)).set 8 (.int .i64 ((rs.length : Int) + 1))).drew.drew, hL.setR (rs.length + 1), ((hO.frame FW (by omega)).frame FS (by omega)).drew.drew, ho, ((hW.frame FW (by omega)).frame FS (by omega)).drew.drew, hw, ((hR.set rs.length (.int .i64 (r : Nat))).frame FS (by omega)).drew.drew, ?_⟩, ?_⟩
  · exact ⟨upd_same _ _ _, hr.same (fun o ho => upd_other _ _ _ _ (by omega))⟩
  · exact ((FW.mono (S' := fun b => SBld s b) (fun b _ e => .inr (by omega))).trans FS (fun b _ e => .inl e)).drew.drew
set_option maxRecDepth 100000 in
set_option maxHeartbeats 4000000 in
theorem popRoot_any {r : Nat} (h : SM w s x out ws (r :: rs)) (hl : rs.length < 25) : Calls Tryz.prog 118 #[.pointer (some ⟨s, 0, none⟩)] w fun v w' => v = .returned (.int .i64 (r : Nat)) ∧ SM w' s x out ws rs ∧ Fr (fun b => SBld s b) w w' := by
  obtain ⟨g, fo, fw, fr, hB, hL, hO, ho, hW, hw, hR, hr0, hr⟩ := h
  have c7 := hB.cell (o := 7) (by omega)
  rw [hL.r7] at c7
  have c8 := hB.cell (o := 8) (by omega)
  rw [hL.n8] at c8
  simp only [List.length_cons] at c8
  have z := hB.frozen
  have l1 := hB.lt
  have l2 := hR.lt
  have m0 := hR.cell (o := rs.length) (by omega)
  rw [hr0] at m0
  have hne : (((rs.length + 1 : Nat) : Int) == 0) = false := by simp; omega
  have hne' : (((rs.length : Nat) : Int) + 1 == 0) = false := by simp; omega
  have hb : (rs.length : Int) ≤ 24 := by omega
  go_enter Tryz.func118, Tryz.ntmps118
  go_wp2_with fail
  refine wp_region_text (by kernel_rfl) (by kernel_rfl) ?_
  go_wp2_with fail
  refine ⟨by kernel_rfl, ?_⟩
  go_wp2_with fail
  go_ret
  have FS := (Fr.refl (fun b => b = s) w).setC s 8 (.int .i64 (rs.length : Nat)) (fun _ => rfl)
  refine ⟨rfl, ⟨_, fo, fw, fr, ?_, hL.setR rs.length, (hO.frame FS (by omega)).drew, ho, (hW.frame FS (by omega)).drew, hw, (hR.frame FS (by omega)).drew, hr⟩, ?_⟩
  · exact (hB.set 8 (.int .i64 (rs.length : Nat))).drew
  · exact (FS.mono (fun b _ e => .inl e)).drew
end
end Go.Proofs.Qxb6500283aGreat
