/- The real parser's join. -/
import Derived.Test.Qxb6500283aGreatB2
namespace Go.Proofs.Qxb6500283aGreat
open Go Go.RowKit

section
variable {f f' : Nat → Value} {p : ByteArray} {iv : Int} {ns : List Nd} {g : Nat} {t : Frm} {r : List Frm} {e q : Int}
theorem lt5 {j : Nat} (h : j < 5) : j = 0 ∨ j = 1 ∨ j = 2 ∨ j = 3 ∨ j = 4 := by omega
theorem Lay.atom (h : Lay f p iv ns g t r e q) (hl : ns.length ≤ 24) (hd : r.length ≤ 5) (a : Option Nat) : Lay (upd f (291 + r.length * 5 + 2) (.int .i64 (oi a))) p iv ns g ⟨t.alt, t.cat, a, t.num, t.at_⟩ r e q :=
  h.top hl hd (fun j hj => by
    rcases lt5 hj with rfl | rfl | rfl | rfl | rfl
    · rw [upd_other _ _ _ _ (by omega), h.st.1 0 (by omega)]; rfl
    · rw [upd_other _ _ _ _ (by omega), h.st.1 1 (by omega)]; rfl
    · rw [upd_same]; rfl
    · rw [upd_other _ _ _ _ (by omega), h.st.1 3 (by omega)]; rfl
    · rw [upd_other _ _ _ _ (by omega), h.st.1 4 (by omega)]; rfl) (fun o h1 h2 => upd_other _ _ _ _ (by omega))
theorem Lay.cat (h : Lay f p iv ns g t r e q) (hl : ns.length ≤ 24) (hd : r.length ≤ 5) (a : Option Nat) : Lay (upd f (291 + r.length * 5 + 1) (.int .i64 (oi a))) p iv ns g ⟨t.alt, a, t.atom, t.num, t.at_⟩ r e q :=
  h.top hl hd (fun j hj => by
    rcases lt5 hj with rfl | rfl | rfl | rfl | rfl
    · rw [upd_other _ _ _ _ (by omega), h.st.1 0 (by omega)]; rfl
    · rw [upd_same]; rfl
    · rw [upd_other _ _ _ _ (by omega), h.st.1 2 (by omega)]; rfl
    · rw [upd_other _ _ _ _ (by omega), h.st.1 3 (by omega)]; rfl
    · rw [upd_other _ _ _ _ (by omega), h.st.1 4 (by omega)]; rfl) (fun o h1 h2 => upd_other _ _ _ _ (by omega))
theorem Lay.alt (h : Lay f p iv ns g t r e q) (hl : ns.length ≤ 24) (hd : r.length ≤ 5) (a : Option Nat) : Lay (upd f (291 + r.length * 5) (.int .i64 (oi a))) p iv ns g ⟨a, t.cat, t.atom, t.num, t.at_⟩ r e q :=
  h.top hl hd (fun j hj => by
    rcases lt5 hj with rfl | rfl | rfl | rfl | rfl
    · rw [Nat.add_zero, upd_same]; rfl
    · rw [upd_other _ _ _ _ (by omega), h.st.1 1 (by omega)]; rfl
    · rw [upd_other _ _ _ _ (by omega), h.st.1 2 (by omega)]; rfl
    · rw [upd_other _ _ _ _ (by omega), h.st.1 3 (by omega)]; rfl
    · rw [upd_other _ _ _ _ (by omega), h.st.1 4 (by omega)]; rfl) (fun o h1 h2 => upd_other _ _ _ _ (by omega))
end
/-- The parser in memory: no error stands. -/
def RMem (w : World) (x : Nat) (p : ByteArray) (T : Rs) : Prop := ∃ f q, Blk w x 325 f ∧ Lay f p T.s.i T.s.ns T.s.g T.f T.r 0 q
/-- An error stands. -/
def RErr (w : World) (x : Nat) (p : ByteArray) (e : Int) (q : Int) : Prop := ∃ f iv ns g t r, Blk w x 325 f ∧ Lay f p iv ns g t r e q ∧ WF ns ∧ ns.length ≤ 24 ∧ g ≤ 3 ∧ r.length ≤ 5
def RPost (w : World) (x : Nat) (p : ByteArray) (res : Except Er Rs) (w' : World) : Prop :=
  Fr (fun b => b = x) w w' ∧ match res with | .ok T => RMem w' x p T | .error e => RErr w' x p e.1 (e.2 : Nat)
theorem ndV_cat (a b : Nat) : ndV (catNd a b) = .agg #[.int .i64 4, .int .i64 a, .int .i64 b, .int .i64 0, .int .i64 0, .int .i64 0, .bool false, .int .u64 0, .int .u64 0, .int .u64 0, .int .u64 0] := by simp [ndV, catNd, wd_zero]
theorem ndV_alt (a b : Nat) : ndV (altNd a b) = .agg #[.int .i64 5, .int .i64 a, .int .i64 b, .int .i64 0, .int .i64 0, .int .i64 0, .bool false, .int .u64 0, .int .u64 0, .int .u64 0, .int .u64 0] := by simp [ndV, altNd, wd_zero]
theorem ndV_grp (a c : Nat) : ndV (grpNd a c) = .agg #[.int .i64 7, .int .i64 a, .int .i64 (-1), .int .i64 0, .int .i64 0, .int .i64 c, .bool false, .int .u64 0, .int .u64 0, .int .u64 0, .int .u64 0] := by simp [ndV, grpNd, wd_zero]
theorem ndV_rep (a : Nat) (lo hi : Int) (z : Bool) : ndV (repNd a lo hi z) = .agg #[.int .i64 6, .int .i64 a, .int .i64 (-1), .int .i64 lo, .int .i64 hi, .int .i64 0, .bool z, .int .u64 0, .int .u64 0, .int .u64 0, .int .u64 0] := by simp [ndV, repNd, wd_zero]
theorem ndV_emp : ndV (leafNd 0 noP) = .agg #[.int .i64 0, .int .i64 (-1), .int .i64 (-1), .int .i64 0, .int .i64 0, .int .i64 0, .bool false, .int .u64 0, .int .u64 0, .int .u64 0, .int .u64 0] := by simp [ndV, leafNd, wd_zero]
theorem addS_full {s : Sg} {n : Nd} (h : 24 ≤ s.ns.length) : addS s n = .error (8, s.i) := by unfold addS; rw [if_pos h]
theorem addS_room {s : Sg} {n : Nd} (h : s.ns.length < 24) : addS s n = .ok (s.ns.length, ⟨s.i, s.ns ++ [n], s.g⟩) := by unfold addS; rw [if_neg (by omega)]
theorem AddPost.full {w : World} {x : Nat} {p : ByteArray} {i : Nat} {ns : List Nd} {g : Nat} {t : Frm} {r : List Frm} {q0 : Int} {nd : Nd} {e : Ending} {w' : World} (h : AddPost w x p i ns g t r q0 nd e w') (hf : 24 ≤ ns.length) : e = .returned (.int .i64 (-1)) ∧ Fr (fun b => b = x) w w' ∧ ∃ f', Blk w' x 325 f' ∧ Lay f' p i ns g t r 8 i := by
  obtain ⟨h1, h2 | h2⟩ := h
  · exact ⟨h2.2.1, h1, h2.2.2⟩
  · omega
theorem AddPost.room {w : World} {x : Nat} {p : ByteArray} {i : Nat} {ns : List Nd} {g : Nat} {t : Frm} {r : List Frm} {q0 : Int} {nd : Nd} {e : Ending} {w' : World} (h : AddPost w x p i ns g t r q0 nd e w') (hf : ns.length < 24) : e = .returned (.int .i64 (ns.length : Nat)) ∧ Fr (fun b => b = x) w w' ∧ ∃ f', Blk w' x 325 f' ∧ Lay f' p i (ns ++ [nd]) g t r 0 q0 := by
  obtain ⟨h1, h2 | h2⟩ := h
  · omega
  · exact ⟨h2.2.1, h1, h2.2.2⟩
set_option maxRecDepth 100000 in
set_option maxHeartbeats 8000000 in
theorem joinR_any {w : World} {x : Nat} {p : ByteArray} {T : Rs} (hM : RMem w x p T) (hT : RsOk p T) : Calls Tryz.prog 108 #[.pointer (some ⟨x, 0, none⟩)] w fun e w' => e = .returned (.tuple #[]) ∧ RPost w x p (joinR T) w' := by
  obtain ⟨f, q, hb, hL⟩ := hM
  obtain ⟨⟨hwf, hlen, hg3, hiz⟩, ⟨hfa, hfc, hft, hfn, hfp⟩, hfr, hd⟩ := hT
  obtain ⟨⟨i, ns, g⟩, ⟨al, ct, at', num, pl⟩, r⟩ := T
  simp only at hL hwf hlen hg3 hiz hfa hfc hft hfn hfp hfr hd
  have cd := hb.cell (o := 321) (by omega)
  rw [hL.dp] at cd
  have c1 := hb.cell (o := 291 + r.length * 5 + 1) (by omega)
  rw [hL.st.1 1 (by omega)] at c1
  have c2 := hb.cell (o := 291 + r.length * 5 + 2) (by omega)
  rw [hL.st.1 2 (by omega)] at c2
  simp only [frCell] at c1 c2
  have z := hb.frozen
  go_enter Tryz.func108, Tryz.ntmps108
  cases at' with
  | none =>
    simp only [oi] at c2
    go_wp2_with fail
    exact bodyPost_ret (v := .tuple #[]) (by simp [results, Tryz.results108, go_sem]) rfl ⟨rfl, Fr.refl _ _, f, q, hb, hL⟩
  | some a =>
    simp only [oi] at c2
    have ha := hft a rfl
    have hb1 := hb.set (291 + r.length * 5 + 2) (.int .i64 (-1))
    have hL1 := hL.atom hlen hd none
    have F1 := (Fr.refl (fun b => b = x) w).setC x (291 + r.length * 5 + 2) (.int .i64 (-1)) (fun _ => rfl)
    cases ct with
    | none =>
      simp only [oi] at c1
      go_wp2_with fail
      exact bodyPost_ret (v := .tuple #[]) (by simp [results, Tryz.results108, go_sem]) rfl ⟨rfl, F1.setC x (291 + r.length * 5 + 1) _ (fun _ => rfl), _, q, hb1.set (291 + r.length * 5 + 1) _, hL1.cat hlen hd (some a)⟩
    | some c =>
      simp only [oi] at c1
      have hc := hfc c rfl
      have hok : okNd ns.length (catNd c a) := okNd.cat hc ha
      by_cases hfull : 24 ≤ ns.length
      · go_wp2_with fail
        go_region_with (rw [← ndV_cat]; refine (addR_any (catNd c a) hb1.drew hL1 hlen hd hok).mono ?_; intro e w2 hA; obtain ⟨rfl, f2, f', hb2, hL2⟩ := hA.full hfull; have b1 := hb2.cell (o := 291 + r.length * 5 + 1) (by omega); have z2 := hb2.frozen)
        all_goals
          go_end0
          refine ⟨rfl, (F1.drew.trans f2 (fun _ _ h => h)).setC x (291 + r.length * 5 + 1) _ (fun _ => rfl), ?_⟩
          rw [show joinR _ = .error (8, i) by simp only [joinR, joinN]; rw [addS_full hfull]]
          exact ⟨_, i, ns, g, _, r, hb2.set (291 + r.length * 5 + 1) _, hL2.cat hlen hd none, hwf, hlen, hg3, hd⟩
      · have hnf : ns.length < 24 := by omega
        clear hfull
        go_wp2_with fail
        go_region_with (rw [← ndV_cat]; refine (addR_any (catNd c a) hb1.drew hL1 hlen hd hok).mono ?_; intro e w2 hA; obtain ⟨rfl, f2, f', hb2, hL2⟩ := hA.room hnf; have b1 := hb2.cell (o := 291 + r.length * 5 + 1) (by omega); have z2 := hb2.frozen)
        all_goals
          go_end0
          refine ⟨rfl, (F1.drew.trans f2 (fun _ _ h => h)).setC x (291 + r.length * 5 + 1) _ (fun _ => rfl), ?_⟩
          rw [show joinR _ = .ok ⟨⟨i, ns ++ [catNd c a], g⟩, ⟨al, some ns.length, none, num, pl⟩, r⟩ by simp only [joinR, joinN]; rw [addS_room hnf]]
          exact ⟨_, q, hb2.set (291 + r.length * 5 + 1) _, hL2.cat (by simp; omega) hd (some ns.length)⟩
end Go.Proofs.Qxb6500283aGreat
