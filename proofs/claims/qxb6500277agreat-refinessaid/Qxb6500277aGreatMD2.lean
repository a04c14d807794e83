/- The model checker: its lists turned. -/
import Derived.Test.Qxb6500277aGreatMD1
import Derived.Test.Qxb6500277aGreatCW8
namespace Go.Proofs.Qxb6500277aGreat
open Go Go.RowKit

section
variable {w w' : World} {B : Nat} {A : Ma} {X : Cx} {cur : Nat} {s : Ck} {er po : Int} {fv vv : Value} {n : Nat}
theorem zip_set {X : Cx} {l : List (Nat × Nat)} {c : Nat} {v : Nat × Nat} (hc : c < X.fs.length) : X.fs.zip (l.set c v) = (X.fs.zip l).set c (fAt X.fs c, v) := by
  apply List.ext_getElem
  · simp
  · intro i h1 h2
    simp only [List.getElem_zip]
    by_cases e : c = i
    · subst e
      rw [List.getElem_set_self, List.getElem_set_self]
      unfold fAt
      simp [List.getD_eq_getElem?_getD, hc]
    · rw [List.getElem_set_ne e, List.getElem_set_ne e, List.getElem_zip]
theorem bufF2_set {p : List FR} {c : Nat} {x : FR} (hc : c < p.length) {j : Nat} {v : Value} (hv : frC x j = v) (hj : j < 7) (ho : ∀ o, o < 7 → o ≠ j → frC x o = frC p[c] o) : ∀ o, o < p.length * 7 → upd (bufF2 p) (c * 7 + j) v o = bufF2 (p.set c x) o := by
  intro o h
  unfold bufF2
  by_cases e : o / 7 = c
  · have e2 : (p.set c x).getD (o / 7) fr0 = x := by rw [e]; simp [List.getD_eq_getElem?_getD, hc]
    have e3 : p.getD (o / 7) fr0 = p[c] := by rw [e]; simp [List.getD_eq_getElem?_getD, hc]
    simp only [upd]
    by_cases e4 : o = c * 7 + j
    · rw [if_pos e4, e2, ← hv]
      congr 1
      omega
    · rw [if_neg e4, e2, e3, ho _ (by omega) (by omega)]
  · have e2 : (p.set c x).getD (o / 7) fr0 = p.getD (o / 7) fr0 := by simp [List.getD_eq_getElem?_getD, List.getElem?_set_ne (fun h => e h.symm)]
    simp only [upd]
    rw [if_neg (by omega), e2]
theorem SlF.setAt {v : Value} {p : List FR} (h : SlF w v p) {c : Nat} (hc : c < p.length) {x : FR} {j : Nat} {u : Value} (hv : frC x j = u) (hj : j < 7) (ho : ∀ o, o < 7 → o ≠ j → frC x o = frC p[c] o) {b : Nat} (hb : isBlk v b) : SlF (w.setCell ⟨b, c * 7 + j, none⟩ u) v (p.set c x) := by
  rcases h with ⟨rfl, rfl⟩ | ⟨b', cap, f, rfl, hcap, hB, hf⟩
  · simp at hc
  · obtain ⟨_, _, e⟩ := hb
    injection e with e _ _
    injection e with e
    injection e with e
    subst e
    refine .inr ⟨b', cap, _, by simp, by simpa using hcap, hB.set (c * 7 + j) u, fun o h => ?_⟩
    rw [List.length_set] at h
    rw [← bufF2_set hc hv hj ho o h]
    simp only [upd]
    split
    · rfl
    · exact hf o h
/-- The most slots of the function at hand. -/
theorem MXc.setLR (H : MXc w B A X cur s er po fv vv) (hc : cur < X.fs.length) (v : Nat) (h12 : v ≤ 12) {b : Nat} (hb : isBlk fv b) : MXc (w.setCell ⟨b, cur * 7 + 5, none⟩ (.int .i64 v)) B A X cur { s with lim := s.lim.set cur ((lAt s.lim cur).1, v) } er po fv vv := by
  obtain ⟨d1, d2, d3, d4, d5, d6⟩ := H.fd b hb
  have k := (Fr.refl (fun c => c = b) w).setC b (cur * 7 + 5) (.int .i64 v) (fun _ => rfl)
  obtain ⟨hz, he⟩ := zip_get H hc
  have hll : cur < s.lim.length := by rw [H.lim]; exact hc
  refine ⟨H.blk.frame k (fun e => d1 e.symm), fun hn => ⟨(H.nds hn).1, by obtain ⟨g, g1, g2⟩ := (H.nds hn).2; exact ⟨g, g1.frame k (fun e => d2 e.symm), g2⟩⟩, ?_, H.vs.frame k (fun c n q e he => d5 (he ▸ isBlk_sl e)), H.tyb.frame k (fun e => d3 e.symm), H.rfb.frame k (fun e => d4 e.symm), H.tyl, H.rfl', H.dis, H.fd, H.vd, H.lo, H.n12, H.vl, H.xok, by simpa using H.lim, H.le, H.lvl, fun i => ?_, H.vt⟩
  · show SlF _ fv (X.fs.zip (s.lim.set cur ((lAt s.lim cur).1, v)))
    rw [zip_set hc]
    refine H.fs.setAt hz rfl (by omega) (fun o h1 h2 => ?_) hb
    rw [he]
    rcases lt7c h1 with rfl | rfl | rfl | rfl | rfl | rfl | rfl
    all_goals first
      | rfl
      | exact absurd rfl h2
  · show (lAt (s.lim.set cur ((lAt s.lim cur).1, v)) i).1 ≤ 12 ∧ _
    rw [lAt_set _ _ _ _ hll]
    have l1 := H.lm cur
    have l2 := H.lm i
    split
    · exact ⟨l1.1, h12⟩
    · exact l2
theorem MXc.setLI (H : MXc w B A X cur s er po fv vv) (hc : cur < X.fs.length) (v : Nat) (h12 : v ≤ 12) {b : Nat} (hb : isBlk fv b) : MXc (w.setCell ⟨b, cur * 7 + 4, none⟩ (.int .i64 v)) B A X cur { s with lim := s.lim.set cur (v, (lAt s.lim cur).2) } er po fv vv := by
  obtain ⟨d1, d2, d3, d4, d5, d6⟩ := H.fd b hb
  have k := (Fr.refl (fun c => c = b) w).setC b (cur * 7 + 4) (.int .i64 v) (fun _ => rfl)
  obtain ⟨hz, he⟩ := zip_get H hc
  have hll : cur < s.lim.length := by rw [H.lim]; exact hc
  refine ⟨H.blk.frame k (fun e => d1 e.symm), fun hn => ⟨(H.nds hn).1, by obtain ⟨g, g1, g2⟩ := (H.nds hn).2; exact ⟨g, g1.frame k (fun e => d2 e.symm), g2⟩⟩, ?_, H.vs.frame k (fun c n q e he => d5 (he ▸ isBlk_sl e)), H.tyb.frame k (fun e => d3 e.symm), H.rfb.frame k (fun e => d4 e.symm), H.tyl, H.rfl', H.dis, H.fd, H.vd, H.lo, H.n12, H.vl, H.xok, by simpa using H.lim, H.le, H.lvl, fun i => ?_, H.vt⟩
  · show SlF _ fv (X.fs.zip (s.lim.set cur (v, (lAt s.lim cur).2)))
    rw [zip_set hc]
    refine H.fs.setAt hz rfl (by omega) (fun o h1 h2 => ?_) hb
    rw [he]
    rcases lt7c h1 with rfl | rfl | rfl | rfl | rfl | rfl | rfl
    all_goals first
      | rfl
      | exact absurd rfl h2
  · show (lAt (s.lim.set cur (v, (lAt s.lim cur).2)) i).1 ≤ 12 ∧ _
    rw [lAt_set _ _ _ _ hll]
    have l1 := H.lm cur
    have l2 := H.lm i
    split
    · exact ⟨h12, l1.2⟩
    · exact l2
theorem lim_same {l : List (Nat × Nat)} {c : Nat} (hc : c < l.length) : l.set c (lAt l c) = l := by
  unfold lAt
  rw [List.getD_eq_getElem?_getD, List.getElem?_eq_getElem hc, Option.getD_some, List.set_getElem_self]
/-- The counts turned. -/
theorem MXc.setNr (H : MXc w B A X cur s er po fv vv) (v : Nat) (h12 : v ≤ 12) : MXc (w.setCell ⟨A.m, 6, none⟩ (.int .i64 v)) B A X cur { s with nr := v } er po fv vv :=
  H.turn ((Fr.refl (fun b => b = A.m) w).setC A.m 6 _ (fun _ => rfl)) ((H.blk.set 6 (.int .i64 v)).congr fun o ho => by
    rcases lt11c ho with rfl | rfl | rfl | rfl | rfl | rfl | rfl | rfl | rfl | rfl | rfl <;> simp [upd, mCell]) rfl rfl rfl rfl ⟨H.n12.1, h12⟩ H.lvl
theorem MXc.setNi (H : MXc w B A X cur s er po fv vv) (v : Nat) (h12 : v ≤ 12) : MXc (w.setCell ⟨A.m, 5, none⟩ (.int .i64 v)) B A X cur { s with ni := v } er po fv vv :=
  H.turn ((Fr.refl (fun b => b = A.m) w).setC A.m 5 _ (fun _ => rfl)) ((H.blk.set 5 (.int .i64 v)).congr fun o ho => by
    rcases lt11c ho with rfl | rfl | rfl | rfl | rfl | rfl | rfl | rfl | rfl | rfl | rfl <;> simp [upd, mCell]) rfl rfl rfl rfl ⟨h12, H.n12.2⟩ H.lvl
theorem MXc.setLv (H : MXc w B A X cur s er po fv vv) (v : Nat) (h4 : v ≤ 4000) : MXc (w.setCell ⟨A.m, 8, none⟩ (.int .i64 v)) B A X cur { s with lvl := v } er po fv vv :=
  H.turn ((Fr.refl (fun b => b = A.m) w).setC A.m 8 _ (fun _ => rfl)) ((H.blk.set 8 (.int .i64 v)).congr fun o ho => by
    rcases lt11c ho with rfl | rfl | rfl | rfl | rfl | rfl | rfl | rfl | rfl | rfl | rfl <;> simp [upd, mCell]) rfl rfl rfl rfl H.n12 h4
/-- The variables' list turned. -/
theorem MXc.setVs {vs' : List Vr} {v' : Value} {w8 : World} (H : MXc w B A X cur s er po fv vv) (hF : Fr (isBlk vv) w w8) (hV : SlV w8 v' vs') (hb : ∀ b, isBlk v' b → w.heap.size ≤ b ∨ isBlk vv b) (hBw : B ≤ w.heap.size) (hnb : A.nb < w.heap.size) (hl : vs'.length ≤ 24) (ht : ∀ i, 0 ≤ (vAt vs' i).ty ∧ (vAt vs' i).ty < 8) : MXc (w8.setCell ⟨A.m, 4, none⟩ v') B A X cur { s with vs := vs' } er po fv v' := by
  have hm := H.blk.lt
  have htb := H.tyb.lt
  have hrb := H.rfb.lt
  have vm : ¬ isBlk vv A.m := fun h => (H.vd _ h).1 rfl
  have vt : ¬ isBlk vv A.tb := fun h => (H.vd _ h).2.2.1 rfl
  have vr : ¬ isBlk vv A.rb := fun h => (H.vd _ h).2.2.2.1 rfl
  have vnb : ¬ isBlk vv A.nb := fun h => (H.vd _ h).2.1 rfl
  obtain ⟨d1, d2, d3, d4, d5, d6⟩ := H.dis
  have k : Fr (fun c => c = A.m) w8 (w8.setCell ⟨A.m, 4, none⟩ v') := (Fr.refl (fun c => c = A.m) w8).setC A.m 4 v' (fun _ => rfl)
  have nm' : ¬ isBlk v' A.m := fun h => (hb _ h).elim (fun h => by omega) vm
  refine ⟨((H.blk.frame hF vm).set 4 v').congr fun o ho => ?_, fun hn => ⟨(H.nds hn).1, by obtain ⟨g, g1, g2⟩ := (H.nds hn).2; exact ⟨g, (g1.frame hF vnb).frame k (fun e => d1 e.symm), g2⟩⟩, (H.fs.frame hF (fun b n c e he => (H.fd b (isBlk_sl e)).2.2.2.2.1 he)).frame k (fun b n c e he => (H.fd b (isBlk_sl e)).1 he), hV.frame k (fun b n c e he => nm' (he ▸ isBlk_sl e)), (H.tyb.frame hF vt).frame k (fun e => d2 e.symm), (H.rfb.frame hF vr).frame k (fun e => d3 e.symm), H.tyl, H.rfl', H.dis, fun b hf => ?_, fun b hv => ?_, H.lo, H.n12, hl, H.xok, H.lim, H.le, H.lvl, H.lm, ht⟩
  · rcases lt11c ho with rfl | rfl | rfl | rfl | rfl | rfl | rfl | rfl | rfl | rfl | rfl <;> simp [upd, mCell]
  · obtain ⟨a1, a2, a3, a4, a5, a6⟩ := H.fd b hf
    have hlt : b < w.heap.size := by
      obtain ⟨n, c, rfl⟩ := hf
      rcases H.fs with ⟨e, _⟩ | ⟨b', cap, f, e, _, hb', _⟩
      · cases e
      · injection e with e _ _; injection e with e; injection e with e; subst e; exact hb'.lt
    exact ⟨a1, a2, a3, a4, fun h => (hb b h).elim (fun h => by omega) a5, a6⟩
  · rcases hb b hv with h | h
    · exact ⟨by omega, by omega, by omega, by omega, by omega⟩
    · exact H.vd b h
end
end Go.Proofs.Qxb6500277aGreat
