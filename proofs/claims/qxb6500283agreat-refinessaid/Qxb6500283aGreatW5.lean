/- child; what open needs. -/
import Derived.Test.Qxb6500283aGreatW4c
import Derived.Test.Qxb6500283aGreatW4d
import Derived.Test.Qxb6500283aGreatW4e
namespace Go.Proofs.Qxb6500283aGreat
open Go Go.RowKit

/-- Shapes and sizes in memory. -/
def ZM (w : World) (s : Nat) (ns : List Nd) (m : Nat) : Prop := ∃ f1 f2 : Nat → Value, Blk w (s + 1) 24 f1 ∧ Blk w (s + 2) 24 f2 ∧ ∀ k, k < m → f1 k = .int .i64 ((zz ns k).1 : Nat) ∧ f2 k = .int .i64 ((zz ns k).2 : Nat)
theorem ZM.frame {S : Nat → Prop} {w w' : World} {s m : Nat} {ns : List Nd} (h : ZM w s ns m) (k : Fr S w w') (h1 : ¬ S (s + 1)) (h2 : ¬ S (s + 2)) : ZM w' s ns m := by
  obtain ⟨f1, f2, a, b, c⟩ := h
  exact ⟨f1, f2, a.frame k h1, b.frame k h2, c⟩
theorem ZM.bld {w w' : World} {s m : Nat} {ns : List Nd} (h : ZM w s ns m) (k : Fr (fun b => SBld s b) w w') : ZM w' s ns m := h.frame k (by unfold SBld; omega) (by unfold SBld; omega)
theorem ZM.shape {w : World} {s m : Nat} {ns : List Nd} (h : ZM w s ns m) {k : Nat} (hk : k < m) (h24 : m ≤ 24) : w.cell? ⟨s + 1, k, none⟩ = some (.int .i64 ((zz ns k).1 : Nat)) := by
  obtain ⟨f1, f2, a, b, c⟩ := h
  rw [a.cell (by omega), (c k hk).1]
theorem ZM.size {w : World} {s m : Nat} {ns : List Nd} (h : ZM w s ns m) {k : Nat} (hk : k < m) (h24 : m ≤ 24) : w.cell? ⟨s + 2, k, none⟩ = some (.int .i64 ((zz ns k).2 : Nat)) := by
  obtain ⟨f1, f2, a, b, c⟩ := h
  rw [b.cell (by omega), (c k hk).2]
theorem SM.cells {w : World} {s x : Nat} {out : List Nd} {ws : List Tk} {rs : List Nat} (h : SM w s x out ws rs) : w.cell? ⟨s, 0, none⟩ = some (.pointer (some ⟨x, 0, none⟩)) ∧ w.cell? ⟨s, 1, none⟩ = some (.slice (some ⟨s + 1, 0, none⟩) 24 24) ∧ w.cell? ⟨s, 2, none⟩ = some (.slice (some ⟨s + 2, 0, none⟩) 24 24) ∧ w.cell? ⟨s, 4, none⟩ = some (.int .i64 (out.length : Nat)) ∧ s + 5 < w.heap.size := by
  obtain ⟨g, fo, fw, fr, hB, hL, hO, ho, hW, hw, hR, hr⟩ := h
  exact ⟨by rw [hB.cell (by omega), hL.p0], by rw [hB.cell (by omega), hL.s1], by rw [hB.cell (by omega), hL.s2], by rw [hB.cell (by omega), hL.n4], hR.lt⟩
/-- The nodes lie in memory. -/
def NM (w : World) (tb : Nat) (ns : List Nd) : Prop := ∃ f, Blk w tb (ns.length * 11) f ∧ Holds11 f ns
theorem NM.frame {S : Nat → Prop} {w w' : World} {tb : Nat} {ns : List Nd} (h : NM w tb ns) (k : Fr S w w') (hS : ¬ S tb) : NM w' tb ns := by
  obtain ⟨f, a, b⟩ := h
  exact ⟨f, a.frame k hS, b⟩
theorem NM.at {w : World} {tb : Nat} {ns : List Nd} (h : NM w tb ns) : NPAt w tb ns := by
  obtain ⟨f, a, b⟩ := h
  exact b.at a (Nat.le_refl _)
/-- One step of the builder. -/
def StepP (ns : List Nd) (E s x : Nat) (t : Tk) (ws : List Tk) (S : BSt) (w w' : World) : Prop := ∃ out' ts rs', SM w' s x out' (ts ++ ws) rs' ∧ WOk ns E out'.length rs'.length (ts ++ ws) ∧ denL ns ts (out', rs') = den ns t S ∧ ContOk ns ts (out', rs') ∧ wt (ts ++ ws) < wt (t :: ws) ∧ Fr (fun b => SBld s b) w w'
section
variable {w : World} {s x n E : Nat} {ns : List Nd} {out : List Nd} {ws : List Tk} {rs : List Nat}
set_option maxRecDepth 100000 in
set_option maxHeartbeats 4000000 in
theorem child_any (h : SM w s x out ws rs) (hZ : ZM w s ns ns.length) (h24 : ns.length ≤ 24) (hwf : WF ns) (hrb : ∀ k (h : k < ns.length), RB ns[k]) (hE : E ≤ 31) (hW : WOk ns E out.length rs.length (.child n :: ws)) :
    Calls Tryz.prog 116 #[.pointer (some ⟨s, 0, none⟩), .int .i64 (n : Nat)] w fun v w' => v = .returned (.tuple #[]) ∧ StepP ns E s x (.child n) ws (out, rs) w w' := by
  obtain ⟨hn, hR, hws, hWr⟩ : n < ns.length ∧ rs.length + n + 1 ≤ 25 ∧ ws.length + 2 * n + 3 ≤ 49 ∧ WOk ns E (out.length + (chdW (zz ns n) (bld ns n) 0).length) (rs.length + 1) ws := by
    cases hW with
    | child a b c d => exact ⟨a, b, c, d⟩
  obtain ⟨_, c1, _, _, hl⟩ := h.cells
  have z := hZ.shape hn h24
  have hnI : (n : Int) ≤ 23 := by omega
  have hlt := hWr.le hwf hrb
  have hne := (core_main hwf hrb n hn).chd.1.ne
  have hok := (core_main hwf hrb n hn).ok.sh
  go_enter Tryz.func116, Tryz.ntmps116
  by_cases h2 : (zz ns n).1 = 2
  · have hst := st_child_whole h2 hW (out, rs)
    rw [h2] at z
    have Hst : Hid _ := hst
    have Hw : Hid (wt (.build n :: ws) < wt (.child n :: ws)) := by show wt (.build n :: ws) < wt (.child n :: ws); rw [wt_cons, wt_cons]; simp only [wtT]; omega
    clear hst hW hWr h2
    go_wp2_with fail
    refine (push_any (.build n) h (by omega)).mono ?_
    rintro v w1 ⟨rfl, h1, f1⟩
    go_wp2_with fail
    refine bodyPost_ret (v := .tuple #[]) (by simp [results, Tryz.results116, go_sem]) rfl ⟨rfl, out, [.build n], rs, h1, Hst.out.2, Hst.out.1.symm, ⟨trivial, trivial⟩, Hw.out, f1⟩
  · have hst := st_child_leaf h2 hW (out, rs)
    have Hst : Hid _ := hst
    have Hw : Hid (wt ws < wt (.child n :: ws)) := by show wt ws < wt (.child n :: ws); rw [wt_cons]; simp only [wtT]; have := pow4_pos n; omega
    clear hst hW hWr
    have hol : out.length < 31 := by omega
    by_cases h0 : (zz ns n).1 = 0
    · rw [h0] at z
      rw [if_pos h0] at Hst
      clear h2 h0
      go_wp2_with fail
      refine (node_any 0 (-1) (-1) h hol).mono ?_
      rintro v w1 ⟨rfl, h1, f1⟩
      go_wp2_with fail
      refine (pushRoot_any out.length h1 (by omega)).mono ?_
      rintro v w2 ⟨rfl, h2, f2⟩
      go_wp2_with fail
      go_end0
      refine ⟨rfl, _, [], _, h2, ?_, ?_, trivial, Hw.out, f1.trans f2 (fun _ _ h => h)⟩
      · simpa using Hst.out.2.1
      · rw [Hst.out.1]; rfl
    · have h1 : (zz ns n).1 = 1 := by omega
      rw [h1] at z
      rw [if_neg h0] at Hst
      clear h2 h0 h1
      go_wp2_with fail
      refine (node_any 1 (-1) (-1) h hol).mono ?_
      rintro v w1 ⟨rfl, h1, f1⟩
      go_wp2_with fail
      refine (pushRoot_any out.length h1 (by omega)).mono ?_
      rintro v w2 ⟨rfl, h2, f2⟩
      go_wp2_with fail
      go_end0
      refine ⟨rfl, _, [], _, h2, ?_, ?_, trivial, Hw.out, f1.trans f2 (fun _ _ h => h)⟩
      · simpa using Hst.out.2.1
      · rw [Hst.out.1]; rfl
end
end Go.Proofs.Qxb6500283aGreat
