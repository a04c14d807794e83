/- open. -/
import Derived.Test.Qxb6500283aGreatW5
namespace Go.Proofs.Qxb6500283aGreat
open Go Go.RowKit

set_option maxRecDepth 100000 in
set_option maxHeartbeats 4000000 in
theorem open_grp {w : World} {s x n E tb ncap : Nat} {ns : List Nd} {out : List Nd} {ws : List Tk} {rs : List Nat} {na : Nat} {mn mx cp : Int} {lz : Bool} {st : BSet} (h : SM w s x out ws rs) (hNM : NM w tb ns) (h24 : ns.length ≤ 24) (hwf : WF ns) (hrb : ∀ k (h : k < ns.length), RB ns[k]) (hE : E ≤ 31) (hn : n < ns.length) (hnd : ns[n] = ⟨7, (na : Nat), (-1), mn, mx, cp, lz, st⟩) (hna : na < n) (hW : WOk ns E out.length rs.length (.build n :: ws)) :
    Calls Tryz.prog 117 #[.pointer (some ⟨s, 0, none⟩), .slice (some ⟨tb, 0, none⟩) ns.length ncap, .int .i64 (n : Nat)] w fun v w' => v = .returned (.tuple #[]) ∧ StepP ns E s x (.build n) ws (out, rs) w w' := by
  have hN := hNM.at
  have n0 := hN n hn 0 (by omega)
  have n1 := hN n hn 1 (by omega)
  have n2 := hN n hn 2 (by omega)
  have n3 := hN n hn 3 (by omega)
  have n4 := hN n hn 4 (by omega)
  have n5 := hN n hn 5 (by omega)
  have n6 := hN n hn 6 (by omega)
  have n7 := hN n hn 7 (by omega)
  have n8 := hN n hn 8 (by omega)
  have n9 := hN n hn 9 (by omega)
  have n10 := hN n hn 10 (by omega)
  rw [hnd] at n0 n1 n2 n3 n4 n5 n6 n7 n8 n9 n10
  simp only [ndCell, Nat.add_zero] at n0 n1 n2 n3 n4 n5 n6 n7 n8 n9 n10
  have htl : tb < w.heap.size := by
    obtain ⟨f, a, _⟩ := hNM
    exact a.lt
  obtain ⟨_, c1, _, c4, hl⟩ := h.cells
  have hl0 : s < w.heap.size := by omega
  have hl1 : s + 1 < w.heap.size := by omega
  have hnI : (n : Int) ≤ 23 := by omega
  have FA := (Fr.refl (fun _ => False) w).alloc (.cells #[.int .i64 7, .int .i64 (na : Nat), .int .i64 (-1), .int .i64 mn, .int .i64 mx, .int .i64 cp, .bool lz, .int .u64 (wd st 0 : Nat), .int .u64 (wd st 1 : Nat), .int .u64 (wd st 2 : Nat), .int .u64 (wd st 3 : Nat)] 97)
  have h1 := h.idle FA
  have hB1 := Blk.nd w ⟨7, (na : Nat), (-1), mn, mx, cp, lz, st⟩
  have FS := FA.mono (S' := fun b => SBld s b) (fun _ _ h => h.elim)
  have hws : ws.length + 2 * n + 3 ≤ 49 := by cases hW; assumption
  have hrs : rs.length + n + 1 ≤ 25 := by cases hW; assumption
  have hle := hW.le hwf hrb
  have hnaI : (na : Int) ≤ 23 := by omega
  have hkd : ns[n].kind = 7 := by rw [hnd]
  have hana : ns[n].a.toNat = na := by rw [hnd]; rfl
  have p1 := pow4 hna
  have p3 := pow4_pos na
  have hst0 := st_group hwf (fun _ => hkd) hW hn (out, rs)
  rw [hana] at hst0
  have Hst : Hid _ := hst0
  have Hwt : Hid (wt (.child na :: .group n :: ws) < wt (.build n :: ws)) := by show wt (.child na :: .group n :: ws) < wt (.build n :: ws); rw [wt_cons, wt_cons, wt_cons]; simp only [wtT]; omega
  clear hst0 hW hana hkd hnd
  go_enter Tryz.func117, Tryz.ntmps117
  go_wp2_with fail
  refine (push_any (.group n) h1 (by omega)).mono ?_
  rintro v w2 ⟨rfl, h2, f2⟩
  have hB2 := hB1.frame f2 (by unfold SBld; omega)
  have b1 := hB2.cell (o := 1) (by omega)
  simp only [ndCell] at b1
  have lb_hB2 := hB2.lt
  go_wp2_with fail
  refine (push_any (.child na) h2 (by simp; omega)).mono ?_
  rintro v w3 ⟨rfl, h3, f3⟩
  go_wp2_with fail
  go_end0
  exact ⟨rfl, out, [.child na, .group n], rs, h3, Hst.out.2, Hst.out.1.symm, ⟨trivial, trivial, trivial⟩, Hwt.out, (FS.trans f2 (fun _ _ h => h)).trans f3 (fun _ _ h => h)⟩
set_option maxRecDepth 100000 in
set_option maxHeartbeats 4000000 in
theorem open_leaf1 {w : World} {s x n E tb ncap : Nat} {ns : List Nd} {out : List Nd} {ws : List Tk} {rs : List Nat} {mn mx cp : Int} {lz : Bool} {st : BSet} (h : SM w s x out ws rs) (hNM : NM w tb ns) (h24 : ns.length ≤ 24) (hwf : WF ns) (hrb : ∀ k (h : k < ns.length), RB ns[k]) (hE : E ≤ 31) (hn : n < ns.length) (hnd : ns[n] = ⟨1, (-1), (-1), mn, mx, cp, lz, st⟩)  (hW : WOk ns E out.length rs.length (.build n :: ws)) :
    Calls Tryz.prog 117 #[.pointer (some ⟨s, 0, none⟩), .slice (some ⟨tb, 0, none⟩) ns.length ncap, .int .i64 (n : Nat)] w fun v w' => v = .returned (.tuple #[]) ∧ StepP ns E s x (.build n) ws (out, rs) w w' := by
  have hN := hNM.at
  have n0 := hN n hn 0 (by omega)
  have n1 := hN n hn 1 (by omega)
  have n2 := hN n hn 2 (by omega)
  have n3 := hN n hn 3 (by omega)
  have n4 := hN n hn 4 (by omega)
  have n5 := hN n hn 5 (by omega)
  have n6 := hN n hn 6 (by omega)
  have n7 := hN n hn 7 (by omega)
  have n8 := hN n hn 8 (by omega)
  have n9 := hN n hn 9 (by omega)
  have n10 := hN n hn 10 (by omega)
  rw [hnd] at n0 n1 n2 n3 n4 n5 n6 n7 n8 n9 n10
  simp only [ndCell, Nat.add_zero] at n0 n1 n2 n3 n4 n5 n6 n7 n8 n9 n10
  have htl : tb < w.heap.size := by
    obtain ⟨f, a, _⟩ := hNM
    exact a.lt
  obtain ⟨_, c1, _, c4, hl⟩ := h.cells
  have hl0 : s < w.heap.size := by omega
  have hl1 : s + 1 < w.heap.size := by omega
  have hnI : (n : Int) ≤ 23 := by omega
  have FA := (Fr.refl (fun _ => False) w).alloc (.cells #[.int .i64 1, .int .i64 (-1), .int .i64 (-1), .int .i64 mn, .int .i64 mx, .int .i64 cp, .bool lz, .int .u64 (wd st 0 : Nat), .int .u64 (wd st 1 : Nat), .int .u64 (wd st 2 : Nat), .int .u64 (wd st 3 : Nat)] 97)
  have h1 := h.idle FA
  have hB1 := Blk.nd w ⟨1, (-1), (-1), mn, mx, cp, lz, st⟩
  have FS := FA.mono (S' := fun b => SBld s b) (fun _ _ h => h.elim)
  have hws : ws.length + 2 * n + 3 ≤ 49 := by cases hW; assumption
  have hrs : rs.length + n + 1 ≤ 25 := by cases hW; assumption
  have hle := hW.le hwf hrb
  have hkd : ns[n].kind = 1 ∨ ns[n].kind = 2 ∨ ns[n].kind = 3 := by rw [hnd]; simp
  have Hst : Hid _ := st_leaf hwf (fun _ => hkd) hW hn (out, rs)
  have hol : out.length < 31 := by have := Hst.out.2.1.le hwf hrb; omega
  have Hwt : Hid (wt ws < wt (.build n :: ws)) := by show wt ws < wt (.build n :: ws); rw [wt_cons]; simp only [wtT]; have := pow4_pos n; omega
  have Hnd : Hid _ := hnd
  clear hW hkd hnd
  go_enter Tryz.func117, Tryz.ntmps117
  go_wp2_with fail
  have hv : ndV ⟨1, -1, -1, mn, mx, cp, lz, st⟩ = .agg #[.int .i64 1, .int .i64 (-1), .int .i64 (-1), .int .i64 mn, .int .i64 mx, .int .i64 cp, .bool lz, .int .u64 (wd st 0 : Nat), .int .u64 (wd st 1 : Nat), .int .u64 (wd st 2 : Nat), .int .u64 (wd st 3 : Nat)] := rfl
  rw [← hv]
  refine (addS_any _ h1 hol).mono ?_
  rintro v w2 ⟨rfl, h2, f2⟩
  go_wp2_with fail
  refine (pushRoot_any out.length h2 (by omega)).mono ?_
  rintro v w3 ⟨rfl, h3, f3⟩
  go_wp2_with fail
  go_end0
  refine ⟨rfl, _, [], _, h3, ?_, ?_, trivial, Hwt.out, (FS.trans f2 (fun _ _ h => h)).trans f3 (fun _ _ h => h)⟩
  · simpa using Hst.out.2.1
  · rw [Hst.out.1, Hnd.out]; rfl
set_option maxRecDepth 100000 in
set_option maxHeartbeats 4000000 in
theorem open_leaf2 {w : World} {s x n E tb ncap : Nat} {ns : List Nd} {out : List Nd} {ws : List Tk} {rs : List Nat} {mn mx cp : Int} {lz : Bool} {st : BSet} (h : SM w s x out ws rs) (hNM : NM w tb ns) (h24 : ns.length ≤ 24) (hwf : WF ns) (hrb : ∀ k (h : k < ns.length), RB ns[k]) (hE : E ≤ 31) (hn : n < ns.length) (hnd : ns[n] = ⟨2, (-1), (-1), mn, mx, cp, lz, st⟩)  (hW : WOk ns E out.length rs.length (.build n :: ws)) :
    Calls Tryz.prog 117 #[.pointer (some ⟨s, 0, none⟩), .slice (some ⟨tb, 0, none⟩) ns.length ncap, .int .i64 (n : Nat)] w fun v w' => v = .returned (.tuple #[]) ∧ StepP ns E s x (.build n) ws (out, rs) w w' := by
  have hN := hNM.at
  have n0 := hN n hn 0 (by omega)
  have n1 := hN n hn 1 (by omega)
  have n2 := hN n hn 2 (by omega)
  have n3 := hN n hn 3 (by omega)
  have n4 := hN n hn 4 (by omega)
  have n5 := hN n hn 5 (by omega)
  have n6 := hN n hn 6 (by omega)
  have n7 := hN n hn 7 (by omega)
  have n8 := hN n hn 8 (by omega)
  have n9 := hN n hn 9 (by omega)
  have n10 := hN n hn 10 (by omega)
  rw [hnd] at n0 n1 n2 n3 n4 n5 n6 n7 n8 n9 n10
  simp only [ndCell, Nat.add_zero] at n0 n1 n2 n3 n4 n5 n6 n7 n8 n9 n10
  have htl : tb < w.heap.size := by
    obtain ⟨f, a, _⟩ := hNM
    exact a.lt
  obtain ⟨_, c1, _, c4, hl⟩ := h.cells
  have hl0 : s < w.heap.size := by omega
  have hl1 : s + 1 < w.heap.size := by omega
  have hnI : (n : Int) ≤ 23 := by omega
  have FA := (Fr.refl (fun _ => False) w).alloc (.cells #[.int .i64 2, .int .i64 (-1), .int .i64 (-1), .int .i64 mn, .int .i64 mx, .int .i64 cp, .bool lz, .int .u64 (wd st 0 : Nat), .int .u64 (wd st 1 : Nat), .int .u64 (wd st 2 : Nat), .int .u64 (wd st 3 : Nat)] 97)
  have h1 := h.idle FA
  have hB1 := Blk.nd w ⟨2, (-1), (-1), mn, mx, cp, lz, st⟩
  have FS := FA.mono (S' := fun b => SBld s b) (fun _ _ h => h.elim)
  have hws : ws.length + 2 * n + 3 ≤ 49 := by cases hW; assumption
  have hrs : rs.length + n + 1 ≤ 25 := by cases hW; assumption
  have hle := hW.le hwf hrb
  have hkd : ns[n].kind = 1 ∨ ns[n].kind = 2 ∨ ns[n].kind = 3 := by rw [hnd]; simp
  have Hst : Hid _ := st_leaf hwf (fun _ => hkd) hW hn (out, rs)
  have hol : out.length < 31 := by have := Hst.out.2.1.le hwf hrb; omega
  have Hwt : Hid (wt ws < wt (.build n :: ws)) := by show wt ws < wt (.build n :: ws); rw [wt_cons]; simp only [wtT]; have := pow4_pos n; omega
  have Hnd : Hid _ := hnd
  clear hW hkd hnd
  go_enter Tryz.func117, Tryz.ntmps117
  go_wp2_with fail
  have hv : ndV ⟨2, -1, -1, mn, mx, cp, lz, st⟩ = .agg #[.int .i64 2, .int .i64 (-1), .int .i64 (-1), .int .i64 mn, .int .i64 mx, .int .i64 cp, .bool lz, .int .u64 (wd st 0 : Nat), .int .u64 (wd st 1 : Nat), .int .u64 (wd st 2 : Nat), .int .u64 (wd st 3 : Nat)] := rfl
  rw [← hv]
  refine (addS_any _ h1 hol).mono ?_
  rintro v w2 ⟨rfl, h2, f2⟩
  go_wp2_with fail
  refine (pushRoot_any out.length h2 (by omega)).mono ?_
  rintro v w3 ⟨rfl, h3, f3⟩
  go_wp2_with fail
  go_end0
  refine ⟨rfl, _, [], _, h3, ?_, ?_, trivial, Hwt.out, (FS.trans f2 (fun _ _ h => h)).trans f3 (fun _ _ h => h)⟩
  · simpa using Hst.out.2.1
  · rw [Hst.out.1, Hnd.out]; rfl
set_option maxRecDepth 100000 in
set_option maxHeartbeats 4000000 in
theorem open_leaf3 {w : World} {s x n E tb ncap : Nat} {ns : List Nd} {out : List Nd} {ws : List Tk} {rs : List Nat} {mn mx cp : Int} {lz : Bool} {st : BSet} (h : SM w s x out ws rs) (hNM : NM w tb ns) (h24 : ns.length ≤ 24) (hwf : WF ns) (hrb : ∀ k (h : k < ns.length), RB ns[k]) (hE : E ≤ 31) (hn : n < ns.length) (hnd : ns[n] = ⟨3, (-1), (-1), mn, mx, cp, lz, st⟩)  (hW : WOk ns E out.length rs.length (.build n :: ws)) :
    Calls Tryz.prog 117 #[.pointer (some ⟨s, 0, none⟩), .slice (some ⟨tb, 0, none⟩) ns.length ncap, .int .i64 (n : Nat)] w fun v w' => v = .returned (.tuple #[]) ∧ StepP ns E s x (.build n) ws (out, rs) w w' := by
  have hN := hNM.at
  have n0 := hN n hn 0 (by omega)
  have n1 := hN n hn 1 (by omega)
  have n2 := hN n hn 2 (by omega)
  have n3 := hN n hn 3 (by omega)
  have n4 := hN n hn 4 (by omega)
  have n5 := hN n hn 5 (by omega)
  have n6 := hN n hn 6 (by omega)
  have n7 := hN n hn 7 (by omega)
  have n8 := hN n hn 8 (by omega)
  have n9 := hN n hn 9 (by omega)
  have n10 := hN n hn 10 (by omega)
  rw [hnd] at n0 n1 n2 n3 n4 n5 n6 n7 n8 n9 n10
  simp only [ndCell, Nat.add_zero] at n0 n1 n2 n3 n4 n5 n6 n7 n8 n9 n10
  have htl : tb < w.heap.size := by
    obtain ⟨f, a, _⟩ := hNM
    exact a.lt
  obtain ⟨_, c1, _, c4, hl⟩ := h.cells
  have hl0 : s < w.heap.size := by omega
  have hl1 : s + 1 < w.heap.size := by omega
  have hnI : (n : Int) ≤ 23 := by omega
  have FA := (Fr.refl (fun _ => False) w).alloc (.cells #[.int .i64 3, .int .i64 (-1), .int .i64 (-1), .int .i64 mn, .int .i64 mx, .int .i64 cp, .bool lz, .int .u64 (wd st 0 : Nat), .int .u64 (wd st 1 : Nat), .int .u64 (wd st 2 : Nat), .int .u64 (wd st 3 : Nat)] 97)
  have h1 := h.idle FA
  have hB1 := Blk.nd w ⟨3, (-1), (-1), mn, mx, cp, lz, st⟩
  have FS := FA.mono (S' := fun b => SBld s b) (fun _ _ h => h.elim)
  have hws : ws.length + 2 * n + 3 ≤ 49 := by cases hW; assumption
  have hrs : rs.length + n + 1 ≤ 25 := by cases hW; assumption
  have hle := hW.le hwf hrb
  have hkd : ns[n].kind = 1 ∨ ns[n].kind = 2 ∨ ns[n].kind = 3 := by rw [hnd]; simp
  have Hst : Hid _ := st_leaf hwf (fun _ => hkd) hW hn (out, rs)
  have hol : out.length < 31 := by have := Hst.out.2.1.le hwf hrb; omega
  have Hwt : Hid (wt ws < wt (.build n :: ws)) := by show wt ws < wt (.build n :: ws); rw [wt_cons]; simp only [wtT]; have := pow4_pos n; omega
  have Hnd : Hid _ := hnd
  clear hW hkd hnd
  go_enter Tryz.func117, Tryz.ntmps117
  go_wp2_with fail
  have hv : ndV ⟨3, -1, -1, mn, mx, cp, lz, st⟩ = .agg #[.int .i64 3, .int .i64 (-1), .int .i64 (-1), .int .i64 mn, .int .i64 mx, .int .i64 cp, .bool lz, .int .u64 (wd st 0 : Nat), .int .u64 (wd st 1 : Nat), .int .u64 (wd st 2 : Nat), .int .u64 (wd st 3 : Nat)] := rfl
  rw [← hv]
  refine (addS_any _ h1 hol).mono ?_
  rintro v w2 ⟨rfl, h2, f2⟩
  go_wp2_with fail
  refine (pushRoot_any out.length h2 (by omega)).mono ?_
  rintro v w3 ⟨rfl, h3, f3⟩
  go_wp2_with fail
  go_end0
  refine ⟨rfl, _, [], _, h3, ?_, ?_, trivial, Hwt.out, (FS.trans f2 (fun _ _ h => h)).trans f3 (fun _ _ h => h)⟩
  · simpa using Hst.out.2.1
  · rw [Hst.out.1, Hnd.out]; rfl
end Go.Proofs.Qxb6500283aGreat
