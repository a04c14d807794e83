/- open. -/
import Derived.Test.Qxb6500283aGreatW5
namespace Go.Proofs.Qxb6500283aGreat
open Go Go.RowKit

set_option maxRecDepth 100000 in
set_option maxHeartbeats 4000000 in
theorem open_rep_opt {w : World} {s x n E tb ncap : Nat} {ns : List Nd} {out : List Nd} {ws : List Tk} {rs : List Nat} {na u : Nat} {cp : Int} {st : BSet} (h : SM w s x out ws rs) (hNM : NM w tb ns) (h24 : ns.length ≤ 24) (hwf : WF ns) (hrb : ∀ k (h : k < ns.length), RB ns[k]) (hE : E ≤ 31) (hn : n < ns.length) (hnd : ns[n] = ⟨6, (na : Nat), (-1), 0, (u : Nat), cp, true, st⟩) (hna : na < n) (hu1 : 1 ≤ u) (hu3 : u ≤ 3) (hW : WOk ns E out.length rs.length (.build n :: ws)) :
    Calls Tryz.prog 117 #[.pointer (some ⟨s, 0, none⟩), .slice (some ⟨tb, 0, none⟩) ns.length ncap, .int .i64 (n : Nat)] w fun v w' => v = .returned (.tuple #[]) ∧ StepP ns E s x (.build n) ws (out, rs) w w' := by
  have hN := hNM.at
  have n0 := hN n hn 0 (by omega)
  have n1 := hN n hn 1 (by omega)
  have n2 := hN n hn 2 (by omega)
  have n3 := hN n hn 3 (by omega)
  have n4 := hN n hn 4 (by omega)
  have n5 := hN n hn 5 (by omega)
  have n6 := hN n hn 6 (by omega)
  have n7 := hN n hn 7 (by omega)
  have n8 := hN n hn 8 (by omega)
  have n9 := hN n hn 9 (by omega)
  have n10 := hN n hn 10 (by omega)
  rw [hnd] at n0 n1 n2 n3 n4 n5 n6 n7 n8 n9 n10
  simp only [ndCell, Nat.add_zero] at n0 n1 n2 n3 n4 n5 n6 n7 n8 n9 n10
  have htl : tb < w.heap.size := by
    obtain ⟨f, a, _⟩ := hNM
    exact a.lt
  obtain ⟨_, c1, _, c4, hl⟩ := h.cells
  have hl0 : s < w.heap.size := by omega
  have hl1 : s + 1 < w.heap.size := by omega
  have hnI : (n : Int) ≤ 23 := by omega
  have FA := (Fr.refl (fun _ => False) w).alloc (.cells #[.int .i64 6, .int .i64 (na : Nat), .int .i64 (-1), .int .i64 0, .int .i64 (u : Nat), .int .i64 cp, .bool true, .int .u64 (wd st 0 : Nat), .int .u64 (wd st 1 : Nat), .int .u64 (wd st 2 : Nat), .int .u64 (wd st 3 : Nat)] 97)
  have h1 := h.idle FA
  have hB1 := Blk.nd w ⟨6, (na : Nat), (-1), 0, (u : Nat), cp, true, st⟩
  have FS := FA.mono (S' := fun b => SBld s b) (fun _ _ h => h.elim)
  have hws : ws.length + 2 * n + 3 ≤ 49 := by cases hW; assumption
  have hrs : rs.length + n + 1 ≤ 25 := by cases hW; assumption
  have hle := hW.le hwf hrb
  have hnaI : (na : Int) ≤ 23 := by omega
  have hkd : ns[n].kind = 6 := by rw [hnd]
  have hana : ns[n].a.toNat = na := by rw [hnd]; rfl
  have p1 := pow4 hna
  have p3 := pow4_pos na
  have hst0 := st_rep hwf hrb (fun _ => hkd) hW hn (out, rs) rfl
  rw [hana] at hst0
  have t1 : decide ((0 : Int) < (u : Nat)) = true := decide_eq_true (by omega)
  have huI : (u : Int) ≤ 3 := by omega
  have hol0 : optLz ns[n] = true := by rw [hnd]; unfold optLz; simp; omega
  have Hopt : Hid (optLz (ndAt ns n) = true ∧ (ndAt ns n).a.toNat = na) := by show optLz (ndAt ns n) = true ∧ (ndAt ns n).a.toNat = na; rw [ndAt_eq hn]; exact ⟨hol0, hana⟩
  have Hst : Hid _ := hst0.2 hol0
  have Hwt : Hid (wt (.build na :: .unroll n (out.length + 1) out.length :: ws) < wt (.build n :: ws)) := by show wt (.build na :: .unroll n (out.length + 1) out.length :: ws) < wt (.build n :: ws); rw [wt_cons, wt_cons, wt_cons]; simp only [wtT]; omega
  have hol : out.length < 31 := by have := Hst.out.2.le hwf hrb; omega
  clear hst0 hW hana hkd hnd hol0
  go_enter Tryz.func117, Tryz.ntmps117
  go_wp2_with fail
  refine (node_any 0 (-1) (-1) h1 hol).mono ?_
  rintro v w2 ⟨rfl, h2, f2⟩
  have hB2 := hB1.frame f2 (by unfold SBld; omega)
  have b1 := hB2.cell (o := 1) (by omega)
  simp only [ndCell] at b1
  have lb_hB2 := hB2.lt
  obtain ⟨_, _, _, d4, hl2⟩ := h2.cells
  have Hlen : Hid ((out ++ [(⟨0, -1, -1, 0, 0, 0, false, noP⟩ : Nd)]).length = out.length + 1) := by show (out ++ [(⟨0, -1, -1, 0, 0, 0, false, noP⟩ : Nd)]).length = out.length + 1; simp
  rw [Hlen.out] at d4
  go_wp2_with fail
  refine (push_any (.unroll n (out.length + 1) out.length) h2 (by omega)).mono ?_
  rintro v w3 ⟨rfl, h3, f3⟩
  have hB3 := hB2.frame f3 (by unfold SBld; omega)
  clear b1
  have b1 := hB3.cell (o := 1) (by omega)
  simp only [ndCell] at b1
  have lb_hB3 := hB3.lt
  go_wp2_with fail
  refine (push_any (.build na) h3 (by simp; omega)).mono ?_
  rintro v w4 ⟨rfl, h4, f4⟩
  go_wp2_with fail
  go_end0
  refine ⟨rfl, _, [.build na, .unroll n (out.length + 1) out.length], rs, h4, ?_, Hst.out.1.symm, ⟨trivial, ?_, trivial⟩, Hwt.out, ((FS.trans f2 (fun _ _ h => h)).trans f3 (fun _ _ h => h)).trans f4 (fun _ _ h => h)⟩
  · rw [Hlen.out]
    exact Hst.out.2
  · refine ⟨out, by unfold baseOf; rw [if_neg (by omega)]; rfl, ?_, rs, ?_⟩
    · rw [Hopt.out.1, Hopt.out.2, if_pos rfl]
      show (out ++ [_]) ++ bld ns na (out ++ [_]).length = _
      rw [Hlen.out]
      rfl
    · rw [Hopt.out.2]
      show ((out ++ [_]).length + (bld ns na (out ++ [_]).length).length - 1) :: rs = _
      rw [Hlen.out]
set_option maxRecDepth 100000 in
set_option maxHeartbeats 4000000 in
theorem open_rep_a {w : World} {s x n E tb ncap : Nat} {ns : List Nd} {out : List Nd} {ws : List Tk} {rs : List Nat} {na m : Nat} {mx cp : Int} {lz : Bool} {st : BSet} (h : SM w s x out ws rs) (hNM : NM w tb ns) (h24 : ns.length ≤ 24) (hwf : WF ns) (hrb : ∀ k (h : k < ns.length), RB ns[k]) (hE : E ≤ 31) (hn : n < ns.length) (hnd : ns[n] = ⟨6, (na : Nat), (-1), (m : Nat), mx, cp, lz, st⟩) (hna : na < n) (hm1 : 1 ≤ m) (hm3 : m ≤ 3) (hW : WOk ns E out.length rs.length (.build n :: ws)) :
    Calls Tryz.prog 117 #[.pointer (some ⟨s, 0, none⟩), .slice (some ⟨tb, 0, none⟩) ns.length ncap, .int .i64 (n : Nat)] w fun v w' => v = .returned (.tuple #[]) ∧ StepP ns E s x (.build n) ws (out, rs) w w' := by
  have hN := hNM.at
  have n0 := hN n hn 0 (by omega)
  have n1 := hN n hn 1 (by omega)
  have n2 := hN n hn 2 (by omega)
  have n3 := hN n hn 3 (by omega)
  have n4 := hN n hn 4 (by omega)
  have n5 := hN n hn 5 (by omega)
  have n6 := hN n hn 6 (by omega)
  have n7 := hN n hn 7 (by omega)
  have n8 := hN n hn 8 (by omega)
  have n9 := hN n hn 9 (by omega)
  have n10 := hN n hn 10 (by omega)
  rw [hnd] at n0 n1 n2 n3 n4 n5 n6 n7 n8 n9 n10
  simp only [ndCell, Nat.add_zero] at n0 n1 n2 n3 n4 n5 n6 n7 n8 n9 n10
  have htl : tb < w.heap.size := by
    obtain ⟨f, a, _⟩ := hNM
    exact a.lt
  obtain ⟨_, c1, _, c4, hl⟩ := h.cells
  have hl0 : s < w.heap.size := by omega
  have hl1 : s + 1 < w.heap.size := by omega
  have hnI : (n : Int) ≤ 23 := by omega
  have FA := (Fr.refl (fun _ => False) w).alloc (.cells #[.int .i64 6, .int .i64 (na : Nat), .int .i64 (-1), .int .i64 (m : Nat), .int .i64 mx, .int .i64 cp, .bool lz, .int .u64 (wd st 0 : Nat), .int .u64 (wd st 1 : Nat), .int .u64 (wd st 2 : Nat), .int .u64 (wd st 3 : Nat)] 97)
  have h1 := h.idle FA
  have hB1 := Blk.nd w ⟨6, (na : Nat), (-1), (m : Nat), mx, cp, lz, st⟩
  have FS := FA.mono (S' := fun b => SBld s b) (fun _ _ h => h.elim)
  have hws : ws.length + 2 * n + 3 ≤ 49 := by cases hW; assumption
  have hrs : rs.length + n + 1 ≤ 25 := by cases hW; assumption
  have hle := hW.le hwf hrb
  have hnaI : (na : Int) ≤ 23 := by omega
  have hkd : ns[n].kind = 6 := by rw [hnd]
  have hana : ns[n].a.toNat = na := by rw [hnd]; rfl
  have p1 := pow4 hna
  have p3 := pow4_pos na
  have hst0 := st_rep hwf hrb (fun _ => hkd) hW hn (out, rs) rfl
  rw [hana] at hst0
  have t1 : (((m : Nat) : Int) == 0) = false := by simp; omega
  have hmI : (m : Int) ≤ 3 := by omega
  have hol0 : optLz ns[n] = false := by rw [hnd]; unfold optLz; simp; omega
  have Hopt : Hid (optLz (ndAt ns n) = false ∧ (ndAt ns n).a.toNat = na) := by show optLz (ndAt ns n) = false ∧ (ndAt ns n).a.toNat = na; rw [ndAt_eq hn]; exact ⟨hol0, hana⟩
  have Hst : Hid _ := hst0.1 hol0
  have Hwt : Hid (wt (.build na :: .unroll n out.length (-1) :: ws) < wt (.build n :: ws)) := by show wt (.build na :: .unroll n out.length (-1) :: ws) < wt (.build n :: ws); rw [wt_cons, wt_cons, wt_cons]; simp only [wtT]; omega
  clear hst0 hW hana hkd hnd hol0
  go_enter Tryz.func117, Tryz.ntmps117
  go_wp2_with fail
  refine (push_any (.unroll n out.length (-1)) h1 (by omega)).mono ?_
  rintro v w3 ⟨rfl, h3, f3⟩
  have hB3 := hB1.frame f3 (by unfold SBld; omega)
  have b1 := hB3.cell (o := 1) (by omega)
  simp only [ndCell] at b1
  have lb_hB3 := hB3.lt
  go_wp2_with fail
  refine (push_any (.build na) h3 (by simp; omega)).mono ?_
  rintro v w4 ⟨rfl, h4, f4⟩
  go_wp2_with fail
  go_end0
  refine ⟨rfl, out, [.build na, .unroll n out.length (-1)], rs, h4, Hst.out.2, Hst.out.1.symm, ⟨trivial, ?_, trivial⟩, Hwt.out, (FS.trans f3 (fun _ _ h => h)).trans f4 (fun _ _ h => h)⟩
  refine ⟨out, rfl, ?_, rs, ?_⟩
  · rw [Hopt.out.1, Hopt.out.2]
    show out ++ bld ns na out.length = out ++ [] ++ _
    rw [List.append_nil]
  · rw [Hopt.out.2]
    rfl
set_option maxRecDepth 100000 in
set_option maxHeartbeats 4000000 in
theorem open_rep_b {w : World} {s x n E tb ncap : Nat} {ns : List Nd} {out : List Nd} {ws : List Tk} {rs : List Nat} {na : Nat} {cp : Int} {lz : Bool} {st : BSet} (h : SM w s x out ws rs) (hNM : NM w tb ns) (h24 : ns.length ≤ 24) (hwf : WF ns) (hrb : ∀ k (h : k < ns.length), RB ns[k]) (hE : E ≤ 31) (hn : n < ns.length) (hnd : ns[n] = ⟨6, (na : Nat), (-1), 0, (-1), cp, lz, st⟩) (hna : na < n) (hW : WOk ns E out.length rs.length (.build n :: ws)) :
    Calls Tryz.prog 117 #[.pointer (some ⟨s, 0, none⟩), .slice (some ⟨tb, 0, none⟩) ns.length ncap, .int .i64 (n : Nat)] w fun v w' => v = .returned (.tuple #[]) ∧ StepP ns E s x (.build n) ws (out, rs) w w' := by
  have hN := hNM.at
  have n0 := hN n hn 0 (by omega)
  have n1 := hN n hn 1 (by omega)
  have n2 := hN n hn 2 (by omega)
  have n3 := hN n hn 3 (by omega)
  have n4 := hN n hn 4 (by omega)
  have n5 := hN n hn 5 (by omega)
  have n6 := hN n hn 6 (by omega)
  have n7 := hN n hn 7 (by omega)
  have n8 := hN n hn 8 (by omega)
  have n9 := hN n hn 9 (by omega)
  have n10 := hN n hn 10 (by omega)
  rw [hnd] at n0 n1 n2 n3 n4 n5 n6 n7 n8 n9 n10
  simp only [ndCell, Nat.add_zero] at n0 n1 n2 n3 n4 n5 n6 n7 n8 n9 n10
  have htl : tb < w.heap.size := by
    obtain ⟨f, a, _⟩ := hNM
    exact a.lt
  obtain ⟨_, c1, _, c4, hl⟩ := h.cells
  have hl0 : s < w.heap.size := by omega
  have hl1 : s + 1 < w.heap.size := by omega
  have hnI : (n : Int) ≤ 23 := by omega
  have FA := (Fr.refl (fun _ => False) w).alloc (.cells #[.int .i64 6, .int .i64 (na : Nat), .int .i64 (-1), .int .i64 0, .int .i64 (-1), .int .i64 cp, .bool lz, .int .u64 (wd st 0 : Nat), .int .u64 (wd st 1 : Nat), .int .u64 (wd st 2 : Nat), .int .u64 (wd st 3 : Nat)] 97)
  have h1 := h.idle FA
  have hB1 := Blk.nd w ⟨6, (na : Nat), (-1), 0, (-1), cp, lz, st⟩
  have FS := FA.mono (S' := fun b => SBld s b) (fun _ _ h => h.elim)
  have hws : ws.length + 2 * n + 3 ≤ 49 := by cases hW; assumption
  have hrs : rs.length + n + 1 ≤ 25 := by cases hW; assumption
  have hle := hW.le hwf hrb
  have hnaI : (na : Int) ≤ 23 := by omega
  have hkd : ns[n].kind = 6 := by rw [hnd]
  have hana : ns[n].a.toNat = na := by rw [hnd]; rfl
  have p1 := pow4 hna
  have p3 := pow4_pos na
  have hst0 := st_rep hwf hrb (fun _ => hkd) hW hn (out, rs) rfl
  rw [hana] at hst0
  have hol0 : optLz ns[n] = false := by rw [hnd]; unfold optLz; simp
  have Hopt : Hid (optLz (ndAt ns n) = false ∧ (ndAt ns n).a.toNat = na) := by show optLz (ndAt ns n) = false ∧ (ndAt ns n).a.toNat = na; rw [ndAt_eq hn]; exact ⟨hol0, hana⟩
  have Hst : Hid _ := hst0.1 hol0
  have Hwt : Hid (wt (.build na :: .unroll n out.length (-1) :: ws) < wt (.build n :: ws)) := by show wt (.build na :: .unroll n out.length (-1) :: ws) < wt (.build n :: ws); rw [wt_cons, wt_cons, wt_cons]; simp only [wtT]; omega
  clear hst0 hW hana hkd hnd hol0
  go_enter Tryz.func117, Tryz.ntmps117
  go_wp2_with fail
  refine (push_any (.unroll n out.length (-1)) h1 (by omega)).mono ?_
  rintro v w3 ⟨rfl, h3, f3⟩
  have hB3 := hB1.frame f3 (by unfold SBld; omega)
  have b1 := hB3.cell (o := 1) (by omega)
  simp only [ndCell] at b1
  have lb_hB3 := hB3.lt
  go_wp2_with fail
  refine (push_any (.build na) h3 (by simp; omega)).mono ?_
  rintro v w4 ⟨rfl, h4, f4⟩
  go_wp2_with fail
  go_end0
  refine ⟨rfl, out, [.build na, .unroll n out.length (-1)], rs, h4, Hst.out.2, Hst.out.1.symm, ⟨trivial, ?_, trivial⟩, Hwt.out, (FS.trans f3 (fun _ _ h => h)).trans f4 (fun _ _ h => h)⟩
  refine ⟨out, rfl, ?_, rs, ?_⟩
  · rw [Hopt.out.1, Hopt.out.2]
    show out ++ bld ns na out.length = out ++ [] ++ _
    rw [List.append_nil]
  · rw [Hopt.out.2]
    rfl
set_option maxRecDepth 100000 in
set_option maxHeartbeats 4000000 in
theorem open_rep_c {w : World} {s x n E tb ncap : Nat} {ns : List Nd} {out : List Nd} {ws : List Tk} {rs : List Nat} {na u : Nat} {cp : Int} {st : BSet} (h : SM w s x out ws rs) (hNM : NM w tb ns) (h24 : ns.length ≤ 24) (hwf : WF ns) (hrb : ∀ k (h : k < ns.length), RB ns[k]) (hE : E ≤ 31) (hn : n < ns.length) (hnd : ns[n] = ⟨6, (na : Nat), (-1), 0, (u : Nat), cp, false, st⟩) (hna : na < n) (hu1 : 1 ≤ u) (hu3 : u ≤ 3) (hW : WOk ns E out.length rs.length (.build n :: ws)) :
    Calls Tryz.prog 117 #[.pointer (some ⟨s, 0, none⟩), .slice (some ⟨tb, 0, none⟩) ns.length ncap, .int .i64 (n : Nat)] w fun v w' => v = .returned (.tuple #[]) ∧ StepP ns E s x (.build n) ws (out, rs) w w' := by
  have hN := hNM.at
  have n0 := hN n hn 0 (by omega)
  have n1 := hN n hn 1 (by omega)
  have n2 := hN n hn 2 (by omega)
  have n3 := hN n hn 3 (by omega)
  have n4 := hN n hn 4 (by omega)
  have n5 := hN n hn 5 (by omega)
  have n6 := hN n hn 6 (by omega)
  have n7 := hN n hn 7 (by omega)
  have n8 := hN n hn 8 (by omega)
  have n9 := hN n hn 9 (by omega)
  have n10 := hN n hn 10 (by omega)
  rw [hnd] at n0 n1 n2 n3 n4 n5 n6 n7 n8 n9 n10
  simp only [ndCell, Nat.add_zero] at n0 n1 n2 n3 n4 n5 n6 n7 n8 n9 n10
  have htl : tb < w.heap.size := by
    obtain ⟨f, a, _⟩ := hNM
    exact a.lt
  obtain ⟨_, c1, _, c4, hl⟩ := h.cells
  have hl0 : s < w.heap.size := by omega
  have hl1 : s + 1 < w.heap.size := by omega
  have hnI : (n : Int) ≤ 23 := by omega
  have FA := (Fr.refl (fun _ => False) w).alloc (.cells #[.int .i64 6, .int .i64 (na : Nat), .int .i64 (-1), .int .i64 0, .int .i64 (u : Nat), .int .i64 cp, .bool false, .int .u64 (wd st 0 : Nat), .int .u64 (wd st 1 : Nat), .int .u64 (wd st 2 : Nat), .int .u64 (wd st 3 : Nat)] 97)
  have h1 := h.idle FA
  have hB1 := Blk.nd w ⟨6, (na : Nat), (-1), 0, (u : Nat), cp, false, st⟩
  have FS := FA.mono (S' := fun b => SBld s b) (fun _ _ h => h.elim)
  have hws : ws.length + 2 * n + 3 ≤ 49 := by cases hW; assumption
  have hrs : rs.length + n + 1 ≤ 25 := by cases hW; assumption
  have hle := hW.le hwf hrb
  have hnaI : (na : Int) ≤ 23 := by omega
  have hkd : ns[n].kind = 6 := by rw [hnd]
  have hana : ns[n].a.toNat = na := by rw [hnd]; rfl
  have p1 := pow4 hna
  have p3 := pow4_pos na
  have hst0 := st_rep hwf hrb (fun _ => hkd) hW hn (out, rs) rfl
  rw [hana] at hst0
  have t1 : decide ((0 : Int) < (u : Nat)) = true := decide_eq_true (by omega)
  have huI : (u : Int) ≤ 3 := by omega
  have hol0 : optLz ns[n] = false := by rw [hnd]; unfold optLz; simp
  have Hopt : Hid (optLz (ndAt ns n) = false ∧ (ndAt ns n).a.toNat = na) := by show optLz (ndAt ns n) = false ∧ (ndAt ns n).a.toNat = na; rw [ndAt_eq hn]; exact ⟨hol0, hana⟩
  have Hst : Hid _ := hst0.1 hol0
  have Hwt : Hid (wt (.build na :: .unroll n out.length (-1) :: ws) < wt (.build n :: ws)) := by show wt (.build na :: .unroll n out.length (-1) :: ws) < wt (.build n :: ws); rw [wt_cons, wt_cons, wt_cons]; simp only [wtT]; omega
  clear hst0 hW hana hkd hnd hol0
  go_enter Tryz.func117, Tryz.ntmps117
  go_wp2_with fail
  refine (push_any (.unroll n out.length (-1)) h1 (by omega)).mono ?_
  rintro v w3 ⟨rfl, h3, f3⟩
  have hB3 := hB1.frame f3 (by unfold SBld; omega)
  have b1 := hB3.cell (o := 1) (by omega)
  simp only [ndCell] at b1
  have lb_hB3 := hB3.lt
  go_wp2_with fail
  refine (push_any (.build na) h3 (by simp; omega)).mono ?_
  rintro v w4 ⟨rfl, h4, f4⟩
  go_wp2_with fail
  go_end0
  refine ⟨rfl, out, [.build na, .unroll n out.length (-1)], rs, h4, Hst.out.2, Hst.out.1.symm, ⟨trivial, ?_, trivial⟩, Hwt.out, (FS.trans f3 (fun _ _ h => h)).trans f4 (fun _ _ h => h)⟩
  refine ⟨out, rfl, ?_, rs, ?_⟩
  · rw [Hopt.out.1, Hopt.out.2]
    show out ++ bld ns na out.length = out ++ [] ++ _
    rw [List.append_nil]
  · rw [Hopt.out.2]
    rfl
end Go.Proofs.Qxb6500283aGreat
