/- open. -/
import Derived.Test.Qxb6500283aGreatW5
namespace Go.Proofs.Qxb6500283aGreat
open Go Go.RowKit

set_option maxRecDepth 100000 in
set_option maxHeartbeats 4000000 in
theorem open_alt {w : World} {s x n E tb ncap : Nat} {ns : List Nd} {out : List Nd} {ws : List Tk} {rs : List Nat} {na nb : Nat} {mn mx cp : Int} {lz : Bool} {st : BSet} (h : SM w s x out ws rs) (hZ : ZM w s ns ns.length) (hNM : NM w tb ns) (h24 : ns.length ≤ 24) (hwf : WF ns) (hrb : ∀ k (h : k < ns.length), RB ns[k]) (hE : E ≤ 31) (hn : n < ns.length) (hnd : ns[n] = ⟨5, (na : Nat), (nb : Nat), mn, mx, cp, lz, st⟩) (hna : na < n) (hnb : nb < n) (hW : WOk ns E out.length rs.length (.build n :: ws)) :
    Calls Tryz.prog 117 #[.pointer (some ⟨s, 0, none⟩), .slice (some ⟨tb, 0, none⟩) ns.length ncap, .int .i64 (n : Nat)] w fun v w' => v = .returned (.tuple #[]) ∧ StepP ns E s x (.build n) ws (out, rs) w w' := by
  have hN := hNM.at
  have n0 := hN n hn 0 (by omega)
  have n1 := hN n hn 1 (by omega)
  have n2 := hN n hn 2 (by omega)
  have n3 := hN n hn 3 (by omega)
  have n4 := hN n hn 4 (by omega)
  have n5 := hN n hn 5 (by omega)
  have n6 := hN n hn 6 (by omega)
  have n7 := hN n hn 7 (by omega)
  have n8 := hN n hn 8 (by omega)
  have n9 := hN n hn 9 (by omega)
  have n10 := hN n hn 10 (by omega)
  rw [hnd] at n0 n1 n2 n3 n4 n5 n6 n7 n8 n9 n10
  simp only [ndCell, Nat.add_zero] at n0 n1 n2 n3 n4 n5 n6 n7 n8 n9 n10
  have htl : tb < w.heap.size := by
    obtain ⟨f, a, _⟩ := hNM
    exact a.lt
  obtain ⟨_, c1, _, c4, hl⟩ := h.cells
  have hl0 : s < w.heap.size := by omega
  have hl1 : s + 1 < w.heap.size := by omega
  have hnI : (n : Int) ≤ 23 := by omega
  have FA := (Fr.refl (fun _ => False) w).alloc (.cells #[.int .i64 5, .int .i64 (na : Nat), .int .i64 (nb : Nat), .int .i64 mn, .int .i64 mx, .int .i64 cp, .bool lz, .int .u64 (wd st 0 : Nat), .int .u64 (wd st 1 : Nat), .int .u64 (wd st 2 : Nat), .int .u64 (wd st 3 : Nat)] 97)
  have h1 := h.idle FA
  have hB1 := Blk.nd w ⟨5, (na : Nat), (nb : Nat), mn, mx, cp, lz, st⟩
  have FS := FA.mono (S' := fun b => SBld s b) (fun _ _ h => h.elim)
  have hws : ws.length + 2 * n + 3 ≤ 49 := by cases hW; assumption
  have hrs : rs.length + n + 1 ≤ 25 := by cases hW; assumption
  have hle := hW.le hwf hrb
  have za := hZ.shape (k := na) (by omega) h24
  have zb := hZ.shape (k := nb) (by omega) h24
  have hnaI : (na : Int) ≤ 23 := by omega
  have hnbI : (nb : Int) ≤ 23 := by omega
  have hkd : ns[n].kind = 5 := by rw [hnd]
  have hana : ns[n].a.toNat = na := by rw [hnd]; rfl
  have hbnb : ns[n].b.toNat = nb := by rw [hnd]; rfl
  have hsh := alt_shape hwf hn hkd
  have hbl := alt_bld hwf hn hkd
  rw [hana, hbnb] at hsh hbl
  have hw2 : (zz ns n).1 = 2 := by cases hW; assumption
  have oka := (core_main hwf hrb na (by omega)).ok.sh
  have okb := (core_main hwf hrb nb (by omega)).ok.sh
  have p1 := pow4 hna
  have p2 := pow4 hnb
  have p3 := pow4_pos na
  have p4 := pow4_pos nb
  rw [hsh] at hw2
  unfold altZ at hw2
  go_enter Tryz.func117, Tryz.ntmps117
  by_cases ha : (zz ns na).1 = 1
  · have hwb : (zz ns nb).1 = 2 := by
      rw [if_pos ha] at hw2; exact hw2
    rw [if_pos ha] at hbl
    have Hst : Hid _ := st_same hnb hwb hbl hW (out, rs)
    have Hwt : Hid (wt (.build nb :: ws) < wt (.build n :: ws)) := by show wt (.build nb :: ws) < wt (.build n :: ws); rw [wt_cons, wt_cons]; simp only [wtT]; omega
    rw [ha] at za
    clear hbl hsh hw2 hW hana hbnb hkd hnd hwb
    go_wp2_with fail
    refine wp_region_text (by kernel_rfl) (by kernel_rfl) ?_
    go_wp2_with fail
    refine ⟨by kernel_rfl, ?_⟩
    go_wp2_with fail
    refine (push_any (.build nb) (h1.idle (Fr.refl (fun _ => False) _).drew) (by omega)).mono ?_
    rintro v w2 ⟨rfl, h2, f2⟩
    go_wp2_with fail
    go_end0
    exact ⟨rfl, out, [.build nb], rs, h2, Hst.out.2, Hst.out.1.symm, ⟨trivial, trivial⟩, Hwt.out, FS.drew.trans f2 (fun _ _ h => h)⟩
  · rw [if_neg ha] at hbl
    have ta : ((((zz ns na).1 : Nat) : Int) == 1) = false := by simp; omega
    by_cases hb : (zz ns nb).1 = 1
    · have hwa : (zz ns na).1 = 2 := by
        split at hw2
        · omega
        · first | exact hw2 | (rw [if_pos hb] at hw2; exact hw2)
      rw [if_pos hb] at hbl
      have Hst : Hid _ := st_same hna hwa hbl hW (out, rs)
      have Hwt : Hid (wt (.build na :: ws) < wt (.build n :: ws)) := by show wt (.build na :: ws) < wt (.build n :: ws); rw [wt_cons, wt_cons]; simp only [wtT]; omega
      rw [hb] at zb
      clear hbl hsh hw2 hW hana hbnb hkd hnd hwa
      go_wp2_with fail
      refine wp_region_text (by kernel_rfl) (by kernel_rfl) ?_
      go_wp2_with fail
      refine ⟨by kernel_rfl, ?_⟩
      go_wp2_with fail
      refine wp_region_text (by kernel_rfl) (by kernel_rfl) ?_
      go_wp2_with fail
      refine ⟨by kernel_rfl, ?_⟩
      go_wp2_with fail
      refine (push_any (.build na) ((h1.idle (Fr.refl (fun _ => False) _).drew).idle (Fr.refl (fun _ => False) _).drew) (by omega)).mono ?_
      rintro v w2 ⟨rfl, h2, f2⟩
      go_wp2_with fail
      go_end0
      exact ⟨rfl, out, [.build na], rs, h2, Hst.out.2, Hst.out.1.symm, ⟨trivial, trivial⟩, Hwt.out, FS.drew.drew.trans f2 (fun _ _ h => h)⟩
    · have tb' : ((((zz ns nb).1 : Nat) : Int) == 1) = false := by simp; omega
      have hst0 := st_alt hwf hrb (fun _ => hkd) hW hn (by rw [hana]; exact ha) (by rw [hbnb]; exact hb) (out, rs)
      rw [hana, hbnb] at hst0
      have Hst : Hid _ := hst0
      have Hwt : Hid (wt (.child na :: .child nb :: .join n :: ws) < wt (.build n :: ws)) := by show wt (.child na :: .child nb :: .join n :: ws) < wt (.build n :: ws); rw [wt_cons, wt_cons, wt_cons, wt_cons]; simp only [wtT]; omega
      clear hst0 hbl hsh hw2 hW hana hbnb hkd hnd
      go_wp2_with fail
      refine wp_region_text (by kernel_rfl) (by kernel_rfl) ?_
      go_wp2_with fail
      refine ⟨by kernel_rfl, ?_⟩
      go_wp2_with fail
      refine wp_region_text (by kernel_rfl) (by kernel_rfl) ?_
      go_wp2_with fail
      refine ⟨by kernel_rfl, ?_⟩
      go_wp2_with fail
      refine (push_any (.join n) ((h1.idle (Fr.refl (fun _ => False) _).drew).idle (Fr.refl (fun _ => False) _).drew) (by omega)).mono ?_
      rintro v w2 ⟨rfl, h2, f2⟩
      have hB2 := (hB1.drew.drew).frame f2 (by unfold SBld; omega)
      have b1 := hB2.cell (o := 1) (by omega)
      have b2 := hB2.cell (o := 2) (by omega)
      simp only [ndCell] at b1 b2
      have lb_hB2 := hB2.lt
      go_wp2_with fail
      refine (push_any (.child nb) h2 (by simp; omega)).mono ?_
      rintro v w3 ⟨rfl, h3, f3⟩
      have hB3 := hB2.frame f3 (by unfold SBld; omega)
      clear b1 b2
      have b1 := hB3.cell (o := 1) (by omega)
      simp only [ndCell] at b1
      have lb_hB3 := hB3.lt
      go_wp2_with fail
      refine (push_any (.child na) h3 (by simp; omega)).mono ?_
      rintro v w4 ⟨rfl, h4, f4⟩
      go_wp2_with fail
      go_end0
      exact ⟨rfl, out, [.child na, .child nb, .join n], rs, h4, Hst.out.2, Hst.out.1.symm, ⟨trivial, trivial, trivial, trivial⟩, Hwt.out, ((FS.drew.drew.trans f2 (fun _ _ h => h)).trans f3 (fun _ _ h => h)).trans f4 (fun _ _ h => h)⟩
end Go.Proofs.Qxb6500283aGreat
