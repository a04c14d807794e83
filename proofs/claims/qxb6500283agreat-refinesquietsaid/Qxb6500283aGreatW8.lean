/- build. -/
import Derived.Test.Qxb6500283aGreatW7
namespace Go.Proofs.Qxb6500283aGreat
open Go Go.RowKit

theorem Blk.task (w : World) (a b c d : Int) : Blk (w.alloc (.cells #[.int .i64 a, .int .i64 b, .int .i64 c, .int .i64 d] 206)) w.heap.size 4 (fun o => (#[.int .i64 a, .int .i64 b, .int .i64 c, .int .i64 d] : Array Value).getD o undef) :=
  Blk.new w _ _ _ fun o ho => by
    have ho : o < 4 := by simpa using ho
    obtain rfl | rfl | rfl | rfl : o = 0 ∨ o = 1 ∨ o = 2 ∨ o = 3 := by omega
    all_goals rfl
theorem getD4 (a b c d : Value) : (#[a, b, c, d] : Array Value).getD 0 undef = a ∧ (#[a, b, c, d] : Array Value).getD 1 undef = b ∧ (#[a, b, c, d] : Array Value).getD 2 undef = c ∧ (#[a, b, c, d] : Array Value).getD 3 undef = d := ⟨rfl, rfl, rfl, rfl⟩
theorem denL_app (ns : List Nd) (a b : List Tk) (s : BSt) : denL ns (a ++ b) s = denL ns b (denL ns a s) := by unfold denL; rw [List.foldl_append]
set_option maxRecDepth 100000 in
set_option maxHeartbeats 8000000 in
theorem buildS_any {w : World} {s x tb root ncap : Nat} {ns out0 : List Nd} (h : SM w s x out0 [] []) (hZ : ZM w s ns ns.length) (hNM : NM w tb ns) (htb : ¬ SBld s tb) (h24 : ns.length ≤ 24) (hwf : WF ns) (hrb : ∀ k (h : k < ns.length), RB ns[k]) (hcp : ∀ k (h : k < ns.length), 0 ≤ ns[k].cap) (hroot : root < ns.length) (hsz : (zz ns root).2 ≤ 31) :
    Calls Tryz.prog 86 #[.pointer (some ⟨s, 0, none⟩), .slice (some ⟨tb, 0, none⟩) ns.length ncap, .int .i64 (root : Nat)] w fun v w' => v = .returned (.tuple #[]) ∧ SM w' s x (chdW (zz ns root) (bld ns root) 0) [] [] ∧ Fr (fun b => SBld s b) w w' := by
  have hE : (chdW (zz ns root) (bld ns root) 0).length ≤ 31 := by
    have h1 := (core_main hwf hrb root hroot).chd.2
    rw [h1] at hsz
    unfold lidN at hsz
    split at hsz <;> omega
  obtain ⟨g, fo, fw, fr, hB, hL, hO, ho, hW, hw, hR, hr⟩ := h
  have y4 := hB.cell (o := 4) (by omega)
  have y6 := hB.cell (o := 6) (by omega)
  have y8 := hB.cell (o := 8) (by omega)
  have z := hB.frozen
  have hsl : s + 5 < w.heap.size := hR.lt
  have hl0 : s < w.heap.size := by omega
  have FI := (((Fr.refl (fun b => b = s) w).setC s 4 (.int .i64 0) (fun _ => rfl)).setC s 6 (.int .i64 0) (fun _ => rfl)).setC s 8 (.int .i64 0) (fun _ => rfl)
  have hI : SM (((w.setCell ⟨s, 4, none⟩ (.int .i64 0)).setCell ⟨s, 6, none⟩ (.int .i64 0)).setCell ⟨s, 8, none⟩ (.int .i64 0)) s x [] [] [] := ⟨_, fo, fw, fr, ((hB.set 4 (.int .i64 0)).set 6 (.int .i64 0)).set 8 (.int .i64 0), ((hL.setO 0).setW 0).setR 0, hO.frame FI (by omega), fun i hi => by simp at hi, hW.frame FI (by omega), trivial, hR.frame FI (by omega), trivial⟩
  go_enter Tryz.func86, Tryz.ntmps86
  go_wp2_with fail
  refine (push_any (.child root) hI (by simp)).mono ?_
  rintro v w1 ⟨rfl, h1, f1⟩
  have F1 := (FI.mono (S' := fun b => SBld s b) (fun b _ e => .inl e)).trans f1 (fun _ _ h => h)
  have hE' : Hid ((chdW (zz ns root) (bld ns root) 0).length = (chdW (zz ns root) (bld ns root) 0).length) := rfl
  generalize hEE : (chdW (zz ns root) (bld ns root) 0).length = E at hE
  have HEE : Hid _ := hEE
  clear hEE hE'
  obtain ⟨D, hD⟩ : ∃ D, denL ns [.child root] ([], []) = D := ⟨_, rfl⟩
  have HDD : Hid (D.1 = chdW (zz ns root) (bld ns root) 0) := by
    show D.1 = chdW (zz ns root) (bld ns root) 0
    rw [← hD]
    rfl
  have HD0 : Hid _ := hD
  clear hD hI FI y4 y6 y8 z hB hL hO ho hW hw hR hr
  go_wp2_with fail
  go_loopg [] (wt [.child root]) (fun gk wr => ∃ out ws rs, SM wr s x out ws rs ∧ WOk ns E out.length rs.length ws ∧ denL ns ws (out, rs) = D ∧ ContOk ns ws (out, rs) ∧ wt ws ≤ gk ∧ Fr (fun b => SBld s b) w wr)
  case atStart => exact ⟨[], _, [], h1, WOk.child hroot (by simp; omega) (by simp; omega) (by rw [HEE.out, List.length_nil, Nat.zero_add]; exact WOk.nil), HD0.out, ⟨trivial, trivial⟩, Nat.le_refl _, F1⟩
  case round =>
    clear h1 f1 F1 HEE HD0
    obtain ⟨out, ws0, rs, hSM, hWO, hD, hC, hwt, hfr⟩ := hrel
    have hwt' : wt ws0 ≤ gk := hwt
    clear hwt
    have hSM' := hSM
    obtain ⟨g, fo, fw, fr, hB, hL, hO, ho, hWb, hw, hR, hr⟩ := hSM'
    have c5 := hB.cell (o := 5) (by omega)
    rw [hL.w5] at c5
    have c6 := hB.cell (o := 6) (by omega)
    rw [hL.n6] at c6
    have c8 := hB.cell (o := 8) (by omega)
    have zB := hB.frozen
    have lR := hR.lt
    have lW := hWb.lt
    have lB := hB.lt
    cases ws0 with
    | nil =>
      have FE := (Fr.refl (fun b => b = s) wr).setC s 8 (.int .i64 0) (fun _ => rfl)
      have h2 : SM (wr.setCell ⟨s, 8, none⟩ (.int .i64 0)) s x out [] [] := ⟨_, fo, fw, fr, hB.set 8 (.int .i64 0), hL.setR 0, hO.frame FE (by omega), ho, hWb.frame FE (by omega), hw, hR.frame FE (by omega), trivial⟩
      have Hout : Hid (out = chdW (zz ns root) (bld ns root) 0) := by
        show out = chdW (zz ns root) (bld ns root) 0
        rw [← HDD.out, ← hD]
        rfl
      simp only [List.length_nil] at c6
      clear hD hC hWO
      go_wp2_with fail
      go_end0
      refine ⟨rfl, ?_, hfr.trans FE (fun b _ e => .inl e)⟩
      rw [← Hout.out]
      exact h2
    | cons t ws =>
      obtain ⟨hw1, hw2⟩ := hw
      simp only [List.length_cons] at c6
      have HD : Hid (denL ns ws (den ns t (out, rs)) = D) := hD
      have HC : Hid _ := hC
      clear hD hC
      have hws49 : ws.length ≤ 48 := by
        cases hWO <;> omega
      have hd0 : decide ((0 : Int) < ((ws.length + 1 : Nat) : Int)) = true := decide_eq_true (by omega)
      have hd0' : decide ((0 : Int) < (ws.length : Int) + 1) = true := decide_eq_true (by omega)
      have hwI : (ws.length : Int) ≤ 48 := by omega
      cases t with
      | child n =>
        have hn : n < ns.length := by cases hWO; assumption
        have FA := (((Fr.refl (fun b => SBld s b) wr).setC s 6 (.int .i64 (ws.length : Nat)) (fun _ => .inl rfl)).alloc (.cells #[.int .i64 1, .int .i64 (n : Nat), .int .i64 ((0 : Nat) : Int), .int .i64 (-1)] 206)).drew
        have FT := (((Fr.refl (fun b => b = s) wr).setC s 6 (.int .i64 (ws.length : Nat)) (fun _ => rfl)).alloc (.cells #[.int .i64 1, .int .i64 (n : Nat), .int .i64 ((0 : Nat) : Int), .int .i64 (-1)] 206)).drew
        have h1 : SM ((wr.setCell ⟨s, 6, none⟩ (.int .i64 (ws.length : Nat))).alloc (.cells #[.int .i64 1, .int .i64 (n : Nat), .int .i64 ((0 : Nat) : Int), .int .i64 (-1)] 206)).drew s x out ws rs := ⟨_, fo, fw, fr, ((hB.set 6 (.int .i64 (ws.length : Nat))).alloc _).drew, hL.setW ws.length, hO.frame FT (by omega), ho, hWb.frame FT (by omega), hw2, hR.frame FT (by omega), hr⟩
        have hbx := Blk.task (wr.setCell ⟨s, 6, none⟩ (.int .i64 (ws.length : Nat))) 1 (n : Nat) ((0 : Nat) : Int) (-1)
        simp only [World.size_setCell] at hbx
        have hbx1 := hbx.drew
        have q0 := hWb.cell (o := ws.length * 4) (by omega)
        have q1 := hWb.cell (o := ws.length * 4 + 1) (by omega)
        have q2 := hWb.cell (o := ws.length * 4 + 2) (by omega)
        have q3 := hWb.cell (o := ws.length * 4 + 3) (by omega)
        rw [show fw (ws.length * 4) = .int .i64 1 from hw1 0 (by omega)] at q0
        rw [show fw (ws.length * 4 + 1) = .int .i64 (n : Nat) from hw1 1 (by omega)] at q1
        rw [show fw (ws.length * 4 + 2) = .int .i64 ((0 : Nat) : Int) from hw1 2 (by omega)] at q2
        rw [show fw (ws.length * 4 + 3) = .int .i64 (-1) from hw1 3 (by omega)] at q3
        have hZ1 := (hZ.bld hfr).bld FA
        have hNM1 := (hNM.frame hfr htb).frame FA htb
        go_wp2_with fail
        refine wp_region_text (by kernel_rfl) (by kernel_rfl) ?_
        go_wp2_with fail
        refine ⟨by kernel_rfl, ?_⟩
        go_wp2_with fail
        refine (child_any h1 hZ1 h24 hwf hrb hE hWO).mono ?_
        rintro v w2 ⟨rfl, hsp⟩
        obtain ⟨out', ts, rs', hs1, hs2, hs3, hs4, hs5, hs6⟩ := hsp
        go_wp2_with fail
        go_roundg (wt (ts ++ ws))
        case measure => omega
        case rel => exact ⟨out', ts ++ ws, rs', hs1, hs2, by rw [denL_app, hs3]; exact HD.out, hs4.app (by rw [hs3]; exact HC.out.2), Nat.le_refl _, (hfr.trans FA (fun _ _ h => h)).trans hs6 (fun _ _ h => h)⟩
      | build n =>
        have hn : n < ns.length := by cases hWO; assumption
        have FA := (((Fr.refl (fun b => SBld s b) wr).setC s 6 (.int .i64 (ws.length : Nat)) (fun _ => .inl rfl)).alloc (.cells #[.int .i64 0, .int .i64 (n : Nat), .int .i64 ((0 : Nat) : Int), .int .i64 (-1)] 206)).drew
        have FT := (((Fr.refl (fun b => b = s) wr).setC s 6 (.int .i64 (ws.length : Nat)) (fun _ => rfl)).alloc (.cells #[.int .i64 0, .int .i64 (n : Nat), .int .i64 ((0 : Nat) : Int), .int .i64 (-1)] 206)).drew
        have h1 : SM ((wr.setCell ⟨s, 6, none⟩ (.int .i64 (ws.length : Nat))).alloc (.cells #[.int .i64 0, .int .i64 (n : Nat), .int .i64 ((0 : Nat) : Int), .int .i64 (-1)] 206)).drew s x out ws rs := ⟨_, fo, fw, fr, ((hB.set 6 (.int .i64 (ws.length : Nat))).alloc _).drew, hL.setW ws.length, hO.frame FT (by omega), ho, hWb.frame FT (by omega), hw2, hR.frame FT (by omega), hr⟩
        have hbx := Blk.task (wr.setCell ⟨s, 6, none⟩ (.int .i64 (ws.length : Nat))) 0 (n : Nat) ((0 : Nat) : Int) (-1)
        simp only [World.size_setCell] at hbx
        have hbx1 := hbx.drew
        have q0 := hWb.cell (o := ws.length * 4) (by omega)
        have q1 := hWb.cell (o := ws.length * 4 + 1) (by omega)
        have q2 := hWb.cell (o := ws.length * 4 + 2) (by omega)
        have q3 := hWb.cell (o := ws.length * 4 + 3) (by omega)
        rw [show fw (ws.length * 4) = .int .i64 0 from hw1 0 (by omega)] at q0
        rw [show fw (ws.length * 4 + 1) = .int .i64 (n : Nat) from hw1 1 (by omega)] at q1
        rw [show fw (ws.length * 4 + 2) = .int .i64 ((0 : Nat) : Int) from hw1 2 (by omega)] at q2
        rw [show fw (ws.length * 4 + 3) = .int .i64 (-1) from hw1 3 (by omega)] at q3
        have hZ1 := (hZ.bld hfr).bld FA
        have hNM1 := (hNM.frame hfr htb).frame FA htb
        go_wp2_with fail
        refine wp_region_text (by kernel_rfl) (by kernel_rfl) ?_
        go_wp2_with fail
        refine ⟨by kernel_rfl, ?_⟩
        go_wp2_with fail
        refine (open_any h1 hZ1 hNM1 h24 hwf hrb hE hWO).mono ?_
        rintro v w2 ⟨rfl, hsp⟩
        obtain ⟨out', ts, rs', hs1, hs2, hs3, hs4, hs5, hs6⟩ := hsp
        go_wp2_with fail
        go_roundg (wt (ts ++ ws))
        case measure => omega
        case rel => exact ⟨out', ts ++ ws, rs', hs1, hs2, by rw [denL_app, hs3]; exact HD.out, hs4.app (by rw [hs3]; exact HC.out.2), Nat.le_refl _, (hfr.trans FA (fun _ _ h => h)).trans hs6 (fun _ _ h => h)⟩
      | join n =>
        have hn : n < ns.length := by cases hWO; assumption
        have FA := (((Fr.refl (fun b => SBld s b) wr).setC s 6 (.int .i64 (ws.length : Nat)) (fun _ => .inl rfl)).alloc (.cells #[.int .i64 2, .int .i64 (n : Nat), .int .i64 ((0 : Nat) : Int), .int .i64 (-1)] 206)).drew
        have FT := (((Fr.refl (fun b => b = s) wr).setC s 6 (.int .i64 (ws.length : Nat)) (fun _ => rfl)).alloc (.cells #[.int .i64 2, .int .i64 (n : Nat), .int .i64 ((0 : Nat) : Int), .int .i64 (-1)] 206)).drew
        have h1 : SM ((wr.setCell ⟨s, 6, none⟩ (.int .i64 (ws.length : Nat))).alloc (.cells #[.int .i64 2, .int .i64 (n : Nat), .int .i64 ((0 : Nat) : Int), .int .i64 (-1)] 206)).drew s x out ws rs := ⟨_, fo, fw, fr, ((hB.set 6 (.int .i64 (ws.length : Nat))).alloc _).drew, hL.setW ws.length, hO.frame FT (by omega), ho, hWb.frame FT (by omega), hw2, hR.frame FT (by omega), hr⟩
        have hbx := Blk.task (wr.setCell ⟨s, 6, none⟩ (.int .i64 (ws.length : Nat))) 2 (n : Nat) ((0 : Nat) : Int) (-1)
        simp only [World.size_setCell] at hbx
        have hbx1 := hbx.drew
        have q0 := hWb.cell (o := ws.length * 4) (by omega)
        have q1 := hWb.cell (o := ws.length * 4 + 1) (by omega)
        have q2 := hWb.cell (o := ws.length * 4 + 2) (by omega)
        have q3 := hWb.cell (o := ws.length * 4 + 3) (by omega)
        rw [show fw (ws.length * 4) = .int .i64 2 from hw1 0 (by omega)] at q0
        rw [show fw (ws.length * 4 + 1) = .int .i64 (n : Nat) from hw1 1 (by omega)] at q1
        rw [show fw (ws.length * 4 + 2) = .int .i64 ((0 : Nat) : Int) from hw1 2 (by omega)] at q2
        rw [show fw (ws.length * 4 + 3) = .int .i64 (-1) from hw1 3 (by omega)] at q3
        have hZ1 := (hZ.bld hfr).bld FA
        have hNM1 := (hNM.frame hfr htb).frame FA htb
        have HJ : Hid (WOk ns E (out.length + 1) (rs.length - 1) ws) := by cases hWO; assumption
        have hR2 : 2 ≤ rs.length ∧ rs.length ≤ 25 := by cases hWO; exact ⟨by assumption, by assumption⟩
        have hol : out.length < 31 := by have := HJ.out.le hwf hrb; omega
        have Hw1 : Hid (wt ws < wt (.join n :: ws)) := by show wt ws < wt (.join n :: ws); rw [wt_cons]; simp only [wtT]; omega
        have hnI : (n : Int) ≤ 23 := by omega
        clear hWO
        match rs, hR2, hr, hR, h1, HC, HD, HJ with
        | b :: a :: r, hR2, hr, hR, h1, HC, HD, HJ =>
          simp only [List.length_cons] at hR2
          go_wp2_with fail
          refine wp_region_text (by kernel_rfl) (by kernel_rfl) ?_
          go_wp2_with fail
          refine ⟨by kernel_rfl, ?_⟩
          go_wp2_with fail
          refine (popRoot_any h1 (by simp; omega)).mono ?_
          rintro v w2 ⟨rfl, h2, f2⟩
          go_wp2_with fail
          refine (popRoot_any h2 (by omega)).mono ?_
          rintro v w3 ⟨rfl, h3, f3⟩
          have F23 := (FA.trans f2 (fun _ _ h => h)).trans f3 (fun _ _ h => h)
          have hbx3 := (hbx1.frame f2 (by unfold SBld; omega)).frame f3 (by unfold SBld; omega)
          have hNM3 := (hNM1.frame f2 htb).frame f3 htb
          have hN1 := hNM3.at
          have n0 := hN1 n hn 0 (by omega)
          simp only [ndCell, Nat.add_zero] at n0
          have x1 := hbx3.cell (o := 1) (by omega)
          simp only [getD4] at x1
          have lx3 := hbx3.lt
          go_wp2_with fail
          refine (node_any ns[n].kind (a : Nat) (b : Nat) h3 hol).mono ?_
          rintro v w4 ⟨rfl, h4, f4⟩
          go_wp2_with fail
          refine (pushRoot_any out.length h4 (by omega)).mono ?_
          rintro v w5 ⟨rfl, h5, f5⟩
          have Hden : Hid (den ns (.join n) (out, b :: a :: r) = (out ++ [(⟨ns[n].kind, (a : Nat), (b : Nat), 0, 0, 0, false, noP⟩ : Nd)], out.length :: r)) := by
            show (out ++ [twoNd (ndAt ns n).kind a b], out.length :: r) = _
            rw [ndAt_eq hn]
            rfl
          go_wp2_with fail
          go_roundg (wt ws)
          case measure => have := Hw1.out; omega
          case rel => exact ⟨_, ws, _, h5, by have := HJ.out; simpa using this, by rw [← Hden.out]; exact HD.out, by rw [← Hden.out]; exact HC.out.2, Nat.le_refl _, ((hfr.trans F23 (fun _ _ h => h)).trans f4 (fun _ _ h => h)).trans f5 (fun _ _ h => h)⟩
      | group n =>
        have hn : n < ns.length := by cases hWO; assumption
        have FA := (((Fr.refl (fun b => SBld s b) wr).setC s 6 (.int .i64 (ws.length : Nat)) (fun _ => .inl rfl)).alloc (.cells #[.int .i64 3, .int .i64 (n : Nat), .int .i64 ((0 : Nat) : Int), .int .i64 (-1)] 206)).drew
        have FT := (((Fr.refl (fun b => b = s) wr).setC s 6 (.int .i64 (ws.length : Nat)) (fun _ => rfl)).alloc (.cells #[.int .i64 3, .int .i64 (n : Nat), .int .i64 ((0 : Nat) : Int), .int .i64 (-1)] 206)).drew
        have h1 : SM ((wr.setCell ⟨s, 6, none⟩ (.int .i64 (ws.length : Nat))).alloc (.cells #[.int .i64 3, .int .i64 (n : Nat), .int .i64 ((0 : Nat) : Int), .int .i64 (-1)] 206)).drew s x out ws rs := ⟨_, fo, fw, fr, ((hB.set 6 (.int .i64 (ws.length : Nat))).alloc _).drew, hL.setW ws.length, hO.frame FT (by omega), ho, hWb.frame FT (by omega), hw2, hR.frame FT (by omega), hr⟩
        have hbx := Blk.task (wr.setCell ⟨s, 6, none⟩ (.int .i64 (ws.length : Nat))) 3 (n : Nat) ((0 : Nat) : Int) (-1)
        simp only [World.size_setCell] at hbx
        have hbx1 := hbx.drew
        have q0 := hWb.cell (o := ws.length * 4) (by omega)
        have q1 := hWb.cell (o := ws.length * 4 + 1) (by omega)
        have q2 := hWb.cell (o := ws.length * 4 + 2) (by omega)
        have q3 := hWb.cell (o := ws.length * 4 + 3) (by omega)
        rw [show fw (ws.length * 4) = .int .i64 3 from hw1 0 (by omega)] at q0
        rw [show fw (ws.length * 4 + 1) = .int .i64 (n : Nat) from hw1 1 (by omega)] at q1
        rw [show fw (ws.length * 4 + 2) = .int .i64 ((0 : Nat) : Int) from hw1 2 (by omega)] at q2
        rw [show fw (ws.length * 4 + 3) = .int .i64 (-1) from hw1 3 (by omega)] at q3
        have hZ1 := (hZ.bld hfr).bld FA
        have hNM1 := (hNM.frame hfr htb).frame FA htb
        have HJ : Hid (WOk ns E (out.length + 1) rs.length ws) := by cases hWO; assumption
        have hR2 : 1 ≤ rs.length ∧ rs.length ≤ 25 := by cases hWO; exact ⟨by assumption, by assumption⟩
        have hol : out.length < 31 := by have := HJ.out.le hwf hrb; omega
        have Hw1 : Hid (wt ws < wt (.group n :: ws)) := by show wt ws < wt (.group n :: ws); rw [wt_cons]; simp only [wtT]; omega
        have hnI : (n : Int) ≤ 23 := by omega
        obtain ⟨cp, hcpn⟩ : ∃ cp : Nat, ns[n].cap = cp := ⟨ns[n].cap.toNat, by have := hcp n hn; omega⟩
        have Hcpn : Hid _ := hcpn
        clear hWO
        match rs, hR2, hr, hR, h1, HC, HD, HJ with
        | a :: r, hR2, hr, hR, h1, HC, HD, HJ =>
          simp only [List.length_cons] at hR2
          go_wp2_with fail
          refine wp_region_text (by kernel_rfl) (by kernel_rfl) ?_
          go_wp2_with fail
          refine ⟨by kernel_rfl, ?_⟩
          go_wp2_with fail
          refine (popRoot_any h1 (by omega)).mono ?_
          rintro v w3 ⟨rfl, h3, f3⟩
          have F23 := FA.trans f3 (fun _ _ h => h)
          have hbx3 := hbx1.frame f3 (by unfold SBld; omega)
          have hNM3 := hNM1.frame f3 htb
          have hN1 := hNM3.at
          have n5 := hN1 n hn 5 (by omega)
          simp only [ndCell] at n5
          rw [hcpn] at n5
          clear hcpn
          have x1 := hbx3.cell (o := 1) (by omega)
          simp only [getD4] at x1
          have lx3 := hbx3.lt
          go_wp2_with fail
          rw [← ndV_grp]
          refine (addS_any (grpNd a cp) h3 hol).mono ?_
          rintro v w4 ⟨rfl, h4, f4⟩
          go_wp2_with fail
          refine (pushRoot_any out.length h4 (by omega)).mono ?_
          rintro v w5 ⟨rfl, h5, f5⟩
          have Hden : Hid (den ns (.group n) (out, a :: r) = (out ++ [grpNd a cp], out.length :: r)) := by
            show (out ++ [grpNd a (ndAt ns n).cap.toNat], out.length :: r) = _
            rw [ndAt_eq hn, Hcpn.out]
            rfl
          go_wp2_with fail
          go_roundg (wt ws)
          case measure => have := Hw1.out; omega
          case rel => exact ⟨_, ws, _, h5, by have := HJ.out; simpa using this, by rw [← Hden.out]; exact HD.out, by rw [← Hden.out]; exact HC.out.2, Nat.le_refl _, ((hfr.trans F23 (fun _ _ h => h)).trans f4 (fun _ _ h => h)).trans f5 (fun _ _ h => h)⟩
      | unroll n at_ e =>
        have hn : n < ns.length := by cases hWO; assumption
        have FA := (((Fr.refl (fun b => SBld s b) wr).setC s 6 (.int .i64 (ws.length : Nat)) (fun _ => .inl rfl)).alloc (.cells #[.int .i64 4, .int .i64 (n : Nat), .int .i64 (at_ : Nat), .int .i64 e] 206)).drew
        have FT := (((Fr.refl (fun b => b = s) wr).setC s 6 (.int .i64 (ws.length : Nat)) (fun _ => rfl)).alloc (.cells #[.int .i64 4, .int .i64 (n : Nat), .int .i64 (at_ : Nat), .int .i64 e] 206)).drew
        have h1 : SM ((wr.setCell ⟨s, 6, none⟩ (.int .i64 (ws.length : Nat))).alloc (.cells #[.int .i64 4, .int .i64 (n : Nat), .int .i64 (at_ : Nat), .int .i64 e] 206)).drew s x out ws rs := ⟨_, fo, fw, fr, ((hB.set 6 (.int .i64 (ws.length : Nat))).alloc _).drew, hL.setW ws.length, hO.frame FT (by omega), ho, hWb.frame FT (by omega), hw2, hR.frame FT (by omega), hr⟩
        have hbx := Blk.task (wr.setCell ⟨s, 6, none⟩ (.int .i64 (ws.length : Nat))) 4 (n : Nat) (at_ : Nat) e
        simp only [World.size_setCell] at hbx
        have hbx1 := hbx.drew
        have q0 := hWb.cell (o := ws.length * 4) (by omega)
        have q1 := hWb.cell (o := ws.length * 4 + 1) (by omega)
        have q2 := hWb.cell (o := ws.length * 4 + 2) (by omega)
        have q3 := hWb.cell (o := ws.length * 4 + 3) (by omega)
        rw [show fw (ws.length * 4) = .int .i64 4 from hw1 0 (by omega)] at q0
        rw [show fw (ws.length * 4 + 1) = .int .i64 (n : Nat) from hw1 1 (by omega)] at q1
        rw [show fw (ws.length * 4 + 2) = .int .i64 (at_ : Nat) from hw1 2 (by omega)] at q2
        rw [show fw (ws.length * 4 + 3) = .int .i64 e from hw1 3 (by omega)] at q3
        have hZ1 := (hZ.bld hfr).bld FA
        have hNM1 := (hNM.frame hfr htb).frame FA htb
        have hk6 : ns[n].kind = 6 := by cases hWO; assumption
        have hw2' : (zz ns n).1 = 2 := by cases hWO; assumption
        have hR2 : 1 ≤ rs.length ∧ rs.length ≤ 25 := by cases hWO; exact ⟨by assumption, by assumption⟩
        have he : e = -1 ∧ optLz ns[n] = false ∨ e = (at_ : Int) - 1 ∧ 1 ≤ at_ ∧ optLz ns[n] = true := by cases hWO; assumption
        have HJ : Hid (WOk ns E (baseOf at_ e + (unrollOf ns n 0).length) rs.length ws) := by cases hWO; assumption
        have hLL : out.length = at_ + (bld ns ns[n].a.toNat 0).length := by cases hWO; assumption
        have Hw1 : Hid (wt ws < wt (.unroll n at_ e :: ws)) := by show wt ws < wt (.unroll n at_ e :: ws); rw [wt_cons]; simp only [wtT]; omega
        have hnI : (n : Int) ≤ 23 := by omega
        have hle := hWO.le hwf hrb
        have hatI : (at_ : Int) ≤ 31 := by omega
        clear hWO
        obtain ⟨O, hO1, hO2, r0, hO3⟩ := HC.out.1
        rw [ndAt_eq hn] at hO2 hO3
        simp only at hO2 hO3
        have hcapO : O.length + (unrollOf ns n 0).length ≤ 31 := by have := HJ.out.le hwf hrb; rw [hO1]; omega
        have hmvu := (unroll_facts hwf hrb hn hk6 hw2').2.1
        have Hlu : Hid _ := hmvu.len O.length
        subst hO3
        generalize hrt : at_ + (bld ns ns[n].a.toNat at_).length - 1 = rt at *
        have Hrt : Hid _ := hrt
        clear hrt
        have hN1 := hNM1.at
        have n0 := hN1 n hn 0 (by omega)
        have n1 := hN1 n hn 1 (by omega)
        have n2 := hN1 n hn 2 (by omega)
        have n3 := hN1 n hn 3 (by omega)
        have n4 := hN1 n hn 4 (by omega)
        have n5 := hN1 n hn 5 (by omega)
        have n6 := hN1 n hn 6 (by omega)
        have n7 := hN1 n hn 7 (by omega)
        have n8 := hN1 n hn 8 (by omega)
        have n9 := hN1 n hn 9 (by omega)
        have n10 := hN1 n hn 10 (by omega)
        simp only [ndCell, Nat.add_zero] at n0 n1 n2 n3 n4 n5 n6 n7 n8 n9 n10
        have tbl : tb < wr.heap.size := by
          obtain ⟨f, a, _⟩ := hNM.frame hfr htb
          exact a.lt
        have Hin : Hid (∀ {W : World}, SM W s x out ws (rt :: r0) → Calls Tryz.prog 122 #[.pointer (some ⟨s, 0, none⟩), ndV ns[n], .int .i64 (at_ : Nat), .int .i64 e] W fun v w' => v = .returned (.int .i64 ((O.length + (unrollOf ns n O.length).length - 1 : Nat) : Int)) ∧ SM w' s x (O ++ unrollOf ns n O.length) ws r0 ∧ Fr (fun b => SBld s b) W w') := fun hh => unroll_any hh hwf hrb hn hk6 hw2' (by simp at hR2; omega) he hO1 hO2 Hrt.out.symm hcapO
        simp only [List.length_cons] at hR2
        have Hden : Hid (den ns (.unroll n at_ e) (out, rt :: r0) = (O ++ unrollOf ns n O.length, (O.length + (unrollOf ns n O.length).length - 1) :: r0)) := by
          show den ns (.unroll n at_ e) (out, rt :: r0) = (O ++ unrollOf ns n O.length, (O.length + (unrollOf ns n O.length).length - 1) :: r0)
          rw [den_unroll (base := O.length) hO1.symm]
          have : out.take O.length = O := by rw [hO2, List.append_assoc, List.take_left]
          simp only [this, List.tail_cons]
        have HO1 : Hid _ := hO1
        generalize hnn : ns[n] = nd at n0 n1 n2 n3 n4 n5 n6 n7 n8 n9 n10 Hin
        have Hnn : Hid _ := hnn
        clear hO1 hO2 he hk6 hw2' hLL hnn
        unfold ndV at Hin
        go_wp2_with fail
        refine wp_region_text (by kernel_rfl) (by kernel_rfl) ?_
        go_wp2_with fail
        refine ⟨by kernel_rfl, ?_⟩
        go_wp2_with fail
        refine wp_region_text (by kernel_rfl) (by kernel_rfl) ?_
        go_wp2_with fail
        refine Calls.mono (Hin.out (h1.idle (Fr.refl (fun _ => False) _).drew)) ?_
        rintro v w3 ⟨rfl, h3, f3⟩
        go_wp2_with fail
        refine ⟨by kernel_rfl, ?_⟩
        go_wp2_with fail
        refine (pushRoot_any (O.length + (unrollOf ns n O.length).length - 1) h3 (by omega)).mono ?_
        rintro v w4 ⟨rfl, h4, f4⟩
        go_wp2_with fail
        go_roundg (wt ws)
        case measure => have := Hw1.out; omega
        case rel => exact ⟨_, ws, _, h4, by have h9 := HJ.out; rw [← HO1.out] at h9; rw [List.length_append, Hlu.out]; simpa using h9, by rw [← Hden.out]; exact HD.out, by rw [← Hden.out]; exact HC.out.2, Nat.le_refl _, ((hfr.trans FA.drew (fun _ _ h => h)).trans f3 (fun _ _ h => h)).trans f4 (fun _ _ h => h)⟩
end Go.Proofs.Qxb6500283aGreat
