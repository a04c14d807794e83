/- The model's New, Core. -/
import Derived.Test.Qxb6500283aGreatM15
namespace Go.Proofs.Qxb6500283aGreat
open Go Go.RowKit

def mdCell (sp c j : Nat) : Value := match j with | 0 => .pointer (some ⟨sp, 0, none⟩) | _ => .int .i64 (c : Nat)
/-- The model in memory: its calls are counted twice. -/
def MC (w : World) (m sp c : Nat) : Prop := Blk w m 2 (mdCell sp c) ∧ Blk w sp 1 (fun _ => .int .i64 (c : Nat)) ∧ sp < m
theorem MC.frame {S : Nat → Prop} {w w' : World} {m sp c : Nat} (h : MC w m sp c) (k : Fr S w w') (hm : ¬ S m) (hs : ¬ S sp) : MC w' m sp c := ⟨h.1.frame k hm, h.2.1.frame k hs, h.2.2⟩
set_option maxHeartbeats 400000 in
theorem newC_any (w : World) : Calls Tryz.prog 38 #[] w fun e w' => ∃ m, e = .returned (.pointer (some ⟨m, 0, none⟩)) ∧ w.heap.size < m ∧ MC w' m w.heap.size 0 ∧ Fr (fun _ => False) w w' := by
  go_enter Tryz.func38, Tryz.ntmps38
  go_wp2_with fail
  refine (newM_any w).mono ?_
  rintro v w1 ⟨rfl, hb, f1⟩
  have hn := Blk.new w1 #[.pointer (some ⟨w.heap.size, 0, none⟩), .int .i64 0] 138 (mdCell w.heap.size 0) (fun o ho => by
    have ho : o < 2 := by simpa using ho
    obtain rfl | rfl : o = 0 ∨ o = 1 := by omega
    all_goals rfl)
  have hl := hb.lt
  go_wp2_with fail
  go_ret
  exact ⟨w1.heap.size, rfl, hl, ⟨hn, hb.alloc _, hl⟩, f1.alloc _⟩
def rmCell (b l : Nat) (y g : Int) (j : Nat) : Value := match j with | 0 => .slice (some ⟨b, 0, none⟩) l l | 1 => .int .i64 y | 2 => .int .i64 g | 5 => .slice none 0 0 | _ => .int .i64 0
theorem Blk.rm (w : World) (b l : Nat) (y g : Int) : Blk (w.alloc (.cells #[.slice (some ⟨b, 0, none⟩) l l, .int .i64 y, .int .i64 g, .int .i64 0, .int .i64 0, .slice none 0 0] 169)) w.heap.size 6 (rmCell b l y g) :=
  Blk.new w _ _ _ fun o ho => by
    have ho : o < 6 := by simpa using ho
    obtain rfl | rfl | rfl | rfl | rfl | rfl : o = 0 ∨ o = 1 ∨ o = 2 ∨ o = 3 ∨ o = 4 ∨ o = 5 := by omega
    all_goals rfl
set_option maxRecDepth 100000 in
set_option maxHeartbeats 16000000 in
theorem coreM_any {w : World} {m sp c : Nat} (hC : MC w m sp c) (hc : c ≤ 1000000000000000000) (p : ByteArray) :
    Calls Tryz.prog 66 #[.pointer (some ⟨m, 0, none⟩), .string p] w fun v w' => ∃ o, ModelL p o ∧ ParsePost w (coreO o) v w' ∧ MC w' m sp (c + 1) ∧ Fr (fun b => b = m ∨ b = sp) w w' := by
  obtain ⟨hm, hsp, hlt⟩ := hC
  have hml := hm.lt
  have cm0 := hm.cell (o := 0) (by omega)
  have cm1 := hm.cell (o := 1) (by omega)
  have z := hm.frozen
  simp only [mdCell] at cm0 cm1
  have hcb : (c : Int) ≤ 1000000000000000000 := by omega
  have k1 := (Fr.refl (fun b => b = m) w).setC m 1 (.int .i64 ((c : Int) + 1)) (fun _ => rfl)
  have k2 : Fr (fun _ => False) (w.setCell ⟨m, 1, none⟩ (.int .i64 ((c : Int) + 1))) ((w.setCell ⟨m, 1, none⟩ (.int .i64 ((c : Int) + 1))).alloc (.cells #[.slice none 0 0, .int .i64 0, .int .i64 0, .int .i64 0, .int .i64 0] 148)) := (Fr.refl _ _).alloc _
  have hm1 : Blk (w.setCell ⟨m, 1, none⟩ (.int .i64 ((c : Int) + 1))) m 2 (mdCell sp (c + 1)) := by
    refine (hm.set 1 _).congr (fun o ho => ?_)
    obtain rfl | rfl : o = 0 ∨ o = 1 := by omega
    · simp [upd, mdCell]
    · simp [upd, mdCell]
  have hm2 := hm1.frame k2 (fun h => h)
  have hsp2 := (hsp.frame k1 (by omega)).frame k2 (fun h => h)
  have hR1 := Blk.tr (w.setCell ⟨m, 1, none⟩ (.int .i64 ((c : Int) + 1))) (.slice none 0 0)
  rw [World.size_setCell] at hR1
  have F1 : Fr (fun b => b = m ∨ b = sp) w ((w.setCell ⟨m, 1, none⟩ (.int .i64 ((c : Int) + 1))).alloc (.cells #[.slice none 0 0, .int .i64 0, .int .i64 0, .int .i64 0, .int .i64 0] 148)) := (k1.mono (fun _ _ h => .inl h)).trans k2 (fun _ _ h => h.elim)
  have dm := hm2.cell (o := 0) (by omega)
  simp only [mdCell] at dm
  have hml2 := hm2.lt
  go_enter Tryz.func66, Tryz.ntmps66
  go_wp2_with fail
  refine (parseM_any hsp2 hc p).mono ?_
  rintro v w2 ⟨o, hM, hP, hsp3, f2⟩
  have hm3 := hm2.frame f2 (by omega)
  have hR2 := hR1.frame f2 (by omega)
  have F2 := F1.trans f2 (fun b _ h => .inr h)
  clear cm0 cm1 z dm hsp hsp2 hm hm1 hm2 hR1 k1 k2
  cases o with
  | error e =>
    obtain rfl : v = .returned (trErr e) := hP
    have he := hM.err
    have te : (e.1 == 0) = false := by simpa using he
    have te' : (e.1 != 0) = true := by simpa using he
    have k3 : Fr (fun _ => False) w2 (w2.alloc (.cells #[.slice none 0 0, .int .i64 (-1), .int .i64 0, .int .i64 e.1, .int .i64 (e.2 : Nat)] 148)) := (Fr.refl _ _).alloc _
    have hR3 := hR2.frame k3 (fun h => h)
    have hm4 := hm3.frame k3 (fun h => h)
    have hsp4 := hsp3.frame k3 (fun h => h)
    have F3 := F2.trans k3 (fun _ _ h => h.elim)
    unfold trErr
    have lR := hR3.lt
    have zR := hR3.frozen
    have m0 := hR3.cell (o := 0) (by omega)
    have m1 := hR3.cell (o := 1) (by omega)
    have m2 := hR3.cell (o := 2) (by omega)
    have m3 := hR3.cell (o := 3) (by omega)
    have m4 := hR3.cell (o := 4) (by omega)
    go_wp2_with fail
    obtain ⟨r0, r1, r2, r3, r4⟩ := tail_cells0 hR3 (.slice none 0 0) (.int .i64 (-1)) (.int .i64 0) (.int .i64 e.1) (.int .i64 (e.2 : Nat))
    have FR := ((((((Fr.refl (fun b => b = w.heap.size) (w2.alloc (.cells #[.slice none 0 0, .int .i64 (-1), .int .i64 0, .int .i64 e.1, .int .i64 (e.2 : Nat)] 148))).setC w.heap.size 0 (.slice none 0 0) (fun _ => rfl)).setC w.heap.size 1 (.int .i64 (-1)) (fun _ => rfl)).setC w.heap.size 2 (.int .i64 0) (fun _ => rfl)).setC w.heap.size 3 (.int .i64 e.1) (fun _ => rfl)).setC w.heap.size 4 (.int .i64 (e.2 : Nat)) (fun _ => rfl))
    exact bodyPost_ret (v := .agg #[.slice none 0 0, .int .i64 (-1), .int .i64 0, .int .i64 e.1, .int .i64 (e.2 : Nat)]) (by simp [results, Tryz.results66, go_sem, r0, r1, r2, r3, r4]) rfl ⟨.error e, hM, rfl, ⟨hm4.frame FR (by omega), hsp4.frame FR (by omega), hlt⟩, F3.trans FR (fun b hb h => by omega)⟩
  | ok t =>
    obtain ⟨ns, y, g⟩ := t
    obtain ⟨b, hb, rfl, f, hbB, hbf⟩ := hP
    obtain ⟨hT, hg⟩ := hM.tree
    have hyl : y < ns.length := by have := hT.root; omega
    have hyI : (y : Int) ≤ 23 := by have := hT.root; have := hT.len; omega
    have HM : Hid _ := hM
    clear hM
    have hb' : w.heap.size + 1 ≤ b := by simpa [World.size_alloc, World.size_setCell] using hb
    have hbl := hbB.lt
    have k3 : Fr (fun _ => False) w2 (w2.alloc (.cells #[.slice (some ⟨b, 0, none⟩) ns.length ns.length, .int .i64 (y : Nat), .int .i64 (g : Nat), .int .i64 0, .int .i64 0] 148)) := (Fr.refl _ _).alloc _
    have hT3 := Blk.tr5 w2 (.slice (some ⟨b, 0, none⟩) ns.length ns.length) (.int .i64 (y : Nat)) (.int .i64 (g : Nat)) (.int .i64 0) (.int .i64 0)
    have hR3 := hR2.frame k3 (fun h => h)
    have hm4 := hm3.frame k3 (fun h => h)
    have hsp4 := hsp3.frame k3 (fun h => h)
    have hB3 := hbB.frame k3 (fun h => h)
    have F3 := F2.trans k3 (fun _ _ h => h.elim)
    have hLf := leafM_all hT.wf hT.rb b ns.length (y : Nat) (g : Nat) y hyl _ (hbf.at hB3 (Nat.le_refl _))
    go_wp2_with fail
    refine hLf.mono ?_
    clear hLf
    rintro v w4 ⟨rfl, f4⟩
    have hR4 := hR3.frame f4 (fun h => h)
    have hT4 := hT3.frame f4 (fun h => h)
    have hm5 := hm4.frame f4 (fun h => h)
    have hsp5 := hsp4.frame f4 (fun h => h)
    have hB4 := hB3.frame f4 (fun h => h)
    have F4 := F3.trans f4 (fun _ _ h => h.elim)
    have l4 := hT4.lt
    by_cases hbz : 31 < (zz ns y).2
    · have zd : decide ((31 : Int) < ((zz ns y).2 : Nat)) = true := decide_eq_true (by omega)
      have zi : (31 : Int) < ((zz ns y).2 : Nat) := by omega
      have HO : Hid (coreO (.ok (ns, y, g)) = .error (8, 0)) := if_pos hbz
      have lR := hR4.lt
      have zR := hR4.frozen
      have m0 := hR4.cell (o := 0) (by omega)
      have m1 := hR4.cell (o := 1) (by omega)
      have m2 := hR4.cell (o := 2) (by omega)
      have m3 := hR4.cell (o := 3) (by omega)
      have m4 := hR4.cell (o := 4) (by omega)
      go_wp2_with fail
      obtain ⟨r0, r1, r2, r3, r4⟩ := tail_cells0 hR4 (.slice none 0 0) (.int .i64 (-1)) (.int .i64 0) (.int .i64 8) (.int .i64 0)
      have FR := ((((((Fr.refl (fun b => b = w.heap.size) w4).setC w.heap.size 0 (.slice none 0 0) (fun _ => rfl)).setC w.heap.size 1 (.int .i64 (-1)) (fun _ => rfl)).setC w.heap.size 2 (.int .i64 0) (fun _ => rfl)).setC w.heap.size 3 (.int .i64 8) (fun _ => rfl)).setC w.heap.size 4 (.int .i64 0) (fun _ => rfl))
      exact bodyPost_ret (v := .agg #[.slice none 0 0, .int .i64 (-1), .int .i64 0, .int .i64 8, .int .i64 0]) (by simp [results, Tryz.results66, go_sem, r0, r1, r2, r3, r4]) rfl ⟨.ok (ns, y, g), HM.out, (by rw [HO.out]; rfl), ⟨hm5.frame FR (by omega), hsp5.frame FR (by omega), hlt⟩, F4.trans FR (fun b hb h => by omega)⟩
    · have zd : decide ((31 : Int) < ((zz ns y).2 : Nat)) = false := decide_eq_false (by omega)
      have zi : (((zz ns y).2 : Nat) : Int) ≤ 31 := by omega
      have hlen := coreL_len hT (by omega)
      have HO : Hid (coreO (.ok (ns, y, g)) = .ok (coreL ns y, (coreL ns y).length - 1, g)) := if_neg hbz
      have t0 := hT4.cell (o := 0) (by omega)
      have t1 := hT4.cell (o := 1) (by omega)
      have t2 := hT4.cell (o := 2) (by omega)
      have t3 := hT4.cell (o := 3) (by omega)
      have t4 := hT4.cell (o := 4) (by omega)
      simp only [trF] at t0 t1 t2 t3 t4
      have k5 : Fr (fun _ => False) w4 (w4.alloc (.cells #[.slice (some ⟨b, 0, none⟩) ns.length ns.length, .int .i64 (y : Nat), .int .i64 (g : Nat), .int .i64 0, .int .i64 0, .slice none 0 0] 169)) := (Fr.refl _ _).alloc _
      have hbl4 : b < w4.heap.size := by omega
      have hRM : RM (w4.alloc (.cells #[.slice (some ⟨b, 0, none⟩) ns.length ns.length, .int .i64 (y : Nat), .int .i64 (g : Nat), .int .i64 0, .int .i64 0, .slice none 0 0] 169)) w4.heap.size b ns.length (y : Nat) (g : Nat) ns [] (fun _ => False) :=
        ⟨_, .slice none 0 0, Blk.rm w4 b ns.length (y : Nat) (g : Nat), ⟨rfl, rfl, rfl, rfl, rfl, rfl⟩, .inl ⟨rfl, rfl⟩, fun b n c e => (by cases e), hbf.at (hB4.frame k5 (fun h => h)) (Nat.le_refl _), hbl4⟩
      have hCh := childM_all hT.wf hT.rb hT.cb b ns.length (y : Nat) (g : Nat) y hyl _ _ _ _ hRM (by rw [List.length_nil, Nat.zero_add]; exact hlen.2)
      have hCh : Calls Tryz.prog 81 #[.pointer (some ⟨w4.heap.size, 0, none⟩), .int .i64 (y : Nat)] (w4.alloc (.cells #[.slice (some ⟨b, 0, none⟩) ns.length ns.length, .int .i64 (y : Nat), .int .i64 (g : Nat), .int .i64 0, .int .i64 0, .slice none 0 0] 169)) fun v w' => ∃ u : Nat, v = .returned (.int .i64 (u : Nat)) ∧ u + 1 = 0 + (coreL ns y).length ∧ RM w' w4.heap.size b ns.length (y : Nat) (g : Nat) ns (coreL ns y) (Up (fun _ => False) (w4.alloc (.cells #[.slice (some ⟨b, 0, none⟩) ns.length ns.length, .int .i64 (y : Nat), .int .i64 (g : Nat), .int .i64 0, .int .i64 0, .slice none 0 0] 169))) ∧ Fr (InR w4.heap.size (fun _ => False)) (w4.alloc (.cells #[.slice (some ⟨b, 0, none⟩) ns.length ns.length, .int .i64 (y : Nat), .int .i64 (g : Nat), .int .i64 0, .int .i64 0, .slice none 0 0] 169)) w' := hCh
      have HCh : Hid _ := hCh
      clear hCh hRM
      obtain ⟨cl, HC⟩ : ∃ cl, Hid (cl = coreL ns y) := ⟨_, rfl⟩
      rw [← HC.out] at HCh HO hlen
      go_wp2_with fail
      refine Calls.mono HCh.out ?_
      rintro v w5 ⟨u, rfl, hu, hM5, f5⟩
      have f5 := (k5.mono (S' := InR w4.heap.size (fun _ => False)) (fun _ _ h => h.elim)).trans f5 (fun _ _ h => h)
      have hInR : ∀ b, b < w4.heap.size → ¬ InR w4.heap.size (fun _ => False) b := fun b hb h => h.elim (fun e => by omega) (fun e => e)
      have hR5 := hR4.frame f5 (hInR _ (by have := hR4.lt; omega))
      have hT5 := hT4.frame f5 (hInR _ l4)
      have hm6 := hm5.frame f5 (hInR _ hm5.lt)
      have hsp6 := hsp5.frame f5 (hInR _ hsp5.lt)
      have F5 := F4.trans f5 (fun b hb h => absurd h (hInR b (by have := F4.size; omega)))
      obtain ⟨q, nv, hQ, hL, hN, _, _, _⟩ := hM5
      have c5 := hQ.cell (o := 5) (by omega)
      rw [hL.o5] at c5
      have lQ := hQ.lt
      obtain rfl : u = cl.length - 1 := by omega
      rcases hN with ⟨rfl, hnil⟩ | ⟨nb, cap, nf, rfl, hcap, hbn, hnf⟩
      · rw [hnil] at hlen; simp at hlen
      have lN := hbn.lt
      have hlenI : (cl.length : Int) ≤ 31 := by omega
      have hlenI1 : (1 : Int) ≤ cl.length := by omega
      have Hu : Hid _ := hu
      clear hu t0 t1 t2 t3 t4
      go_wp2_with (first | (refine wpList_makeB (by rfl) 106 _ _ (by rfl) 97 11 88 nd0V cl.length (by rfl) (by rfl) Tryz.underlying106 (by kernel_rfl) (by kernel_rfl) (by kernel_rfl) (by omega) (by omega) ?_; intro w6 f6 z6 b6; have hQ6 := hQ.frame f6 (fun h => h); have hbn6 := hbn.frame f6 (fun h => h); have hR6 := hR5.frame f6 (fun h => h); have hT6 := hT5.frame f6 (fun h => h); have hm7 := hm6.frame f6 (fun h => h); have hsp7 := hsp6.frame f6 (fun h => h); have F6 := F5.trans f6 (fun _ _ h => h.elim); have e5 := hQ6.cell (o := 5) (by omega); rw [hL.o5] at e5; have l6 := hQ6.lt) | (refine wpList_copyA (by rfl) _ _ 106 106 (by rfl) 97 11 w5.heap.size 0 cl.length cl.length nb 0 cl.length cap (cl.length * 11) (cap * 11) cl.length _ nf (by rfl) (by rfl) Tryz.underlying106 (by kernel_rfl) (by simp) b6 hbn6 (by omega) (by omega) (fun j hj => by rw [Nat.zero_add]; exact hnf.one j hj) ?_; intro w7 f7 b7; have hR7 := hR6.frame f7 (by omega); have hT7 := hT6.frame f7 (by omega); have hm8 := hm7.frame f7 (by omega); have hsp8 := hsp7.frame f7 (by omega); have F7 := F6.trans f7 (fun b hb h => by omega); have u2 := hT7.cell (o := 2) (by omega); simp only [trF] at u2; have l7 := hT7.lt; have lR := hR7.lt; have zR := hR7.frozen; have m0 := hR7.cell (o := 0) (by omega); have m1 := hR7.cell (o := 1) (by omega); have m2 := hR7.cell (o := 2) (by omega); have m3 := hR7.cell (o := 3) (by omega); have m4 := hR7.cell (o := 4) (by omega)))
      obtain ⟨r0, r1, r2, r3, r4⟩ := tail_cells0 hR7 (.slice (some ⟨w5.heap.size, 0, none⟩) cl.length cl.length) (.int .i64 ((cl.length - 1 : Nat) : Int)) (.int .i64 (g : Nat)) (.int .i64 0) (.int .i64 0)
      have FR := ((((((Fr.refl (fun b => b = w.heap.size) w7).setC w.heap.size 0 (.slice (some ⟨w5.heap.size, 0, none⟩) cl.length cl.length) (fun _ => rfl)).setC w.heap.size 1 (.int .i64 ((cl.length - 1 : Nat) : Int)) (fun _ => rfl)).setC w.heap.size 2 (.int .i64 (g : Nat)) (fun _ => rfl)).setC w.heap.size 3 (.int .i64 0) (fun _ => rfl)).setC w.heap.size 4 (.int .i64 0) (fun _ => rfl))
      exact bodyPost_ret (v := .agg #[.slice (some ⟨w5.heap.size, 0, none⟩) cl.length cl.length, .int .i64 ((cl.length - 1 : Nat) : Int), .int .i64 (g : Nat), .int .i64 0, .int .i64 0]) (by simp [results, Tryz.results66, go_sem, r0, r1, r2, r3, r4]) rfl ⟨.ok (ns, y, g), HM.out, (by rw [HO.out]; exact ⟨w5.heap.size, by omega, rfl, _, b7.frame FR (by omega), hnf.laid⟩), ⟨hm8.frame FR (by omega), hsp8.frame FR (by omega), hlt⟩, F7.trans FR (fun b hb h => by omega)⟩
end Go.Proofs.Qxb6500283aGreat
