/- The real checker: declare. -/
import Derived.Test.Qxb6500277aGreatCW7
namespace Go.Proofs.Qxb6500277aGreat
open Go Go.RowKit

theorem lAt_set (l : List (Nat × Nat)) (c : Nat) (v : Nat × Nat) (i : Nat) (hc : c < l.length) : lAt (l.set c v) i = if i = c then v else lAt l i := by
  unfold lAt
  by_cases e : i = c
  · subst e; simp [List.getD_eq_getElem?_getD, hc]
  · rw [if_neg e]; simp [List.getD_eq_getElem?_getD, List.getElem?_set_ne (fun h => e h.symm)]
section
variable {w w' : World} {A : Ca} {X : Cx} {cur : Nat} {s : Ck} {er po : Int}
theorem declBig_state {x : Nat} {nd : Nd} {w2 : World} {f f1 f2 : Nat → Value} (H : CM w A X cur s 0 0) (b2 : RF f A.p X cur s 0 0) (b3 : A.ns ≠ [] → f 415 = .slice (some ⟨A.nb, 0, none⟩) A.ns.length A.ns.length) (b4 : f 416 = .slice (some ⟨A.tb, 0, none⟩) A.ns.length A.ns.length) (b5 : f 417 = .slice (some ⟨A.rb, 0, none⟩) A.ns.length A.ns.length)
    (hm : mayD nd.name nd.val nd.pos s = .ok () s) (ht : 2 ≤ nd.val) (hv : 0 ≤ nd.val ∧ nd.val < 8) (h8 : nd.name.size ≤ 8) (hc : cur < X.fs.length)
    (e1 : f1 163 = .int .i64 ((s.nr + 1 : Nat) : Int)) (e2 : f1 (326 + cur * 7 + 5) = .int .i64 ((max (lAt s.lim cur).2 (s.nr + 1) : Nat) : Int)) (e3 : ∀ k, k ≠ 163 → k ≠ 326 + cur * 7 + 5 → f1 k = f k)
    (F2 : Fr (fun b => b = A.c) w w2) (B2 : Blk w2 A.c 420 f2) (T2 : Tab f2 1 (s.vs ++ [⟨nd.name, nd.val, s.nr, s.lvl⟩])) (e4 : ∀ k, k < 1 ∨ 1 + 161 ≤ k → f2 k = f1 k) :
    CM (w2.setCell ⟨A.rb, x, none⟩ (.int .i64 (s.nr : Nat))) A X cur (decl cur x nd.name nd.val s) 0 0 := by
  have hx8 := H.xok.le
  have hll : cur < s.lim.length := by rw [H.lim]; exact hc
  have g0 := Good.decl (cur := cur) (x := x) H.good hm hv (s2 := s) rfl rfl rfl rfl
  obtain ⟨_, _, m1, m2⟩ := mayD_eq hm
  have ed : decl cur x nd.name nd.val s = { s with vs := s.vs ++ [⟨nd.name, nd.val, s.nr, s.lvl⟩], nr := s.nr + 1, lim := s.lim.set cur ((lAt s.lim cur).1, max (lAt s.lim cur).2 (s.nr + 1)), rf := s.rf.set x s.nr } := by
    unfold decl; rw [if_pos ht]
  rw [ed] at g0 ⊢
  have far : ∀ k, 162 ≤ k → k ≠ 163 → k ≠ 326 + cur * 7 + 5 → f2 k = f k := fun k k1 k2 k3 => by rw [e4 k (by omega), e3 k k2 k3]
  have lims : ∀ i, lAt (s.lim.set cur ((lAt s.lim cur).1, max (lAt s.lim cur).2 (s.nr + 1))) i = if i = cur then ((lAt s.lim cur).1, max (lAt s.lim cur).2 (s.nr + 1)) else lAt s.lim i := fun i => lAt_set _ _ _ _ hll
  refine CM.setRf (CM.turn (s' := { s with vs := s.vs ++ [⟨nd.name, nd.val, s.nr, s.lvl⟩], nr := s.nr + 1, lim := s.lim.set cur ((lAt s.lim cur).1, max (lAt s.lim cur).2 (s.nr + 1)) }) H F2 B2 (b2.turn hx8 (fun i hi => (H.xok.p4 i hi).1) ?_ T2 ?_ ?_ ?_ ?_ ?_ ?_ (fun i hi => ?_) (fun k k1 k2 k3 => ?_)) (fun hn => ?_) ?_ ?_ rfl rfl (g0.same rfl rfl rfl (Nat.le_refl _)) (fun i hi => ?_) H.xok (by simpa using H.lim) H.lvl (fun i => ?_)) x s.nr
  · rw [e4 0 (by omega), e3 0 (by omega) (by omega)]
  · rw [far 162 (by omega) (by omega) (by omega)]; exact b2.ni
  · rw [e4 163 (by omega)]; exact e1
  · rw [far 164 (by omega) (by omega) (by omega)]; exact b2.lv
  · rw [far 414 (by omega) (by omega) (by omega)]; exact b2.cu
  · rw [far 418 (by omega) (by omega) (by omega)]; exact b2.er
  · rw [far 419 (by omega) (by omega) (by omega)]; exact b2.po
  · obtain ⟨_, _, _, _, c4, c5, _⟩ := b2.fn i hi
    simp only [lims]
    by_cases e : i = cur
    · subst e
      rw [if_pos rfl]
      exact ⟨by rw [far _ (by omega) (by omega) (by omega)]; exact c4, by rw [e4 _ (by omega)]; exact e2⟩
    · rw [if_neg e]
      exact ⟨by rw [far _ (by omega) (by omega) (by omega)]; exact c4, by rw [far _ (by omega) (by omega) (by omega)]; exact c5⟩
  · have := k3 cur (by omega)
    exact far k (by omega) (by omega) (by omega)
  · rw [far 415 (by omega) (by omega) (by omega)]; exact b3 hn
  · rw [far 416 (by omega) (by omega) (by omega)]; exact b4
  · rw [far 417 (by omega) (by omega) (by omega)]; exact b5
  · simp only [List.length_append, List.length_singleton] at hi
    by_cases e : i < s.vs.length
    · show (vAt (s.vs ++ [_]) i).name.size ≤ 8
      rw [vAt_app e]; exact H.nms i e
    · obtain rfl : i = s.vs.length := by omega
      show (vAt (s.vs ++ [_]) s.vs.length).name.size ≤ 8
      rw [vAt_last]; exact h8
  · simp only [lims]
    have := H.lm i
    have l2 := H.lm cur
    have m3 := m1 ht
    split
    · simp only; omega
    · exact this
theorem declSmall_state {x : Nat} {nd : Nd} {w2 : World} {f f1 f2 : Nat → Value} (H : CM w A X cur s 0 0) (b2 : RF f A.p X cur s 0 0) (b3 : A.ns ≠ [] → f 415 = .slice (some ⟨A.nb, 0, none⟩) A.ns.length A.ns.length) (b4 : f 416 = .slice (some ⟨A.tb, 0, none⟩) A.ns.length A.ns.length) (b5 : f 417 = .slice (some ⟨A.rb, 0, none⟩) A.ns.length A.ns.length)
    (hm : mayD nd.name nd.val nd.pos s = .ok () s) (ht : ¬ 2 ≤ nd.val) (hv : 0 ≤ nd.val ∧ nd.val < 8) (h8 : nd.name.size ≤ 8) (hc : cur < X.fs.length)
    (e1 : f1 162 = .int .i64 ((s.ni + 1 : Nat) : Int)) (e2 : f1 (326 + cur * 7 + 4) = .int .i64 ((max (lAt s.lim cur).1 (s.ni + 1) : Nat) : Int)) (e3 : ∀ k, k ≠ 162 → k ≠ 326 + cur * 7 + 4 → f1 k = f k)
    (F2 : Fr (fun b => b = A.c) w w2) (B2 : Blk w2 A.c 420 f2) (T2 : Tab f2 1 (s.vs ++ [⟨nd.name, nd.val, s.ni, s.lvl⟩])) (e4 : ∀ k, k < 1 ∨ 1 + 161 ≤ k → f2 k = f1 k) :
    CM (w2.setCell ⟨A.rb, x, none⟩ (.int .i64 (s.ni : Nat))) A X cur (decl cur x nd.name nd.val s) 0 0 := by
  have hx8 := H.xok.le
  have hll : cur < s.lim.length := by rw [H.lim]; exact hc
  have g0 := Good.decl (cur := cur) (x := x) H.good hm hv (s2 := s) rfl rfl rfl rfl
  obtain ⟨_, _, m1, m2⟩ := mayD_eq hm
  have ed : decl cur x nd.name nd.val s = { s with vs := s.vs ++ [⟨nd.name, nd.val, s.ni, s.lvl⟩], ni := s.ni + 1, lim := s.lim.set cur (max (lAt s.lim cur).1 (s.ni + 1), (lAt s.lim cur).2), rf := s.rf.set x s.ni } := by
    unfold decl; rw [if_neg ht]
  rw [ed] at g0 ⊢
  have far : ∀ k, 162 ≤ k → k ≠ 162 → k ≠ 326 + cur * 7 + 4 → f2 k = f k := fun k k1 k2 k3 => by rw [e4 k (by omega), e3 k k2 k3]
  have lims : ∀ i, lAt (s.lim.set cur (max (lAt s.lim cur).1 (s.ni + 1), (lAt s.lim cur).2)) i = if i = cur then (max (lAt s.lim cur).1 (s.ni + 1), (lAt s.lim cur).2) else lAt s.lim i := fun i => lAt_set _ _ _ _ hll
  refine CM.setRf (CM.turn (s' := { s with vs := s.vs ++ [⟨nd.name, nd.val, s.ni, s.lvl⟩], ni := s.ni + 1, lim := s.lim.set cur (max (lAt s.lim cur).1 (s.ni + 1), (lAt s.lim cur).2) }) H F2 B2 (b2.turn hx8 (fun i hi => (H.xok.p4 i hi).1) ?_ T2 ?_ ?_ ?_ ?_ ?_ ?_ (fun i hi => ?_) (fun k k1 k2 k3 => ?_)) (fun hn => ?_) ?_ ?_ rfl rfl (g0.same rfl rfl rfl (Nat.le_refl _)) (fun i hi => ?_) H.xok (by simpa using H.lim) H.lvl (fun i => ?_)) x s.ni
  · rw [e4 0 (by omega), e3 0 (by omega) (by omega)]
  · rw [e4 162 (by omega)]; exact e1
  · rw [far 163 (by omega) (by omega) (by omega)]; exact b2.nr
  · rw [far 164 (by omega) (by omega) (by omega)]; exact b2.lv
  · rw [far 414 (by omega) (by omega) (by omega)]; exact b2.cu
  · rw [far 418 (by omega) (by omega) (by omega)]; exact b2.er
  · rw [far 419 (by omega) (by omega) (by omega)]; exact b2.po
  · obtain ⟨_, _, _, _, c4, c5, _⟩ := b2.fn i hi
    simp only [lims]
    by_cases e : i = cur
    · subst e
      rw [if_pos rfl]
      exact ⟨by rw [e4 _ (by omega)]; exact e2, by rw [far _ (by omega) (by omega) (by omega)]; exact c5⟩
    · rw [if_neg e]
      exact ⟨by rw [far _ (by omega) (by omega) (by omega)]; exact c4, by rw [far _ (by omega) (by omega) (by omega)]; exact c5⟩
  · have := k3 cur (by omega)
    exact far k (by omega) (by omega) (by omega)
  · rw [far 415 (by omega) (by omega) (by omega)]; exact b3 hn
  · rw [far 416 (by omega) (by omega) (by omega)]; exact b4
  · rw [far 417 (by omega) (by omega) (by omega)]; exact b5
  · simp only [List.length_append, List.length_singleton] at hi
    by_cases e : i < s.vs.length
    · show (vAt (s.vs ++ [_]) i).name.size ≤ 8
      rw [vAt_app e]; exact H.nms i e
    · obtain rfl : i = s.vs.length := by omega
      show (vAt (s.vs ++ [_]) s.vs.length).name.size ≤ 8
      rw [vAt_last]; exact h8
  · simp only [lims]
    have := H.lm i
    have l2 := H.lm cur
    have m3 := m2 ht
    split
    · simp only; omega
    · exact this
set_option maxRecDepth 100000 in
set_option maxHeartbeats 4000000 in
theorem declBig (H : CM w A X cur s 0 0) {x : Nat} {nd : Nd} (hx : A.ns[x]? = some nd) (hm : mayD nd.name nd.val nd.pos s = .ok () s) (ht : 2 ≤ nd.val) (hv : 0 ≤ nd.val ∧ nd.val < 8) (hc : cur < X.fs.length) : Calls Tryz.prog 89 #[.pointer (some ⟨A.c, 0, none⟩), .int .i64 x] w fun e w' => e = .returned (.tuple #[]) ∧ CM w' A X cur (decl cur x nd.name nd.val s) 0 0 ∧ Fr (CS A) w w' := by
  obtain ⟨hk, hnb, r415, n0, n1, n2, n3, n4, n5, n6, n7, n8⟩ := H.node hx
  obtain ⟨r0, r161, r162, r163, r164, r325, r414, r416, r417, r418, r419, hz⟩ := H.regs
  obtain ⟨f0', f1', f2', f3', f4', f5', f6'⟩ := H.func hc
  obtain ⟨hlt, hlt2, hlt3⟩ := H.blt
  obtain ⟨d1, d2, d3, d4, d5, d6⟩ := H.dis
  obtain ⟨f, b1, b2, b3, b4, b5⟩ := H.blk
  have hle := H.le
  have hx8 := H.xok.le
  have hxl : (x : Int) < A.ns.length := by omega
  have hci : (cur : Int) < 8 := by omega
  have hcn : cur < 8 := by omega
  have z2 : decide (nd.val ≥ 2) = true := decide_eq_true ht
  have hlen := H.good.len
  obtain ⟨_, _, m1, m2⟩ := mayD_eq hm
  have hn12 : s.nr < 12 := m1 ht
  have hlm := H.lm cur
  have hvl : s.vs.length < 24 := by have := H.good.ni12; have := H.good.nr12; omega
  have B1 := b1.set 163 (.int .i64 ((s.nr : Int) + 1))
  have F1 := (Fr.refl (fun b => b = A.c) w).setC A.c 163 (.int .i64 ((s.nr : Int) + 1)) (fun _ => rfl)
  have hn12i : (s.nr : Int) < 12 := by omega
  have HS0 := And.intro H (And.intro b2 (And.intro b3 (And.intro b4 (And.intro b5 (And.intro hm (And.intro ht hv))))))
  have HS : Hid _ := HS0
  clear HS0
  have fz := b1.frozen
  have hcl := b1.cell (o := 326 + cur * 7 + 5) (by omega)
  have hnbA : A.nb ≠ A.c := fun e => d1 e.symm
  have hrbA : A.rb ≠ A.c := fun e => d3 e.symm
  have rz := H.rfb.frozen
  have rx := H.rfb.cell (o := x) hk
  have H1 : Hid (_ ∧ _) := ⟨B1, F1⟩
  clear B1 F1 b1 H hm hv m1 m2
  by_cases hg : (lAt s.lim cur).2 < s.nr + 1
  · have z3 : decide ((s.nr : Int) + 1 > ((lAt s.lim cur).2 : Nat)) = true := decide_eq_true (by omega)
    have z4 : decide (((lAt s.lim cur).2 : Int) < (s.nr : Int) + 1) = true := decide_eq_true (by omega)
    have em : max (lAt s.lim cur).2 (s.nr + 1) = s.nr + 1 := by omega
    have Hem : Hid _ := em
    clear em hg
    go_enter Tryz.func89, Tryz.ntmps89
    go_wp2_with fail
    generalize hw1 : w.setCell _ _ = w1
    have B1 : Blk w1 A.c 420 (upd f 163 (.int .i64 ((s.nr : Int) + 1))) := by rw [← hw1]; exact H1.out.1
    have F1 : Fr (fun b => b = A.c) w w1 := by rw [← hw1]; exact H1.out.2
    clear hw1 H1 r0 r161 r162 r163 r164 r325 r414 r416 r417 r418 r419 hz r415 n0 n1 n2 n3 n4 n6 f0' f1' f2' f3' f4' f5' f6' hcl fz
    have g1 := B1.cell (o := 163) (by omega)
    rw [upd_same] at g1
    have g2 := B1.cell (o := 414) (by omega)
    rw [upd_other _ _ _ _ (by omega), b2.cu] at g2
    have g3 := B1.cell (o := 326 + cur * 7 + 5) (by omega)
    rw [upd_other _ _ _ _ (by omega), (b2.fn cur hc).2.2.2.2.2.1] at g3
    have z1 := B1.frozen
    have y1 := B1.lt
    go_quiet (fail)
    go_wp2_with fail
    refine wp_region_text (by kernel_rfl) (by kernel_rfl) ?_
    go_wp2_with fail
    refine ⟨by kernel_rfl, ?_⟩
    go_wp2_with fail
    generalize hw2 : (w1.drewN _).setCell _ _ = w2
    obtain ⟨f1, B2, e1, e2, e3⟩ : ∃ f1, Blk w2 A.c 420 f1 ∧ f1 163 = .int .i64 ((s.nr + 1 : Nat) : Int) ∧ f1 (326 + cur * 7 + 5) = .int .i64 ((max (lAt s.lim cur).2 (s.nr + 1) : Nat) : Int) ∧ ∀ k, k ≠ 163 → k ≠ 326 + cur * 7 + 5 → f1 k = f k := by
      refine ⟨_, hw2 ▸ ((B1.drewN _).set (326 + cur * 7 + 5) (.int .i64 ((s.nr : Int) + 1))), ?_, ?_, fun k k1 k2 => ?_⟩
      · rw [upd_other _ _ _ _ (by omega), upd_same]; simp
      · rw [upd_same, Hem.out]; simp
      · rw [upd_other _ _ _ _ (by omega), upd_other _ _ _ _ (by omega)]
    have F2 : Fr (fun b => b = A.c) w w2 := hw2 ▸ ((F1.drewN _).setC A.c (326 + cur * 7 + 5) (.int .i64 ((s.nr : Int) + 1)) (fun _ => rfl))
    clear hw2 g1 g2 g3 z1 y1 B1 F1 z3 z4
    obtain ⟨K, k2, k3, k4, k5, km, kt, kv⟩ := HS.out
    have hn : A.ns ≠ [] := fun e => by rw [e] at hk; cases hk
    have c415 := B2.cell (o := 415) (by omega)
    rw [e3 _ (by omega) (by omega), k3 hn] at c415
    have c164 := B2.cell (o := 164) (by omega)
    rw [e3 _ (by omega) (by omega), k2.lv] at c164
    have m5 : w2.cell? ⟨A.nb, x * 8 + 5, none⟩ = some (.int .i64 nd.val) := by rw [F2.cell (p := ⟨A.nb, x * 8 + 5, none⟩) hnb (fun e => d1 e.symm)]; exact n5
    have m7 : w2.cell? ⟨A.nb, x * 8 + 7, none⟩ = some (.string nd.name) := by rw [F2.cell (p := ⟨A.nb, x * 8 + 7, none⟩) hnb (fun e => d1 e.symm)]; exact n7
    have T2 : Tab f1 1 s.vs := k2.tv.congr fun k q1 q2 => e3 k (by omega) (by omega)
    have P := pushT (B2.drew) T2 (by omega) hvl ⟨nd.name, nd.val, s.nr, s.lvl⟩ (by show nd.name.size ≤ 4096; omega) s.nr s.lvl rfl rfl
    have y2 := B2.lt
    have y3 : A.nb < w2.heap.size := Nat.lt_of_lt_of_le hnb F2.size
    have HF2 : Hid _ := F2
    have HE := And.intro e1 (And.intro e2 e3)
    have HE2 : Hid _ := HE
    have hrz : A.rb < w.heap.size := hlt3
    clear B2 T2 HE e1 e2 e3 F2 K k2 k3 k4 k5 km kt kv n5 n7 hlt hnb
    refine wp_region_text (by kernel_rfl) (by kernel_rfl) ?_
    go_wp2_with fail
    refine P.mono ?_
    rintro e w3 ⟨rfl, ⟨f2, B3, T3, e4⟩, F3⟩
    clear P
    obtain ⟨K, k2, k3, k4, k5, km, kt, kv⟩ := HS.out
    obtain ⟨e1, e2, e3⟩ := HE2.out
    have F3' : Fr (fun b => b = A.c) w w3 := (HF2.out.drew).trans F3 (fun _ _ h => h)
    have c417 := B3.cell (o := 417) (by omega)
    rw [e4 _ (by omega), e3 _ (by omega) (by omega), k5] at c417
    have x3 : w3.cell? ⟨A.rb, x, none⟩ = some (iL s.rf x) := by rw [F3'.cell (p := ⟨A.rb, x, none⟩) hlt3 (fun e => d3 e.symm)]; exact rx
    have xz : ∀ o, w3.frozen? ⟨A.rb, o, none⟩ = false := fun o => by rw [F3'.frozen (p := ⟨A.rb, o, none⟩) hlt3 (fun e => d3 e.symm)]; exact rz o
    have y4 := B3.lt
    have y5 : A.rb < w3.heap.size := Nat.lt_of_lt_of_le hlt3 F3'.size
    have R := declBig_state (x := x) K k2 k3 k4 k5 km (by omega) kv n8 hc e1 e2 e3 F3' B3 T3 e4
    have FR : Fr (CS A) w (w3.setCell ⟨A.rb, x, none⟩ (.int .i64 (s.nr : Nat))) := (F3'.mono (fun _ _ h => .inl h)).setC A.rb x _ (fun _ => .inr (.inr rfl))
    have HR : Hid (_ ∧ _) := ⟨R, FR⟩
    clear R FR B3 T3 e4 F3 F3' e1 e2 e3 K k2 k3 k4 k5 km kt kv
    go_wp2_with fail
    refine ⟨by kernel_rfl, ?_⟩
    go_wp2_with fail
    go_end0
    exact ⟨rfl, HR.out⟩
  · have z3 : decide ((s.nr : Int) + 1 > ((lAt s.lim cur).2 : Nat)) = false := decide_eq_false (by omega)
    have z4 : decide (((lAt s.lim cur).2 : Int) < (s.nr : Int) + 1) = false := decide_eq_false (by omega)
    have em : max (lAt s.lim cur).2 (s.nr + 1) = (lAt s.lim cur).2 := by omega
    have Hem : Hid _ := em
    clear em hg
    go_enter Tryz.func89, Tryz.ntmps89
    go_wp2_with fail
    generalize hw1 : w.setCell _ _ = w1
    have B1 : Blk w1 A.c 420 (upd f 163 (.int .i64 ((s.nr : Int) + 1))) := by rw [← hw1]; exact H1.out.1
    have F1 : Fr (fun b => b = A.c) w w1 := by rw [← hw1]; exact H1.out.2
    clear hw1 H1 r0 r161 r162 r163 r164 r325 r414 r416 r417 r418 r419 hz r415 n0 n1 n2 n3 n4 n6 f0' f1' f2' f3' f4' f5' f6' hcl fz
    have g1 := B1.cell (o := 163) (by omega)
    rw [upd_same] at g1
    have g2 := B1.cell (o := 414) (by omega)
    rw [upd_other _ _ _ _ (by omega), b2.cu] at g2
    have g3 := B1.cell (o := 326 + cur * 7 + 5) (by omega)
    rw [upd_other _ _ _ _ (by omega), (b2.fn cur hc).2.2.2.2.2.1] at g3
    have z1 := B1.frozen
    have y1 := B1.lt
    go_quiet (fail)
    go_wp2_with fail
    generalize hw2 : w1.drewN _ = w2
    obtain ⟨f1, B2, e1, e2, e3⟩ : ∃ f1, Blk w2 A.c 420 f1 ∧ f1 163 = .int .i64 ((s.nr + 1 : Nat) : Int) ∧ f1 (326 + cur * 7 + 5) = .int .i64 ((max (lAt s.lim cur).2 (s.nr + 1) : Nat) : Int) ∧ ∀ k, k ≠ 163 → k ≠ 326 + cur * 7 + 5 → f1 k = f k := by
      refine ⟨_, hw2 ▸ (B1.drewN _), ?_, ?_, fun k k1 k2 => ?_⟩
      · rw [upd_same]; simp
      · rw [upd_other _ _ _ _ (by omega), Hem.out]; exact (b2.fn cur hc).2.2.2.2.2.1
      · rw [upd_other _ _ _ _ (by omega)]
    have F2 : Fr (fun b => b = A.c) w w2 := hw2 ▸ (F1.drewN _)
    clear hw2 g1 g2 g3 z1 y1 B1 F1 z3 z4
    obtain ⟨K, k2, k3, k4, k5, km, kt, kv⟩ := HS.out
    have hn : A.ns ≠ [] := fun e => by rw [e] at hk; cases hk
    have c415 := B2.cell (o := 415) (by omega)
    rw [e3 _ (by omega) (by omega), k3 hn] at c415
    have c164 := B2.cell (o := 164) (by omega)
    rw [e3 _ (by omega) (by omega), k2.lv] at c164
    have m5 : w2.cell? ⟨A.nb, x * 8 + 5, none⟩ = some (.int .i64 nd.val) := by rw [F2.cell (p := ⟨A.nb, x * 8 + 5, none⟩) hnb (fun e => d1 e.symm)]; exact n5
    have m7 : w2.cell? ⟨A.nb, x * 8 + 7, none⟩ = some (.string nd.name) := by rw [F2.cell (p := ⟨A.nb, x * 8 + 7, none⟩) hnb (fun e => d1 e.symm)]; exact n7
    have T2 : Tab f1 1 s.vs := k2.tv.congr fun k q1 q2 => e3 k (by omega) (by omega)
    have P := pushT (B2.drew) T2 (by omega) hvl ⟨nd.name, nd.val, s.nr, s.lvl⟩ (by show nd.name.size ≤ 4096; omega) s.nr s.lvl rfl rfl
    have y2 := B2.lt
    have y3 : A.nb < w2.heap.size := Nat.lt_of_lt_of_le hnb F2.size
    have HF2 : Hid _ := F2
    have HE := And.intro e1 (And.intro e2 e3)
    have HE2 : Hid _ := HE
    have hrz : A.rb < w.heap.size := hlt3
    clear B2 T2 HE e1 e2 e3 F2 K k2 k3 k4 k5 km kt kv n5 n7 hlt hnb
    refine wp_region_text (by kernel_rfl) (by kernel_rfl) ?_
    go_wp2_with fail
    refine P.mono ?_
    rintro e w3 ⟨rfl, ⟨f2, B3, T3, e4⟩, F3⟩
    clear P
    obtain ⟨K, k2, k3, k4, k5, km, kt, kv⟩ := HS.out
    obtain ⟨e1, e2, e3⟩ := HE2.out
    have F3' : Fr (fun b => b = A.c) w w3 := (HF2.out.drew).trans F3 (fun _ _ h => h)
    have c417 := B3.cell (o := 417) (by omega)
    rw [e4 _ (by omega), e3 _ (by omega) (by omega), k5] at c417
    have x3 : w3.cell? ⟨A.rb, x, none⟩ = some (iL s.rf x) := by rw [F3'.cell (p := ⟨A.rb, x, none⟩) hlt3 (fun e => d3 e.symm)]; exact rx
    have xz : ∀ o, w3.frozen? ⟨A.rb, o, none⟩ = false := fun o => by rw [F3'.frozen (p := ⟨A.rb, o, none⟩) hlt3 (fun e => d3 e.symm)]; exact rz o
    have y4 := B3.lt
    have y5 : A.rb < w3.heap.size := Nat.lt_of_lt_of_le hlt3 F3'.size
    have R := declBig_state (x := x) K k2 k3 k4 k5 km (by omega) kv n8 hc e1 e2 e3 F3' B3 T3 e4
    have FR : Fr (CS A) w (w3.setCell ⟨A.rb, x, none⟩ (.int .i64 (s.nr : Nat))) := (F3'.mono (fun _ _ h => .inl h)).setC A.rb x _ (fun _ => .inr (.inr rfl))
    have HR : Hid (_ ∧ _) := ⟨R, FR⟩
    clear R FR B3 T3 e4 F3 F3' e1 e2 e3 K k2 k3 k4 k5 km kt kv
    go_wp2_with fail
    refine ⟨by kernel_rfl, ?_⟩
    go_wp2_with fail
    go_end0
    exact ⟨rfl, HR.out⟩
set_option maxRecDepth 100000 in
set_option maxHeartbeats 4000000 in
theorem declSmall (H : CM w A X cur s 0 0) {x : Nat} {nd : Nd} (hx : A.ns[x]? = some nd) (hm : mayD nd.name nd.val nd.pos s = .ok () s) (ht : ¬ 2 ≤ nd.val) (hv : 0 ≤ nd.val ∧ nd.val < 8) (hc : cur < X.fs.length) : Calls Tryz.prog 89 #[.pointer (some ⟨A.c, 0, none⟩), .int .i64 x] w fun e w' => e = .returned (.tuple #[]) ∧ CM w' A X cur (decl cur x nd.name nd.val s) 0 0 ∧ Fr (CS A) w w' := by
  obtain ⟨hk, hnb, r415, n0, n1, n2, n3, n4, n5, n6, n7, n8⟩ := H.node hx
  obtain ⟨r0, r161, r162, r163, r164, r325, r414, r416, r417, r418, r419, hz⟩ := H.regs
  obtain ⟨f0', f1', f2', f3', f4', f5', f6'⟩ := H.func hc
  obtain ⟨hlt, hlt2, hlt3⟩ := H.blt
  obtain ⟨d1, d2, d3, d4, d5, d6⟩ := H.dis
  obtain ⟨f, b1, b2, b3, b4, b5⟩ := H.blk
  have hle := H.le
  have hx8 := H.xok.le
  have hxl : (x : Int) < A.ns.length := by omega
  have hci : (cur : Int) < 8 := by omega
  have hcn : cur < 8 := by omega
  have z2 : decide (nd.val ≥ 2) = false := decide_eq_false ht
  have hlen := H.good.len
  obtain ⟨_, _, m1, m2⟩ := mayD_eq hm
  have hn12 : s.ni < 12 := m2 ht
  have hlm := H.lm cur
  have hvl : s.vs.length < 24 := by have := H.good.ni12; have := H.good.nr12; omega
  have B1 := b1.set 162 (.int .i64 ((s.ni : Int) + 1))
  have F1 := (Fr.refl (fun b => b = A.c) w).setC A.c 162 (.int .i64 ((s.ni : Int) + 1)) (fun _ => rfl)
  have hn12i : (s.ni : Int) < 12 := by omega
  have HS0 := And.intro H (And.intro b2 (And.intro b3 (And.intro b4 (And.intro b5 (And.intro hm (And.intro ht hv))))))
  have HS : Hid _ := HS0
  clear HS0
  have fz := b1.frozen
  have hcl := b1.cell (o := 326 + cur * 7 + 4) (by omega)
  have hnbA : A.nb ≠ A.c := fun e => d1 e.symm
  have hrbA : A.rb ≠ A.c := fun e => d3 e.symm
  have rz := H.rfb.frozen
  have rx := H.rfb.cell (o := x) hk
  have H1 : Hid (_ ∧ _) := ⟨B1, F1⟩
  clear B1 F1 b1 H hm hv m1 m2
  by_cases hg : (lAt s.lim cur).1 < s.ni + 1
  · have z3 : decide ((s.ni : Int) + 1 > ((lAt s.lim cur).1 : Nat)) = true := decide_eq_true (by omega)
    have z4 : decide (((lAt s.lim cur).1 : Int) < (s.ni : Int) + 1) = true := decide_eq_true (by omega)
    have em : max (lAt s.lim cur).1 (s.ni + 1) = s.ni + 1 := by omega
    have Hem : Hid _ := em
    clear em hg
    go_enter Tryz.func89, Tryz.ntmps89
    go_wp2_with fail
    generalize hw1 : w.setCell _ _ = w1
    have B1 : Blk w1 A.c 420 (upd f 162 (.int .i64 ((s.ni : Int) + 1))) := by rw [← hw1]; exact H1.out.1
    have F1 : Fr (fun b => b = A.c) w w1 := by rw [← hw1]; exact H1.out.2
    clear hw1 H1 r0 r161 r162 r163 r164 r325 r414 r416 r417 r418 r419 hz r415 n0 n1 n2 n3 n4 n6 f0' f1' f2' f3' f4' f5' f6' hcl fz
    have g1 := B1.cell (o := 162) (by omega)
    rw [upd_same] at g1
    have g2 := B1.cell (o := 414) (by omega)
    rw [upd_other _ _ _ _ (by omega), b2.cu] at g2
    have g3 := B1.cell (o := 326 + cur * 7 + 4) (by omega)
    rw [upd_other _ _ _ _ (by omega), (b2.fn cur hc).2.2.2.2.1] at g3
    have z1 := B1.frozen
    have y1 := B1.lt
    go_quiet (fail)
    go_wp2_with fail
    refine wp_region_text (by kernel_rfl) (by kernel_rfl) ?_
    go_wp2_with fail
    refine ⟨by kernel_rfl, ?_⟩
    go_wp2_with fail
    generalize hw2 : (w1.drewN _).setCell _ _ = w2
    obtain ⟨f1, B2, e1, e2, e3⟩ : ∃ f1, Blk w2 A.c 420 f1 ∧ f1 162 = .int .i64 ((s.ni + 1 : Nat) : Int) ∧ f1 (326 + cur * 7 + 4) = .int .i64 ((max (lAt s.lim cur).1 (s.ni + 1) : Nat) : Int) ∧ ∀ k, k ≠ 162 → k ≠ 326 + cur * 7 + 4 → f1 k = f k := by
      refine ⟨_, hw2 ▸ ((B1.drewN _).set (326 + cur * 7 + 4) (.int .i64 ((s.ni : Int) + 1))), ?_, ?_, fun k k1 k2 => ?_⟩
      · rw [upd_other _ _ _ _ (by omega), upd_same]; simp
      · rw [upd_same, Hem.out]; simp
      · rw [upd_other _ _ _ _ (by omega), upd_other _ _ _ _ (by omega)]
    have F2 : Fr (fun b => b = A.c) w w2 := hw2 ▸ ((F1.drewN _).setC A.c (326 + cur * 7 + 4) (.int .i64 ((s.ni : Int) + 1)) (fun _ => rfl))
    clear hw2 g1 g2 g3 z1 y1 B1 F1 z3 z4
    obtain ⟨K, k2, k3, k4, k5, km, kt, kv⟩ := HS.out
    have hn : A.ns ≠ [] := fun e => by rw [e] at hk; cases hk
    have c415 := B2.cell (o := 415) (by omega)
    rw [e3 _ (by omega) (by omega), k3 hn] at c415
    have c164 := B2.cell (o := 164) (by omega)
    rw [e3 _ (by omega) (by omega), k2.lv] at c164
    have m5 : w2.cell? ⟨A.nb, x * 8 + 5, none⟩ = some (.int .i64 nd.val) := by rw [F2.cell (p := ⟨A.nb, x * 8 + 5, none⟩) hnb (fun e => d1 e.symm)]; exact n5
    have m7 : w2.cell? ⟨A.nb, x * 8 + 7, none⟩ = some (.string nd.name) := by rw [F2.cell (p := ⟨A.nb, x * 8 + 7, none⟩) hnb (fun e => d1 e.symm)]; exact n7
    have T2 : Tab f1 1 s.vs := k2.tv.congr fun k q1 q2 => e3 k (by omega) (by omega)
    have P := pushT (B2.drew) T2 (by omega) hvl ⟨nd.name, nd.val, s.ni, s.lvl⟩ (by show nd.name.size ≤ 4096; omega) s.ni s.lvl rfl rfl
    have y2 := B2.lt
    have y3 : A.nb < w2.heap.size := Nat.lt_of_lt_of_le hnb F2.size
    have HF2 : Hid _ := F2
    have HE := And.intro e1 (And.intro e2 e3)
    have HE2 : Hid _ := HE
    have hrz : A.rb < w.heap.size := hlt3
    clear B2 T2 HE e1 e2 e3 F2 K k2 k3 k4 k5 km kt kv n5 n7 hlt hnb
    refine wp_region_text (by kernel_rfl) (by kernel_rfl) ?_
    go_wp2_with fail
    refine P.mono ?_
    rintro e w3 ⟨rfl, ⟨f2, B3, T3, e4⟩, F3⟩
    clear P
    obtain ⟨K, k2, k3, k4, k5, km, kt, kv⟩ := HS.out
    obtain ⟨e1, e2, e3⟩ := HE2.out
    have F3' : Fr (fun b => b = A.c) w w3 := (HF2.out.drew).trans F3 (fun _ _ h => h)
    have c417 := B3.cell (o := 417) (by omega)
    rw [e4 _ (by omega), e3 _ (by omega) (by omega), k5] at c417
    have x3 : w3.cell? ⟨A.rb, x, none⟩ = some (iL s.rf x) := by rw [F3'.cell (p := ⟨A.rb, x, none⟩) hlt3 (fun e => d3 e.symm)]; exact rx
    have xz : ∀ o, w3.frozen? ⟨A.rb, o, none⟩ = false := fun o => by rw [F3'.frozen (p := ⟨A.rb, o, none⟩) hlt3 (fun e => d3 e.symm)]; exact rz o
    have y4 := B3.lt
    have y5 : A.rb < w3.heap.size := Nat.lt_of_lt_of_le hlt3 F3'.size
    have R := declSmall_state (x := x) K k2 k3 k4 k5 km (by omega) kv n8 hc e1 e2 e3 F3' B3 T3 e4
    have FR : Fr (CS A) w (w3.setCell ⟨A.rb, x, none⟩ (.int .i64 (s.ni : Nat))) := (F3'.mono (fun _ _ h => .inl h)).setC A.rb x _ (fun _ => .inr (.inr rfl))
    have HR : Hid (_ ∧ _) := ⟨R, FR⟩
    clear R FR B3 T3 e4 F3 F3' e1 e2 e3 K k2 k3 k4 k5 km kt kv
    go_wp2_with fail
    refine ⟨by kernel_rfl, ?_⟩
    go_wp2_with fail
    go_end0
    exact ⟨rfl, HR.out⟩
  · have z3 : decide ((s.ni : Int) + 1 > ((lAt s.lim cur).1 : Nat)) = false := decide_eq_false (by omega)
    have z4 : decide (((lAt s.lim cur).1 : Int) < (s.ni : Int) + 1) = false := decide_eq_false (by omega)
    have em : max (lAt s.lim cur).1 (s.ni + 1) = (lAt s.lim cur).1 := by omega
    have Hem : Hid _ := em
    clear em hg
    go_enter Tryz.func89, Tryz.ntmps89
    go_wp2_with fail
    generalize hw1 : w.setCell _ _ = w1
    have B1 : Blk w1 A.c 420 (upd f 162 (.int .i64 ((s.ni : Int) + 1))) := by rw [← hw1]; exact H1.out.1
    have F1 : Fr (fun b => b = A.c) w w1 := by rw [← hw1]; exact H1.out.2
    clear hw1 H1 r0 r161 r162 r163 r164 r325 r414 r416 r417 r418 r419 hz r415 n0 n1 n2 n3 n4 n6 f0' f1' f2' f3' f4' f5' f6' hcl fz
    have g1 := B1.cell (o := 162) (by omega)
    rw [upd_same] at g1
    have g2 := B1.cell (o := 414) (by omega)
    rw [upd_other _ _ _ _ (by omega), b2.cu] at g2
    have g3 := B1.cell (o := 326 + cur * 7 + 4) (by omega)
    rw [upd_other _ _ _ _ (by omega), (b2.fn cur hc).2.2.2.2.1] at g3
    have z1 := B1.frozen
    have y1 := B1.lt
    go_quiet (fail)
    go_wp2_with fail
    generalize hw2 : w1.drewN _ = w2
    obtain ⟨f1, B2, e1, e2, e3⟩ : ∃ f1, Blk w2 A.c 420 f1 ∧ f1 162 = .int .i64 ((s.ni + 1 : Nat) : Int) ∧ f1 (326 + cur * 7 + 4) = .int .i64 ((max (lAt s.lim cur).1 (s.ni + 1) : Nat) : Int) ∧ ∀ k, k ≠ 162 → k ≠ 326 + cur * 7 + 4 → f1 k = f k := by
      refine ⟨_, hw2 ▸ (B1.drewN _), ?_, ?_, fun k k1 k2 => ?_⟩
      · rw [upd_same]; simp
      · rw [upd_other _ _ _ _ (by omega), Hem.out]; exact (b2.fn cur hc).2.2.2.2.1
      · rw [upd_other _ _ _ _ (by omega)]
    have F2 : Fr (fun b => b = A.c) w w2 := hw2 ▸ (F1.drewN _)
    clear hw2 g1 g2 g3 z1 y1 B1 F1 z3 z4
    obtain ⟨K, k2, k3, k4, k5, km, kt, kv⟩ := HS.out
    have hn : A.ns ≠ [] := fun e => by rw [e] at hk; cases hk
    have c415 := B2.cell (o := 415) (by omega)
    rw [e3 _ (by omega) (by omega), k3 hn] at c415
    have c164 := B2.cell (o := 164) (by omega)
    rw [e3 _ (by omega) (by omega), k2.lv] at c164
    have m5 : w2.cell? ⟨A.nb, x * 8 + 5, none⟩ = some (.int .i64 nd.val) := by rw [F2.cell (p := ⟨A.nb, x * 8 + 5, none⟩) hnb (fun e => d1 e.symm)]; exact n5
    have m7 : w2.cell? ⟨A.nb, x * 8 + 7, none⟩ = some (.string nd.name) := by rw [F2.cell (p := ⟨A.nb, x * 8 + 7, none⟩) hnb (fun e => d1 e.symm)]; exact n7
    have T2 : Tab f1 1 s.vs := k2.tv.congr fun k q1 q2 => e3 k (by omega) (by omega)
    have P := pushT (B2.drew) T2 (by omega) hvl ⟨nd.name, nd.val, s.ni, s.lvl⟩ (by show nd.name.size ≤ 4096; omega) s.ni s.lvl rfl rfl
    have y2 := B2.lt
    have y3 : A.nb < w2.heap.size := Nat.lt_of_lt_of_le hnb F2.size
    have HF2 : Hid _ := F2
    have HE := And.intro e1 (And.intro e2 e3)
    have HE2 : Hid _ := HE
    have hrz : A.rb < w.heap.size := hlt3
    clear B2 T2 HE e1 e2 e3 F2 K k2 k3 k4 k5 km kt kv n5 n7 hlt hnb
    refine wp_region_text (by kernel_rfl) (by kernel_rfl) ?_
    go_wp2_with fail
    refine P.mono ?_
    rintro e w3 ⟨rfl, ⟨f2, B3, T3, e4⟩, F3⟩
    clear P
    obtain ⟨K, k2, k3, k4, k5, km, kt, kv⟩ := HS.out
    obtain ⟨e1, e2, e3⟩ := HE2.out
    have F3' : Fr (fun b => b = A.c) w w3 := (HF2.out.drew).trans F3 (fun _ _ h => h)
    have c417 := B3.cell (o := 417) (by omega)
    rw [e4 _ (by omega), e3 _ (by omega) (by omega), k5] at c417
    have x3 : w3.cell? ⟨A.rb, x, none⟩ = some (iL s.rf x) := by rw [F3'.cell (p := ⟨A.rb, x, none⟩) hlt3 (fun e => d3 e.symm)]; exact rx
    have xz : ∀ o, w3.frozen? ⟨A.rb, o, none⟩ = false := fun o => by rw [F3'.frozen (p := ⟨A.rb, o, none⟩) hlt3 (fun e => d3 e.symm)]; exact rz o
    have y4 := B3.lt
    have y5 : A.rb < w3.heap.size := Nat.lt_of_lt_of_le hlt3 F3'.size
    have R := declSmall_state (x := x) K k2 k3 k4 k5 km (by omega) kv n8 hc e1 e2 e3 F3' B3 T3 e4
    have FR : Fr (CS A) w (w3.setCell ⟨A.rb, x, none⟩ (.int .i64 (s.ni : Nat))) := (F3'.mono (fun _ _ h => .inl h)).setC A.rb x _ (fun _ => .inr (.inr rfl))
    have HR : Hid (_ ∧ _) := ⟨R, FR⟩
    clear R FR B3 T3 e4 F3 F3' e1 e2 e3 K k2 k3 k4 k5 km kt kv
    go_wp2_with fail
    refine ⟨by kernel_rfl, ?_⟩
    go_wp2_with fail
    go_end0
    exact ⟨rfl, HR.out⟩
theorem declC (H : CM w A X cur s 0 0) {x : Nat} {nd : Nd} (hx : A.ns[x]? = some nd) (hm : mayD nd.name nd.val nd.pos s = .ok () s) (hv : 0 ≤ nd.val ∧ nd.val < 8) (hc : cur < X.fs.length) : Calls Tryz.prog 89 #[.pointer (some ⟨A.c, 0, none⟩), .int .i64 x] w fun e w' => e = .returned (.tuple #[]) ∧ CM w' A X cur (decl cur x nd.name nd.val s) 0 0 ∧ Fr (CS A) w w' := by
  by_cases ht : 2 ≤ nd.val
  · exact declBig H hx hm ht hv hc
  · exact declSmall H hx hm ht hv hc
end
end Go.Proofs.Qxb6500277aGreat
