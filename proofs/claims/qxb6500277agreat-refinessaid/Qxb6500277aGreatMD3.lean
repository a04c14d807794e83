/- The model checker: bind. -/
import Derived.Test.Qxb6500277aGreatMD2
namespace Go.Proofs.Qxb6500277aGreat
open Go Go.RowKit

section
variable {w w' : World} {B : Nat} {A : Ma} {X : Cx} {cur : Nat} {s : Ck} {er po : Int} {fv vv : Value} {n : Nat}
theorem PAv.one {b : Nat} (v : Vr) (X : Blk w b 4 (vrCell v)) : PAv w b [v] := fun o ho => by
  have ho : o < 4 := by simpa using ho
  rw [X.cell ho]
  rcases lt4c ho with rfl | rfl | rfl | rfl <;> rfl
/-- What bind of the model leaves. -/
def BMP (w : World) (B : Nat) (A : Ma) (X : Cx) (cur : Nat) (s' : Ck) (fv vv : Value) (e : Ending) (w' : World) : Prop := e = .returned (.tuple #[]) ∧ Fr (MSc A fv vv) w w' ∧ ∃ vv', MXc w' B A X cur s' 0 0 fv vv' ∧ ∀ b, isBlk vv' b → isBlk vv b ∨ w.heap.size ≤ b
set_option maxRecDepth 100000 in
set_option maxHeartbeats 8000000 in
theorem bindBig (H : MXc w B A X cur s 0 0 fv vv) {x : Nat} {nd : Nd} (hx : A.ns[x]? = some nd) (h12 : s.nr < 12) (hl24 : s.vs.length < 24) (ht : 2 ≤ nd.val) (hv : 0 ≤ nd.val ∧ nd.val < 8) (hc : cur < X.fs.length) : Calls Tryz.prog 77 #[.pointer (some ⟨A.m, 0, none⟩), .int .i64 x] w (BMP w B A X cur (decl cur x nd.name nd.val s) fv vv) := by
  obtain ⟨va, vc, rfl⟩ := H.vs.sl
  obtain ⟨-, r1, r2, r3, r4, r5, r6, r7, r8, r9, r10, hz, hlt, hltt, hltr⟩ := H.regs
  obtain ⟨hk, hnb, r0, n0, n1, n2, n3, n4, n5, n6, n7⟩ := H.node hx
  obtain ⟨fb, cap, efv, hfb, ibf, c0, c1, c2, c3, c4, c5, c6, cz⟩ := H.func hc
  have hle := H.le
  have hx8 := H.xok.le
  have hxl : (x : Int) < A.ns.length := by omega
  have hcn : cur < 8 := by omega
  have hci : (cur : Int) < (X.fs.length : Nat) := by omega
  have z2 : decide (nd.val ≥ 2) = true := decide_eq_true ht
  have hlm := H.lm cur
  have hll : cur < s.lim.length := by rw [H.lim]; exact hc
  have hn12i : (s.nr : Int) < 12 := by omega
  rw [efv] at r3
  have Hefv : Hid _ := efv
  obtain ⟨e1, e2, e3, e4, e5, e6⟩ := H.dis
  obtain ⟨v1, v2, v3, v4, v5, v6⟩ := H.fd fb ibf
  have f1 : fb ≠ A.m := v1
  have M1 := H.setNr (s.nr + 1) (by omega)
  have HM1 : Hid (MXc _ B A X cur _ 0 0 fv (.slice va s.vs.length vc)) := M1
  have hup := H.up
  have Hup : Hid _ := hup
  have HH : Hid (MXc w B A X cur s 0 0 fv (.slice va s.vs.length vc)) := H
  have Hbz : Hid (B ≤ w.heap.size) := by have := H.lo.1; show B ≤ _; omega
  have HIB : Hid (isBlk fv fb) := ibf
  have Hht : Hid (2 ≤ nd.val) := ht
  have ecast : ((s.nr + 1 : Nat) : Int) = (s.nr : Int) + 1 := by omega
  rw [ecast] at HM1
  clear H M1 efv hup ibf ht
  by_cases hg : (lAt s.lim cur).2 < s.nr + 1
  · have z3 : decide ((s.nr : Int) + 1 > ((lAt s.lim cur).2 : Nat)) = true := decide_eq_true (by omega)
    have z4 : decide (((lAt s.lim cur).2 : Int) < (s.nr : Int) + 1) = true := decide_eq_true (by omega)
    have em : max (lAt s.lim cur).2 (s.nr + 1) = s.nr + 1 := by omega
    have Hem : Hid _ := em
    clear em hg ecast
    go_enter Tryz.func77, Tryz.ntmps77
    go_wp2_with fail
    generalize hw1 : w.setCell _ _ = w1
    have M1 : MXc w1 B A X cur { s with nr := s.nr + 1 } 0 0 fv (.slice va s.vs.length vc) := by rw [← hw1]; exact HM1.out
    have F1 : Fr (MSc A fv (.slice va s.vs.length vc)) w w1 := by rw [← hw1]; exact (Fr.refl _ _).setC A.m 6 _ (fun _ => .inl rfl)
    clear HM1 hw1 r1 r2 r3 r4 r5 r6 r7 r8 r9 r10 hz hlt hltt hltr hnb r0 n0 n1 n2 n3 n4 n5 n6 n7 c0 c1 c2 c3 c4 c5 c6 cz hfb
    obtain ⟨-, r1, r2, r3, r4, r5, r6, r7, r8, r9, r10, hz, hlt, hltt, hltr⟩ := M1.regs
    simp only at r5 r6 r8
    obtain ⟨fb', cap', efv', hfb, ibf', c0, c1, c2, c3, c4, c5, c6, cz⟩ := M1.func hc
    simp only at c4 c5
    have e9 := Hefv.out.symm.trans efv'
    injection e9 with e9 _ e10
    injection e9 with e9
    injection e9 with e9
    subst e9 e10
    rw [Hefv.out] at r3
    have rf1 := M1.rfb.cell (o := x) hk
    have rfz1 := M1.rfb.frozen
    have HMF : Hid (MXc w1 B A X cur { s with nr := s.nr + 1 } 0 0 fv (.slice va s.vs.length vc) ∧ Fr (MSc A fv (.slice va s.vs.length vc)) w w1) := ⟨M1, F1⟩
    clear M1 F1 efv' ibf'
    go_quiet (fail)
    go_wp2_with fail
    refine wp_region_text (by kernel_rfl) (by kernel_rfl) ?_
    go_wp2_with fail
    refine ⟨by kernel_rfl, ?_⟩
    go_wp2_with fail
    generalize hw2 : World.setCell _ ⟨A.rb, x, none⟩ _ = w2
    have M2 : MXc w2 B A X cur { s with nr := s.nr + 1, lim := s.lim.set cur ((lAt s.lim cur).1, max (lAt s.lim cur).2 (s.nr + 1)), rf := s.rf.set x s.nr } 0 0 fv (.slice va s.vs.length vc) := by
      rw [← hw2, Hem.out]
      exact ((HMF.out.1.same ((Fr.refl _ _).drewN _)).setLR hc (s.nr + 1) (by omega) HIB.out).setRf x s.nr
    have F2 : Fr (MSc A fv (.slice va s.vs.length vc)) w w2 := by rw [← hw2]; exact ((HMF.out.2.drewN _).setC fb _ _ (fun _ => .inr (.inr (.inr (.inl HIB.out))))).setC A.rb _ _ (fun _ => .inr (.inr (.inl rfl)))
    clear HMF hw2 r1 r2 r3 r4 r5 r6 r7 r8 r9 r10 hz hlt hltt hltr c0 c1 c2 c3 c4 c5 c6 cz hfb rf1 rfz1 z3 z4
    obtain ⟨-, r1, r2, r3, r4, r5, r6, r7, r8, r9, r10, hz, hlt, hltt, hltr⟩ := M2.regs
    simp only at r4 r8
    obtain ⟨_, hnb, r0, n0, n1, n2, n3, n4, n5, n6, n7⟩ := M2.node hx
    have FB := ((Fr.refl (fun _ => False) w2).alloc (.cells #[.string nd.name, .int .i64 nd.val, .int .i64 (s.nr : Nat), .int .i64 (s.lvl : Nat)] 186)).drew
    have M3 := M2.same FB
    have hp1 := PAv.one (⟨nd.name, nd.val, s.nr, s.lvl⟩ : Vr) (vrBox_blk w2 ⟨nd.name, nd.val, s.nr, s.lvl⟩).drew
    have hN1 := M3.vs
    have hb1 := M3.blk
    have HM3 : Hid (MXc _ B A X cur _ 0 0 fv (.slice va s.vs.length vc)) := M3
    have HF2 : Hid (Fr (MSc A fv (.slice va s.vs.length vc)) w w2 ∧ Fr (fun _ => False) w2 _) := ⟨F2, FB⟩
    have hvm : ¬ isBlk (.slice va s.vs.length vc) A.m := fun h => (M2.vd _ h).1 rfl
    have hl200 : s.vs.length ≤ 200 := by omega
    clear M2 M3 F2 FB
    refine wp_region_text (by kernel_rfl) (by kernel_rfl) ?_
    go_wp2_with (at_builtin; refine wpList_appendVr (by rfl) _ _ (by rfl) (.slice va s.vs.length vc) s.vs ⟨nd.name, nd.val, s.nr, s.lvl⟩ w2.heap.size 1 (by rfl) (by rfl) hN1 hp1 hl200 ?_; intro v' w8 hc8 hb8 f8; obtain ⟨va', vcap', rfl⟩ := hc8.sl; have hrb := hb1.frame f8 (fun ⟨n, c, e⟩ => hvm ⟨n, c, e⟩); have q4 := hrb.cell (o := 4) (by omega); have z8 := hrb.frozen; have l8 := hrb.lt)
    have Hc8 : Hid (SlV w8 (.slice va' (s.vs ++ [(⟨nd.name, nd.val, s.nr, s.lvl⟩ : Vr)]).length vcap') (s.vs ++ [⟨nd.name, nd.val, s.nr, s.lvl⟩])) := hc8
    have Hb8 : Hid _ := hb8
    have Hf8 : Hid _ := f8
    clear hc8 hb8 f8 hrb hp1 hN1 hb1 r1 r2 r3 r4 r5 r6 r7 r8 r9 r10 hz hltt hltr r0 n0 n1 n2 n3 n4 n5 n6 n7
    refine ⟨by kernel_rfl, ?_⟩
    go_wp2_with fail
    go_end0
    have hc8 := Hc8.out
    rw [one_appendV] at hc8
    have hsz : ((w2.alloc (.cells #[.string nd.name, .int .i64 nd.val, .int .i64 (s.nr : Nat), .int .i64 (s.lvl : Nat)] 186)).drew).heap.size = w2.heap.size + 1 := by simp [World.size_alloc, World.size_drew]
    have hb8 : ∀ c, isBlk (.slice va' (s.vs.length + 1) vcap') c → ((w2.alloc (.cells #[.string nd.name, .int .i64 nd.val, .int .i64 (s.nr : Nat), .int .i64 (s.lvl : Nat)] 186)).drew).heap.size ≤ c ∨ isBlk (.slice va s.vs.length vc) c := fun c ⟨n', c', e⟩ => Hb8.out c n' c' (by rw [one_appendV]; exact e)
    have hw2s := HF2.out.1.size
    have R := HM3.out.setVs Hf8.out hc8 hb8 (by rw [hsz]; have := Hbz.out; omega) (by rw [hsz]; omega) (by simp; omega) (fun i => by
      by_cases hi : i < s.vs.length
      · rw [vAt_app hi]; exact HH.out.vt i
      · by_cases he : i = s.vs.length
        · subst he; rw [vAt_last]; exact hv
        · unfold vAt; rw [List.getD_eq_getElem?_getD, List.getElem?_eq_none (by simp; omega)]; exact ⟨Int.le_refl _, by decide⟩)
    have ed : decl cur x nd.name nd.val s = { s with vs := s.vs ++ [⟨nd.name, nd.val, s.nr, s.lvl⟩], nr := s.nr + 1, lim := s.lim.set cur ((lAt s.lim cur).1, max (lAt s.lim cur).2 (s.nr + 1)), rf := s.rf.set x s.nr } := by
      unfold decl; rw [if_pos (show 2 ≤ nd.val by have := Hht.out; omega)]
    refine ⟨rfl, ((HF2.out.1.trans HF2.out.2 (fun _ _ h => h.elim)).trans Hf8.out (fun c _ h => .inr (.inr (.inr (.inr h))))).setC A.m 4 _ (fun _ => .inl rfl), _, by rw [ed]; exact R, fun c hcc => ?_⟩
    rcases hb8 c hcc with h | h
    · exact .inr (by omega)
    · exact .inl h
  · have z3 : decide ((s.nr : Int) + 1 > ((lAt s.lim cur).2 : Nat)) = false := decide_eq_false (by omega)
    have z4 : decide (((lAt s.lim cur).2 : Int) < (s.nr : Int) + 1) = false := decide_eq_false (by omega)
    have em : max (lAt s.lim cur).2 (s.nr + 1) = (lAt s.lim cur).2 := by omega
    have Hem : Hid _ := em
    clear em hg ecast
    go_enter Tryz.func77, Tryz.ntmps77
    go_wp2_with fail
    generalize hw1 : w.setCell _ _ = w1
    have M1 : MXc w1 B A X cur { s with nr := s.nr + 1 } 0 0 fv (.slice va s.vs.length vc) := by rw [← hw1]; exact HM1.out
    have F1 : Fr (MSc A fv (.slice va s.vs.length vc)) w w1 := by rw [← hw1]; exact (Fr.refl _ _).setC A.m 6 _ (fun _ => .inl rfl)
    clear HM1 hw1 r1 r2 r3 r4 r5 r6 r7 r8 r9 r10 hz hlt hltt hltr hnb r0 n0 n1 n2 n3 n4 n5 n6 n7 c0 c1 c2 c3 c4 c5 c6 cz hfb
    obtain ⟨-, r1, r2, r3, r4, r5, r6, r7, r8, r9, r10, hz, hlt, hltt, hltr⟩ := M1.regs
    simp only at r5 r6 r8
    obtain ⟨fb', cap', efv', hfb, ibf', c0, c1, c2, c3, c4, c5, c6, cz⟩ := M1.func hc
    simp only at c4 c5
    have e9 := Hefv.out.symm.trans efv'
    injection e9 with e9 _ e10
    injection e9 with e9
    injection e9 with e9
    subst e9 e10
    rw [Hefv.out] at r3
    have rf1 := M1.rfb.cell (o := x) hk
    have rfz1 := M1.rfb.frozen
    have HMF : Hid (MXc w1 B A X cur { s with nr := s.nr + 1 } 0 0 fv (.slice va s.vs.length vc) ∧ Fr (MSc A fv (.slice va s.vs.length vc)) w w1) := ⟨M1, F1⟩
    clear M1 F1 efv' ibf'
    go_quiet (fail)
    go_wp2_with fail
    generalize hw2 : World.setCell _ ⟨A.rb, x, none⟩ _ = w2
    have M2 : MXc w2 B A X cur { s with nr := s.nr + 1, lim := s.lim.set cur ((lAt s.lim cur).1, max (lAt s.lim cur).2 (s.nr + 1)), rf := s.rf.set x s.nr } 0 0 fv (.slice va s.vs.length vc) := by
      rw [← hw2, Hem.out, show s.lim.set cur ((lAt s.lim cur).1, (lAt s.lim cur).2) = s.lim from lim_same hll]
      exact (HMF.out.1.same ((Fr.refl _ _).drewN _)).setRf x s.nr
    have F2 : Fr (MSc A fv (.slice va s.vs.length vc)) w w2 := by rw [← hw2]; exact (HMF.out.2.drewN _).setC A.rb _ _ (fun _ => .inr (.inr (.inl rfl)))
    clear HMF hw2 r1 r2 r3 r4 r5 r6 r7 r8 r9 r10 hz hlt hltt hltr c0 c1 c2 c3 c4 c5 c6 cz hfb rf1 rfz1 z3 z4
    obtain ⟨-, r1, r2, r3, r4, r5, r6, r7, r8, r9, r10, hz, hlt, hltt, hltr⟩ := M2.regs
    simp only at r4 r8
    obtain ⟨_, hnb, r0, n0, n1, n2, n3, n4, n5, n6, n7⟩ := M2.node hx
    have FB := ((Fr.refl (fun _ => False) w2).alloc (.cells #[.string nd.name, .int .i64 nd.val, .int .i64 (s.nr : Nat), .int .i64 (s.lvl : Nat)] 186)).drew
    have M3 := M2.same FB
    have hp1 := PAv.one (⟨nd.name, nd.val, s.nr, s.lvl⟩ : Vr) (vrBox_blk w2 ⟨nd.name, nd.val, s.nr, s.lvl⟩).drew
    have hN1 := M3.vs
    have hb1 := M3.blk
    have HM3 : Hid (MXc _ B A X cur _ 0 0 fv (.slice va s.vs.length vc)) := M3
    have HF2 : Hid (Fr (MSc A fv (.slice va s.vs.length vc)) w w2 ∧ Fr (fun _ => False) w2 _) := ⟨F2, FB⟩
    have hvm : ¬ isBlk (.slice va s.vs.length vc) A.m := fun h => (M2.vd _ h).1 rfl
    have hl200 : s.vs.length ≤ 200 := by omega
    clear M2 M3 F2 FB
    refine wp_region_text (by kernel_rfl) (by kernel_rfl) ?_
    go_wp2_with (at_builtin; refine wpList_appendVr (by rfl) _ _ (by rfl) (.slice va s.vs.length vc) s.vs ⟨nd.name, nd.val, s.nr, s.lvl⟩ w2.heap.size 1 (by rfl) (by rfl) hN1 hp1 hl200 ?_; intro v' w8 hc8 hb8 f8; obtain ⟨va', vcap', rfl⟩ := hc8.sl; have hrb := hb1.frame f8 (fun ⟨n, c, e⟩ => hvm ⟨n, c, e⟩); have q4 := hrb.cell (o := 4) (by omega); have z8 := hrb.frozen; have l8 := hrb.lt)
    have Hc8 : Hid (SlV w8 (.slice va' (s.vs ++ [(⟨nd.name, nd.val, s.nr, s.lvl⟩ : Vr)]).length vcap') (s.vs ++ [⟨nd.name, nd.val, s.nr, s.lvl⟩])) := hc8
    have Hb8 : Hid _ := hb8
    have Hf8 : Hid _ := f8
    clear hc8 hb8 f8 hrb hp1 hN1 hb1 r1 r2 r3 r4 r5 r6 r7 r8 r9 r10 hz hltt hltr r0 n0 n1 n2 n3 n4 n5 n6 n7
    refine ⟨by kernel_rfl, ?_⟩
    go_wp2_with fail
    go_end0
    have hc8 := Hc8.out
    rw [one_appendV] at hc8
    have hsz : ((w2.alloc (.cells #[.string nd.name, .int .i64 nd.val, .int .i64 (s.nr : Nat), .int .i64 (s.lvl : Nat)] 186)).drew).heap.size = w2.heap.size + 1 := by simp [World.size_alloc, World.size_drew]
    have hb8 : ∀ c, isBlk (.slice va' (s.vs.length + 1) vcap') c → ((w2.alloc (.cells #[.string nd.name, .int .i64 nd.val, .int .i64 (s.nr : Nat), .int .i64 (s.lvl : Nat)] 186)).drew).heap.size ≤ c ∨ isBlk (.slice va s.vs.length vc) c := fun c ⟨n', c', e⟩ => Hb8.out c n' c' (by rw [one_appendV]; exact e)
    have hw2s := HF2.out.1.size
    have R := HM3.out.setVs Hf8.out hc8 hb8 (by rw [hsz]; have := Hbz.out; omega) (by rw [hsz]; omega) (by simp; omega) (fun i => by
      by_cases hi : i < s.vs.length
      · rw [vAt_app hi]; exact HH.out.vt i
      · by_cases he : i = s.vs.length
        · subst he; rw [vAt_last]; exact hv
        · unfold vAt; rw [List.getD_eq_getElem?_getD, List.getElem?_eq_none (by simp; omega)]; exact ⟨Int.le_refl _, by decide⟩)
    have ed : decl cur x nd.name nd.val s = { s with vs := s.vs ++ [⟨nd.name, nd.val, s.nr, s.lvl⟩], nr := s.nr + 1, lim := s.lim.set cur ((lAt s.lim cur).1, max (lAt s.lim cur).2 (s.nr + 1)), rf := s.rf.set x s.nr } := by
      unfold decl; rw [if_pos (show 2 ≤ nd.val by have := Hht.out; omega)]
    refine ⟨rfl, ((HF2.out.1.trans HF2.out.2 (fun _ _ h => h.elim)).trans Hf8.out (fun c _ h => .inr (.inr (.inr (.inr h))))).setC A.m 4 _ (fun _ => .inl rfl), _, by rw [ed]; exact R, fun c hcc => ?_⟩
    rcases hb8 c hcc with h | h
    · exact .inr (by omega)
    · exact .inl h
set_option maxRecDepth 100000 in
set_option maxHeartbeats 8000000 in
theorem bindSmall (H : MXc w B A X cur s 0 0 fv vv) {x : Nat} {nd : Nd} (hx : A.ns[x]? = some nd) (h12 : s.ni < 12) (hl24 : s.vs.length < 24) (ht : ¬ 2 ≤ nd.val) (hv : 0 ≤ nd.val ∧ nd.val < 8) (hc : cur < X.fs.length) : Calls Tryz.prog 77 #[.pointer (some ⟨A.m, 0, none⟩), .int .i64 x] w (BMP w B A X cur (decl cur x nd.name nd.val s) fv vv) := by
  obtain ⟨va, vc, rfl⟩ := H.vs.sl
  obtain ⟨-, r1, r2, r3, r4, r5, r6, r7, r8, r9, r10, hz, hlt, hltt, hltr⟩ := H.regs
  obtain ⟨hk, hnb, r0, n0, n1, n2, n3, n4, n5, n6, n7⟩ := H.node hx
  obtain ⟨fb, cap, efv, hfb, ibf, c0, c1, c2, c3, c4, c5, c6, cz⟩ := H.func hc
  have hle := H.le
  have hx8 := H.xok.le
  have hxl : (x : Int) < A.ns.length := by omega
  have hcn : cur < 8 := by omega
  have hci : (cur : Int) < (X.fs.length : Nat) := by omega
  have z2 : decide (nd.val ≥ 2) = false := decide_eq_false ht
  have hlm := H.lm cur
  have hll : cur < s.lim.length := by rw [H.lim]; exact hc
  have hn12i : (s.ni : Int) < 12 := by omega
  rw [efv] at r3
  have Hefv : Hid _ := efv
  obtain ⟨e1, e2, e3, e4, e5, e6⟩ := H.dis
  obtain ⟨v1, v2, v3, v4, v5, v6⟩ := H.fd fb ibf
  have f1 : fb ≠ A.m := v1
  have M1 := H.setNi (s.ni + 1) (by omega)
  have HM1 : Hid (MXc _ B A X cur _ 0 0 fv (.slice va s.vs.length vc)) := M1
  have hup := H.up
  have Hup : Hid _ := hup
  have HH : Hid (MXc w B A X cur s 0 0 fv (.slice va s.vs.length vc)) := H
  have Hbz : Hid (B ≤ w.heap.size) := by have := H.lo.1; show B ≤ _; omega
  have HIB : Hid (isBlk fv fb) := ibf
  have Hht : Hid (¬ 2 ≤ nd.val) := ht
  have ecast : ((s.ni + 1 : Nat) : Int) = (s.ni : Int) + 1 := by omega
  rw [ecast] at HM1
  clear H M1 efv hup ibf ht
  by_cases hg : (lAt s.lim cur).1 < s.ni + 1
  · have z3 : decide ((s.ni : Int) + 1 > ((lAt s.lim cur).1 : Nat)) = true := decide_eq_true (by omega)
    have z4 : decide (((lAt s.lim cur).1 : Int) < (s.ni : Int) + 1) = true := decide_eq_true (by omega)
    have em : max (lAt s.lim cur).1 (s.ni + 1) = s.ni + 1 := by omega
    have Hem : Hid _ := em
    clear em hg ecast
    go_enter Tryz.func77, Tryz.ntmps77
    go_wp2_with fail
    generalize hw1 : w.setCell _ _ = w1
    have M1 : MXc w1 B A X cur { s with ni := s.ni + 1 } 0 0 fv (.slice va s.vs.length vc) := by rw [← hw1]; exact HM1.out
    have F1 : Fr (MSc A fv (.slice va s.vs.length vc)) w w1 := by rw [← hw1]; exact (Fr.refl _ _).setC A.m 5 _ (fun _ => .inl rfl)
    clear HM1 hw1 r1 r2 r3 r4 r5 r6 r7 r8 r9 r10 hz hlt hltt hltr hnb r0 n0 n1 n2 n3 n4 n5 n6 n7 c0 c1 c2 c3 c4 c5 c6 cz hfb
    obtain ⟨-, r1, r2, r3, r4, r5, r6, r7, r8, r9, r10, hz, hlt, hltt, hltr⟩ := M1.regs
    simp only at r5 r6 r8
    obtain ⟨fb', cap', efv', hfb, ibf', c0, c1, c2, c3, c4, c5, c6, cz⟩ := M1.func hc
    simp only at c4 c5
    have e9 := Hefv.out.symm.trans efv'
    injection e9 with e9 _ e10
    injection e9 with e9
    injection e9 with e9
    subst e9 e10
    rw [Hefv.out] at r3
    have rf1 := M1.rfb.cell (o := x) hk
    have rfz1 := M1.rfb.frozen
    have HMF : Hid (MXc w1 B A X cur { s with ni := s.ni + 1 } 0 0 fv (.slice va s.vs.length vc) ∧ Fr (MSc A fv (.slice va s.vs.length vc)) w w1) := ⟨M1, F1⟩
    clear M1 F1 efv' ibf'
    go_quiet (fail)
    go_wp2_with fail
    refine wp_region_text (by kernel_rfl) (by kernel_rfl) ?_
    go_wp2_with fail
    refine ⟨by kernel_rfl, ?_⟩
    go_wp2_with fail
    generalize hw2 : World.setCell _ ⟨A.rb, x, none⟩ _ = w2
    have M2 : MXc w2 B A X cur { s with ni := s.ni + 1, lim := s.lim.set cur (max (lAt s.lim cur).1 (s.ni + 1), (lAt s.lim cur).2), rf := s.rf.set x s.ni } 0 0 fv (.slice va s.vs.length vc) := by
      rw [← hw2, Hem.out]
      exact ((HMF.out.1.same ((Fr.refl _ _).drewN _)).setLI hc (s.ni + 1) (by omega) HIB.out).setRf x s.ni
    have F2 : Fr (MSc A fv (.slice va s.vs.length vc)) w w2 := by rw [← hw2]; exact ((HMF.out.2.drewN _).setC fb _ _ (fun _ => .inr (.inr (.inr (.inl HIB.out))))).setC A.rb _ _ (fun _ => .inr (.inr (.inl rfl)))
    clear HMF hw2 r1 r2 r3 r4 r5 r6 r7 r8 r9 r10 hz hlt hltt hltr c0 c1 c2 c3 c4 c5 c6 cz hfb rf1 rfz1 z3 z4
    obtain ⟨-, r1, r2, r3, r4, r5, r6, r7, r8, r9, r10, hz, hlt, hltt, hltr⟩ := M2.regs
    simp only at r4 r8
    obtain ⟨_, hnb, r0, n0, n1, n2, n3, n4, n5, n6, n7⟩ := M2.node hx
    have FB := ((Fr.refl (fun _ => False) w2).alloc (.cells #[.string nd.name, .int .i64 nd.val, .int .i64 (s.ni : Nat), .int .i64 (s.lvl : Nat)] 186)).drew
    have M3 := M2.same FB
    have hp1 := PAv.one (⟨nd.name, nd.val, s.ni, s.lvl⟩ : Vr) (vrBox_blk w2 ⟨nd.name, nd.val, s.ni, s.lvl⟩).drew
    have hN1 := M3.vs
    have hb1 := M3.blk
    have HM3 : Hid (MXc _ B A X cur _ 0 0 fv (.slice va s.vs.length vc)) := M3
    have HF2 : Hid (Fr (MSc A fv (.slice va s.vs.length vc)) w w2 ∧ Fr (fun _ => False) w2 _) := ⟨F2, FB⟩
    have hvm : ¬ isBlk (.slice va s.vs.length vc) A.m := fun h => (M2.vd _ h).1 rfl
    have hl200 : s.vs.length ≤ 200 := by omega
    clear M2 M3 F2 FB
    refine wp_region_text (by kernel_rfl) (by kernel_rfl) ?_
    go_wp2_with (at_builtin; refine wpList_appendVr (by rfl) _ _ (by rfl) (.slice va s.vs.length vc) s.vs ⟨nd.name, nd.val, s.ni, s.lvl⟩ w2.heap.size 1 (by rfl) (by rfl) hN1 hp1 hl200 ?_; intro v' w8 hc8 hb8 f8; obtain ⟨va', vcap', rfl⟩ := hc8.sl; have hrb := hb1.frame f8 (fun ⟨n, c, e⟩ => hvm ⟨n, c, e⟩); have q4 := hrb.cell (o := 4) (by omega); have z8 := hrb.frozen; have l8 := hrb.lt)
    have Hc8 : Hid (SlV w8 (.slice va' (s.vs ++ [(⟨nd.name, nd.val, s.ni, s.lvl⟩ : Vr)]).length vcap') (s.vs ++ [⟨nd.name, nd.val, s.ni, s.lvl⟩])) := hc8
    have Hb8 : Hid _ := hb8
    have Hf8 : Hid _ := f8
    clear hc8 hb8 f8 hrb hp1 hN1 hb1 r1 r2 r3 r4 r5 r6 r7 r8 r9 r10 hz hltt hltr r0 n0 n1 n2 n3 n4 n5 n6 n7
    refine ⟨by kernel_rfl, ?_⟩
    go_wp2_with fail
    go_end0
    have hc8 := Hc8.out
    rw [one_appendV] at hc8
    have hsz : ((w2.alloc (.cells #[.string nd.name, .int .i64 nd.val, .int .i64 (s.ni : Nat), .int .i64 (s.lvl : Nat)] 186)).drew).heap.size = w2.heap.size + 1 := by simp [World.size_alloc, World.size_drew]
    have hb8 : ∀ c, isBlk (.slice va' (s.vs.length + 1) vcap') c → ((w2.alloc (.cells #[.string nd.name, .int .i64 nd.val, .int .i64 (s.ni : Nat), .int .i64 (s.lvl : Nat)] 186)).drew).heap.size ≤ c ∨ isBlk (.slice va s.vs.length vc) c := fun c ⟨n', c', e⟩ => Hb8.out c n' c' (by rw [one_appendV]; exact e)
    have hw2s := HF2.out.1.size
    have R := HM3.out.setVs Hf8.out hc8 hb8 (by rw [hsz]; have := Hbz.out; omega) (by rw [hsz]; omega) (by simp; omega) (fun i => by
      by_cases hi : i < s.vs.length
      · rw [vAt_app hi]; exact HH.out.vt i
      · by_cases he : i = s.vs.length
        · subst he; rw [vAt_last]; exact hv
        · unfold vAt; rw [List.getD_eq_getElem?_getD, List.getElem?_eq_none (by simp; omega)]; exact ⟨Int.le_refl _, by decide⟩)
    have ed : decl cur x nd.name nd.val s = { s with vs := s.vs ++ [⟨nd.name, nd.val, s.ni, s.lvl⟩], ni := s.ni + 1, lim := s.lim.set cur (max (lAt s.lim cur).1 (s.ni + 1), (lAt s.lim cur).2), rf := s.rf.set x s.ni } := by
      unfold decl; rw [if_neg (show ¬ 2 ≤ nd.val by have := Hht.out; omega)]
    refine ⟨rfl, ((HF2.out.1.trans HF2.out.2 (fun _ _ h => h.elim)).trans Hf8.out (fun c _ h => .inr (.inr (.inr (.inr h))))).setC A.m 4 _ (fun _ => .inl rfl), _, by rw [ed]; exact R, fun c hcc => ?_⟩
    rcases hb8 c hcc with h | h
    · exact .inr (by omega)
    · exact .inl h
  · have z3 : decide ((s.ni : Int) + 1 > ((lAt s.lim cur).1 : Nat)) = false := decide_eq_false (by omega)
    have z4 : decide (((lAt s.lim cur).1 : Int) < (s.ni : Int) + 1) = false := decide_eq_false (by omega)
    have em : max (lAt s.lim cur).1 (s.ni + 1) = (lAt s.lim cur).1 := by omega
    have Hem : Hid _ := em
    clear em hg ecast
    go_enter Tryz.func77, Tryz.ntmps77
    go_wp2_with fail
    generalize hw1 : w.setCell _ _ = w1
    have M1 : MXc w1 B A X cur { s with ni := s.ni + 1 } 0 0 fv (.slice va s.vs.length vc) := by rw [← hw1]; exact HM1.out
    have F1 : Fr (MSc A fv (.slice va s.vs.length vc)) w w1 := by rw [← hw1]; exact (Fr.refl _ _).setC A.m 5 _ (fun _ => .inl rfl)
    clear HM1 hw1 r1 r2 r3 r4 r5 r6 r7 r8 r9 r10 hz hlt hltt hltr hnb r0 n0 n1 n2 n3 n4 n5 n6 n7 c0 c1 c2 c3 c4 c5 c6 cz hfb
    obtain ⟨-, r1, r2, r3, r4, r5, r6, r7, r8, r9, r10, hz, hlt, hltt, hltr⟩ := M1.regs
    simp only at r5 r6 r8
    obtain ⟨fb', cap', efv', hfb, ibf', c0, c1, c2, c3, c4, c5, c6, cz⟩ := M1.func hc
    simp only at c4 c5
    have e9 := Hefv.out.symm.trans efv'
    injection e9 with e9 _ e10
    injection e9 with e9
    injection e9 with e9
    subst e9 e10
    rw [Hefv.out] at r3
    have rf1 := M1.rfb.cell (o := x) hk
    have rfz1 := M1.rfb.frozen
    have HMF : Hid (MXc w1 B A X cur { s with ni := s.ni + 1 } 0 0 fv (.slice va s.vs.length vc) ∧ Fr (MSc A fv (.slice va s.vs.length vc)) w w1) := ⟨M1, F1⟩
    clear M1 F1 efv' ibf'
    go_quiet (fail)
    go_wp2_with fail
    generalize hw2 : World.setCell _ ⟨A.rb, x, none⟩ _ = w2
    have M2 : MXc w2 B A X cur { s with ni := s.ni + 1, lim := s.lim.set cur (max (lAt s.lim cur).1 (s.ni + 1), (lAt s.lim cur).2), rf := s.rf.set x s.ni } 0 0 fv (.slice va s.vs.length vc) := by
      rw [← hw2, Hem.out, show s.lim.set cur ((lAt s.lim cur).1, (lAt s.lim cur).2) = s.lim from lim_same hll]
      exact (HMF.out.1.same ((Fr.refl _ _).drewN _)).setRf x s.ni
    have F2 : Fr (MSc A fv (.slice va s.vs.length vc)) w w2 := by rw [← hw2]; exact (HMF.out.2.drewN _).setC A.rb _ _ (fun _ => .inr (.inr (.inl rfl)))
    clear HMF hw2 r1 r2 r3 r4 r5 r6 r7 r8 r9 r10 hz hlt hltt hltr c0 c1 c2 c3 c4 c5 c6 cz hfb rf1 rfz1 z3 z4
    obtain ⟨-, r1, r2, r3, r4, r5, r6, r7, r8, r9, r10, hz, hlt, hltt, hltr⟩ := M2.regs
    simp only at r4 r8
    obtain ⟨_, hnb, r0, n0, n1, n2, n3, n4, n5, n6, n7⟩ := M2.node hx
    have FB := ((Fr.refl (fun _ => False) w2).alloc (.cells #[.string nd.name, .int .i64 nd.val, .int .i64 (s.ni : Nat), .int .i64 (s.lvl : Nat)] 186)).drew
    have M3 := M2.same FB
    have hp1 := PAv.one (⟨nd.name, nd.val, s.ni, s.lvl⟩ : Vr) (vrBox_blk w2 ⟨nd.name, nd.val, s.ni, s.lvl⟩).drew
    have hN1 := M3.vs
    have hb1 := M3.blk
    have HM3 : Hid (MXc _ B A X cur _ 0 0 fv (.slice va s.vs.length vc)) := M3
    have HF2 : Hid (Fr (MSc A fv (.slice va s.vs.length vc)) w w2 ∧ Fr (fun _ => False) w2 _) := ⟨F2, FB⟩
    have hvm : ¬ isBlk (.slice va s.vs.length vc) A.m := fun h => (M2.vd _ h).1 rfl
    have hl200 : s.vs.length ≤ 200 := by omega
    clear M2 M3 F2 FB
    refine wp_region_text (by kernel_rfl) (by kernel_rfl) ?_
    go_wp2_with (at_builtin; refine wpList_appendVr (by rfl) _ _ (by rfl) (.slice va s.vs.length vc) s.vs ⟨nd.name, nd.val, s.ni, s.lvl⟩ w2.heap.size 1 (by rfl) (by rfl) hN1 hp1 hl200 ?_; intro v' w8 hc8 hb8 f8; obtain ⟨va', vcap', rfl⟩ := hc8.sl; have hrb := hb1.frame f8 (fun ⟨n, c, e⟩ => hvm ⟨n, c, e⟩); have q4 := hrb.cell (o := 4) (by omega); have z8 := hrb.frozen; have l8 := hrb.lt)
    have Hc8 : Hid (SlV w8 (.slice va' (s.vs ++ [(⟨nd.name, nd.val, s.ni, s.lvl⟩ : Vr)]).length vcap') (s.vs ++ [⟨nd.name, nd.val, s.ni, s.lvl⟩])) := hc8
    have Hb8 : Hid _ := hb8
    have Hf8 : Hid _ := f8
    clear hc8 hb8 f8 hrb hp1 hN1 hb1 r1 r2 r3 r4 r5 r6 r7 r8 r9 r10 hz hltt hltr r0 n0 n1 n2 n3 n4 n5 n6 n7
    refine ⟨by kernel_rfl, ?_⟩
    go_wp2_with fail
    go_end0
    have hc8 := Hc8.out
    rw [one_appendV] at hc8
    have hsz : ((w2.alloc (.cells #[.string nd.name, .int .i64 nd.val, .int .i64 (s.ni : Nat), .int .i64 (s.lvl : Nat)] 186)).drew).heap.size = w2.heap.size + 1 := by simp [World.size_alloc, World.size_drew]
    have hb8 : ∀ c, isBlk (.slice va' (s.vs.length + 1) vcap') c → ((w2.alloc (.cells #[.string nd.name, .int .i64 nd.val, .int .i64 (s.ni : Nat), .int .i64 (s.lvl : Nat)] 186)).drew).heap.size ≤ c ∨ isBlk (.slice va s.vs.length vc) c := fun c ⟨n', c', e⟩ => Hb8.out c n' c' (by rw [one_appendV]; exact e)
    have hw2s := HF2.out.1.size
    have R := HM3.out.setVs Hf8.out hc8 hb8 (by rw [hsz]; have := Hbz.out; omega) (by rw [hsz]; omega) (by simp; omega) (fun i => by
      by_cases hi : i < s.vs.length
      · rw [vAt_app hi]; exact HH.out.vt i
      · by_cases he : i = s.vs.length
        · subst he; rw [vAt_last]; exact hv
        · unfold vAt; rw [List.getD_eq_getElem?_getD, List.getElem?_eq_none (by simp; omega)]; exact ⟨Int.le_refl _, by decide⟩)
    have ed : decl cur x nd.name nd.val s = { s with vs := s.vs ++ [⟨nd.name, nd.val, s.ni, s.lvl⟩], ni := s.ni + 1, lim := s.lim.set cur (max (lAt s.lim cur).1 (s.ni + 1), (lAt s.lim cur).2), rf := s.rf.set x s.ni } := by
      unfold decl; rw [if_neg (show ¬ 2 ≤ nd.val by have := Hht.out; omega)]
    refine ⟨rfl, ((HF2.out.1.trans HF2.out.2 (fun _ _ h => h.elim)).trans Hf8.out (fun c _ h => .inr (.inr (.inr (.inr h))))).setC A.m 4 _ (fun _ => .inl rfl), _, by rw [ed]; exact R, fun c hcc => ?_⟩
    rcases hb8 c hcc with h | h
    · exact .inr (by omega)
    · exact .inl h
theorem bindM (H : MXc w B A X cur s 0 0 fv vv) {x : Nat} {nd : Nd} (hx : A.ns[x]? = some nd) (hm : mayD nd.name nd.val nd.pos s = .ok () s) (hl24 : s.vs.length < 24) (hv : 0 ≤ nd.val ∧ nd.val < 8) (hc : cur < X.fs.length) : Calls Tryz.prog 77 #[.pointer (some ⟨A.m, 0, none⟩), .int .i64 x] w (BMP w B A X cur (decl cur x nd.name nd.val s) fv vv) := by
  obtain ⟨_, _, m1, m2⟩ := mayD_eq hm
  by_cases ht : 2 ≤ nd.val
  · exact bindBig H hx (m1 ht) hl24 ht hv hc
  · exact bindSmall H hx (m2 ht) hl24 ht hv hc
end
end Go.Proofs.Qxb6500277aGreat
