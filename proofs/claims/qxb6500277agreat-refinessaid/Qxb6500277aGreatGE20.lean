/- The code generator: function. -/
import Derived.Test.Qxb6500277aGreatGE19
namespace Go.Proofs.Qxb6500277aGreat
open Go Go.RowKit

/-- A function of the program, as the engine reads it. -/
structure FnAt (G : Ge) (i : Nat) (F : Fi) (r : FR) : Prop where
  rc : G.rs[i]? = some r
  ret : r.1.ret = F.ret
  pi : r.1.pi = F.pi
  pr : r.1.pr = F.pr
  li : r.2.1 = F.li
  lr : r.2.2 = F.lr
  nd : ∃ (kn kb : Nat) (nd : Nd) (p : Int), r.1.node = (kn : Nat) ∧ G.ns[kn]? = some nd ∧ nd.b = (kb : Nat) ∧ G.ns[kb]? = some ⟨2, hdS F.bb F.ss, -1, -1, -1, 0, p, ⟨#[]⟩⟩
  lie : Lie G.ns F.bb (flSs F.bb F.ss)
  ty : TySs F.ss
  wt : WtSs G.P0 F.li F.lr F.ret F.bb F.ss
  le : F.pi ≤ 12 ∧ F.pr ≤ 12 ∧ F.li ≤ 12 ∧ F.lr ≤ 12
def addF (P0 : Pg) (B : Gb) (i : Nat) (F : Fi) : Gb := { B with code := B.code ++ cF P0 (fun _ => 0) B.code.length F, calls := B.calls ++ fxSs P0 (B.code.length + 5) F.bb F.ss, entry := B.entry.set i (B.code.length : Nat) }
theorem addF_len (P0 : Pg) (B : Gb) (i : Nat) (F : Fi) : (addF P0 B i F).code.length = B.code.length + nF F := by simp [addF, cF_len]
theorem FLV.at {w : World} {v : Value} {rs : List FR} (h : FLV w v rs) {k : Nat} {r : FR} (hk : rs[k]? = some r) : ∃ b, v = .slice (some ⟨b, 0, none⟩) rs.length rs.length ∧ b < w.heap.size ∧ k < rs.length ∧ w.cell? ⟨b, k * 7, none⟩ = some (.int .i64 r.1.node) ∧ w.cell? ⟨b, k * 7 + 1, none⟩ = some (.int .i64 r.1.ret) ∧ w.cell? ⟨b, k * 7 + 2, none⟩ = some (.int .i64 r.1.pi) ∧ w.cell? ⟨b, k * 7 + 3, none⟩ = some (.int .i64 r.1.pr) ∧ w.cell? ⟨b, k * 7 + 4, none⟩ = some (.int .i64 r.2.1) ∧ w.cell? ⟨b, k * 7 + 5, none⟩ = some (.int .i64 r.2.2) ∧ w.cell? ⟨b, k * 7 + 6, none⟩ = some (.string r.1.name) := by
  obtain ⟨hk', e⟩ := List.getElem?_eq_some_iff.1 hk
  rcases h with ⟨_, rfl⟩ | ⟨b, f, rfl, h1, h2, _⟩
  · simp at hk'
  · have q : ∀ o, o < 7 → w.cell? ⟨b, k * 7 + o, none⟩ = some (frC r o) := fun o ho => by rw [h1.cell (by omega), h2 k hk' o ho, e]
    exact ⟨b, rfl, h1.lt, hk', q 0 (by omega), q 1 (by omega), q 2 (by omega), q 3 (by omega), q 4 (by omega), q 5 (by omega), q 6 (by omega)⟩
theorem frC_blk (w : World) (r : FR) : Blk (w.alloc (.cells #[.int .i64 r.1.node, .int .i64 r.1.ret, .int .i64 r.1.pi, .int .i64 r.1.pr, .int .i64 r.2.1, .int .i64 r.2.2, .string r.1.name] 109)) w.heap.size 7 (frC r) := Blk.new w _ _ _ fun o ho => by
  have ho : o < 7 := ho
  obtain rfl | rfl | rfl | rfl | rfl | rfl | rfl : o = 0 ∨ o = 1 ∨ o = 2 ∨ o = 3 ∨ o = 4 ∨ o = 5 ∨ o = 6 := by omega
  all_goals rfl
theorem GY.ene {w : World} {g : Nat} {P : Nat → Prop} {hd : Nat → Value} {B : Gb} {cv hv xv ev : Value} {col : Nat → Nat} (H : GY w g P hd B cv hv xv ev col) : ¬ isB ev g := fun h => by have h1 := (H.ce g h).2; rw [H.pg.2] at h1; cases h1
set_option maxRecDepth 100000 in
set_option maxHeartbeats 2000000 in
theorem functionG {G : Ge} {i : Nat} {F : Fi} {r : FR} (A : FnAt G i F r) (hfn : G.P0.fns.length ≤ 200) {w : World} {P : Nat → Prop} {B : Gb} (h : GX w G.g P G.hd B) (hc : G.Cv w P) (hi : i < B.entry.length) (hl : B.code.length + nF F ≤ 38000) : Calls Tryz.prog 68 #[.pointer (some ⟨G.g, 0, none⟩), .int .i64 (i : Nat)] w (EmR w G.g P G.hd (addF G.P0 B i F)) := by
  obtain ⟨_, _, _, r8, _, hgl⟩ := GX.regs h
  obtain ⟨b8, s1, s2, hil, f0, f1, f2, f3, f4, f5, f6⟩ := FLV.at hc.an.hf A.rc
  have hfl := hc.an.fl
  rw [s1] at r8
  have hri : (i : Int) < G.rs.length := by omega
  obtain ⟨kn, kb, nd, p, a1, a2, a3, a4⟩ := A.nd
  obtain ⟨x1, x2, x3, x4⟩ := A.le
  have Lb := A.lie
  have Tb := A.ty
  have Wb := A.wt
  obtain ⟨⟨rn, rr, rpi, rpr, rnm⟩, rli, rlr⟩ := r
  have y1 := A.ret
  have y2 := A.pi
  have y3 := A.pr
  have y4 := A.li
  have y5 := A.lr
  clear A
  obtain ⟨pi, pr, li, lr, ret, bb, ss⟩ := F
  simp only [] at f0 f1 f2 f3 f4 f5 f6 a1 y1 y2 y3 y4 y5 x1 x2 x3 x4 Lb Tb Wb a4
  subst y1 y2 y3 y4 y5 a1
  have hF : Fr (fun _ => False) w (w.alloc (.cells #[.int .i64 (kn : Nat), .int .i64 rr, .int .i64 (rpi : Nat), .int .i64 (rpr : Nat), .int .i64 (rli : Nat), .int .i64 (rlr : Nat), .string rnm] 109)) := (Fr.refl _ w).alloc _
  have E : Em _ P G.g G.hd _ B := Em.nil (h.frame hF fun _ _ => id)
  have C2 : G.Cv _ P := Cv.same hc hF
  have K := frC_blk w (⟨kn, rr, rpi, rpr, rnm⟩, (rli, rlr))
  have hnP : ¬ P w.heap.size := fun hp => by have := h.lt _ hp; omega
  have Hs : Hid _ := And.intro h.lt (And.intro hF s1)
  have hL : B.code.length + nSs ss + 15 ≤ 38010 := by unfold nF at hl; simp only [] at hl; split at hl <;> omega
  clear s1 hc h hF hl
  go_enter Tryz.func68, Tryz.ntmps68
  go_upto_region 1 with fail
  simp only [] at K
  obtain ⟨fb, hfb⟩ : ∃ fb, fb = w.heap.size := ⟨_, rfl⟩
  obtain ⟨w2, hw2⟩ : ∃ w2, w2 = w.alloc (.cells #[.int .i64 (kn : Nat), .int .i64 rr, .int .i64 (rpi : Nat), .int .i64 (rpr : Nat), .int .i64 (rli : Nat), .int .i64 (rlr : Nat), .string rnm] 109) := ⟨_, rfl⟩
  rw [← hw2] at E C2 K Hs
  rw [← hfb] at K hnP
  rw [← hw2, ← hfb]
  clear hw2 hfb r8 s2 f0 f1 f2 f3 f4 f5 f6 hri hil hgl
  -- the entry
  have E1 := E.same ((Fr.refl _ _).drew)
  have qh := hereF E1.1
  obtain ⟨cv, hv, xv, ev, col, H⟩ := E1.1
  have c15 : w2.drew.cell? ⟨G.g, 15, none⟩ = some ev := H.cl (o := 15) (by omega)
  have hgl : G.g < w2.drew.heap.size := H.glt
  have hz := H.blk.frozen
  obtain ⟨eb, ek, g1, g0, g2, g3, g4, g5⟩ := H.ent.set hi
  have g6 := g5 ((B.code.length : Nat) : Int)
  have heg : eb ≠ G.g := fun e => H.ene (by rw [g1, e]; exact ⟨_, _, rfl⟩)
  have F1 : Fr (isB ev) w2.drew (w2.drew.setCell ⟨eb, i, none⟩ (.int .i64 (B.code.length : Nat))) := (Fr.refl _ _).setC eb i _ fun _ => by rw [g1]; exact ⟨_, _, rfl⟩
  have Y := H.fillE F1 g6 (by simp)
  have E2 : Em w2 P G.g G.hd (w2.drew.setCell ⟨eb, i, none⟩ (.int .i64 (B.code.length : Nat))) { B with entry := B.entry.set i (B.code.length : Nat) } := E1.then (e := .returned (.tuple #[])) ⟨rfl, Y.x.mono (fun _ h => .inl h) (Gw.lt H.lt F1.size), F1.mono fun _ _ h => (H.ce _ h).1⟩
  obtain ⟨old, hold⟩ : ∃ old, old = B.entry[i] := ⟨_, rfl⟩
  rw [← hold] at g3
  rw [g1] at c15
  have hei : (i : Int) < B.entry.length := by omega
  have HE2 : Hid (True ∧ _) := ⟨trivial, E2⟩
  clear E1 H g1 g0 g5 g6 F1 Y hold E2 E
  go_cut [] from 15 (fun wx => Em w2 P G.g G.hd wx { B with entry := B.entry.set i (B.code.length : Nat) })
  case first =>
    refine wp_region_tree (.run [0,1,2,4,5] (.fork 3 (.run [6] (.run [7,8] .fin)) 6 (.run [3,7,8] .fin))) (by kernel_rfl) (by kernel_rfl) ?_
    simp only [wpTL, pick, List.filterMap_cons, List.filterMap_nil, List.getElem?_cons_zero, List.getElem?_cons_succ]
    go_wp2_with fail
    refine ⟨⟨?_, ?_⟩⟩
    · go_wp2_with fail
      refine ⟨?_⟩
      go_wp2_with fail
      refine qh.mono ?_
      rintro v w4 ⟨rfl, hw4⟩
      subst w4
      go_wp2_with fail
      refine ⟨?_⟩
      go_wp2_with fail
      refine ⟨?_⟩
      refine ⟨by kernel_rfl, ?_⟩
      go_wp2_with fail
      go_meet
      exact HE2.out.2
    · go_wp2_with fail
      refine qh.mono ?_
      rintro v w4 ⟨rfl, hw4⟩
      subst w4
      go_wp2_with fail
      refine ⟨?_⟩
      go_wp2_with fail
      refine ⟨?_⟩
      refine ⟨by kernel_rfl, ?_⟩
      go_wp2_with fail
      go_meet
      exact HE2.out.2
  case rest =>
    clear qh c15 hz g2 g3 g4 heg HE2 hgl cv hv xv ev col eb ek
    have E3 := Em.same hcut ((Fr.refl _ _).drew)
    clear hcut
    obtain ⟨cv, hv, xv, ev, col, H⟩ := E3.1
    have c12 : wc.drew.cell? ⟨G.g, 12, none⟩ = some cv := H.cl (o := 12) (by omega)
    have hgl : G.g < wc.drew.heap.size := H.glt
    have hz := H.blk.frozen
    have K3 := E3.blk K hnP
    have k2 : wc.drew.cell? ⟨fb, 2, none⟩ = some (.int .i64 (rpi : Nat)) := K3.cell (by omega)
    have k3 : wc.drew.cell? ⟨fb, 3, none⟩ = some (.int .i64 (rpr : Nat)) := K3.cell (by omega)
    have k4 : wc.drew.cell? ⟨fb, 4, none⟩ = some (.int .i64 (rli : Nat)) := K3.cell (by omega)
    have k5 : wc.drew.cell? ⟨fb, 5, none⟩ = some (.int .i64 (rlr : Nat)) := K3.cell (by omega)
    have kl : fb < wc.drew.heap.size := K3.lt
    have kA := (Fr.refl (fun _ => False) wc.drew).alloc (.cells #[.int .u8 25, .int .u8 (rpi : Nat), .int .u8 (rpr : Nat), .int .u8 (rli : Nat), .int .u8 (rlr : Nat)] 5)
    have HA := H.same kA
    have hcode := HA.code
    have hm := made_bytes wc.drew [25, rpi, rpr, rli, rlr] #[.int .u8 25, .int .u8 (rpi : Nat), .int .u8 (rpr : Nat), .int .u8 (rli : Nat), .int .u8 (rlr : Nat)] rfl
    have Hh : Hid _ := And.intro HA (And.intro kA H.lt)
    have HE3 : Hid (True ∧ _) := ⟨trivial, E3⟩
    clear H HA kA K3 E3
    go_upto_region 2 with fail
    refine wp_region_text (by kernel_rfl) (by kernel_rfl) ?_
    go_wp2_with (
      at_builtin
      refine wpList_appB (by rfl) _ _ (by rfl) _ _ [25, rpi, rpr, rli, rlr] _ 5 5 (by rfl) (by rfl) rfl hcode hm (by simp) (by simp; omega) ?_
      intro v' w8 hc5 hb5 f5
      obtain ⟨va, vc, hvv, _⟩ := hc5.sl
      simp only [List.length_append, List.length_cons, List.length_nil, Nat.zero_add, Nat.reduceAdd] at hvv
      subst hvv
      have hcm := Hh.out.1.blk.frame f5 Hh.out.1.cne
      have cm1 := hcm.cell (o := 12) (by omega)
      have cml := hcm.lt
      have cmz := hcm.frozen
      have Hc5 : Hid _ := And.intro hc5 (And.intro hb5 f5)
      clear hc5 hb5 f5 hcm)
    refine ⟨by kernel_rfl, ?_⟩
    go_upto_region 3 with fail
    obtain ⟨hc5, hb5, f5⟩ := Hc5.out
    have key := Hh.out.1.setC f5 hc5 hb5 hc5.lt (by simp)
    have E4 := HE3.out.2.then (e := .returned (.tuple #[])) (EmR.pre Hh.out.2.2 Hh.out.2.1 ⟨rfl, key⟩)
    clear key hc5 hb5 f5 Hc5 hcode hm HE3 Hh
    obtain ⟨w4, hw4⟩ : ∃ w4, w4 = w8.setCell ⟨G.g, 12, none⟩ (.slice va (B.code.length + 5) vc) := ⟨_, rfl⟩
    rw [← hw4] at E4
    rw [← hw4]
    clear hw4 cm1 cml cmz c12 hgl hz k2 k3 k4 k5 kl
    have k0 : w4.cell? ⟨fb, 0, none⟩ = some (.int .i64 (kn : Nat)) := (E4.blk K hnP).cell (by omega)
    have kl := (E4.blk K hnP).lt
    have q := nodeG E4.1 (Go.Proofs.Qxb6500277aGreat.Cv.em C2 E4) a2
    have Ha3 : Hid _ := a3
    clear a3
    go_wp2_with fail
    refine q.mono ?_
    rintro v w5 ⟨rfl, f5⟩
    clear q
    have E6 := E4.same (f5.alloc (.cells #[.int .i64 nd.kind, .int .i64 nd.a, .int .i64 nd.b, .int .i64 nd.c, .int .i64 nd.nx, .int .i64 nd.val, .int .i64 nd.pos, .string nd.name] 145))
    have Kn := ndC_blk w5 nd
    unfold ndV
    go_upto_region 4 with fail
    obtain ⟨hb, hhb⟩ : ∃ hb, hb = w5.heap.size := ⟨_, rfl⟩
    obtain ⟨w6, hw6⟩ : ∃ w6, w6 = w5.alloc (.cells #[.int .i64 nd.kind, .int .i64 nd.a, .int .i64 nd.b, .int .i64 nd.c, .int .i64 nd.nx, .int .i64 nd.val, .int .i64 nd.pos, .string nd.name] 145) := ⟨_, rfl⟩
    rw [← hw6] at E6 Kn
    rw [← hhb] at Kn
    rw [← hw6, ← hhb]
    clear hw6 hhb f5 E4 k0 kl
    have h2 : w6.cell? ⟨hb, 2, none⟩ = some (.int .i64 nd.b) := Kn.cell (by omega)
    rw [Ha3.out] at h2
    have hbl := Kn.lt
    have q := blkG (G := { G with li := rli, lr := rlr }) ⟨by simp only []; omega, by simp only []; omega, hfn⟩ (ret := rr) ss Tb E6.1 (Go.Proofs.Qxb6500277aGreat.Cv.em C2 E6) Lb a4 Wb (by simp only [List.length_append, List.length_cons, List.length_nil]; omega)
    simp only [] at q
    clear Kn
    go_wp2_with fail
    refine q.mono ?_
    rintro v w7 ⟨rfl, hE⟩
    have E7 := E6.then (e := .returned (.tuple #[])) ⟨rfl, hE⟩
    clear hE q E6 h2 hbl
    have k1 : w7.cell? ⟨fb, 1, none⟩ = some (.int .i64 rr) := (E7.blk K hnP).cell (by omega)
    have kl := (E7.blk K hnP).lt
    have hlen7 : (addSs G.P0 { B with code := B.code ++ [25, rpi, rpr, rli, rlr], entry := B.entry.set i (B.code.length : Nat) } bb ss).code.length = B.code.length + 5 + nSs ss := by rw [addSs_len]; simp
    have Hl7 : Hid _ := hlen7
    clear hlen7
    by_cases hr : 2 ≤ rr
    · have z : decide (rr ≥ 2) = true := decide_eq_true hr
      have z2 : decide (2 ≤ rr) = true := decide_eq_true hr
      have q := opF E7.1 7 (by omega) (by rw [Hl7.out]; omega)
      go_wp2_with fail
      refine q.mono ?_
      rintro v w8 ⟨rfl, hE⟩
      have E8 := E7.then (e := .returned (.tuple #[])) ⟨rfl, hE⟩
      clear hE q
      have k1' : w8.cell? ⟨fb, 1, none⟩ = some (.int .i64 rr) := (E8.blk K hnP).cell (by omega)
      have kl' := (E8.blk K hnP).lt
      have q := classF rr 26 27 w8
      go_wp2_with fail
      refine q.mono ?_
      rintro v w9 ⟨rfl, hw9⟩
      subst w9
      clear q
      have q := opF E8.1 (clsO rr 26 27) (clsO_lt (by omega) (by omega)) (by rw [List.length_append, Hl7.out]; simp; omega)
      go_wp2_with fail
      refine q.mono ?_
      rintro v w9 ⟨rfl, hE⟩
      have E9 := E8.then (e := .returned (.tuple #[])) ⟨rfl, hE⟩
      clear hE q
      go_wp2_with fail
      go_end0
      refine EmR.pre Hs.out.1 Hs.out.2.1 (B := addF G.P0 B i _) ?_
      have e9 : clsO rr 26 27 = 27 := by unfold clsO; rw [if_pos hr]
      rw [e9] at E9
      refine Em.ret ?_
      simpa [addF, cF, addSs, tailC, hr] using E9
    · have z : decide (rr ≥ 2) = false := decide_eq_false hr
      have z2 : decide (2 ≤ rr) = false := decide_eq_false hr
      have q := numF E7.1 0 (by rw [Hl7.out]; omega)
      go_wp2_with fail
      refine q.mono ?_
      rintro v w8 ⟨rfl, hE⟩
      have E8 := E7.then (e := .returned (.tuple #[])) ⟨rfl, hE⟩
      clear hE q
      have k1' : w8.cell? ⟨fb, 1, none⟩ = some (.int .i64 rr) := (E8.blk K hnP).cell (by omega)
      have kl' := (E8.blk K hnP).lt
      have q := classF rr 26 27 w8
      go_wp2_with fail
      refine q.mono ?_
      rintro v w9 ⟨rfl, hw9⟩
      subst w9
      clear q
      have q := opF E8.1 (clsO rr 26 27) (clsO_lt (by omega) (by omega)) (by rw [List.length_append, Hl7.out]; simp [i64b]; omega)
      go_wp2_with fail
      refine q.mono ?_
      rintro v w9 ⟨rfl, hE⟩
      have E9 := E8.then (e := .returned (.tuple #[])) ⟨rfl, hE⟩
      clear hE q
      go_wp2_with fail
      go_end0
      refine EmR.pre Hs.out.1 Hs.out.2.1 (B := addF G.P0 B i _) ?_
      have hr' : ¬ 2 ≤ rr := by omega
      have e9 : clsO rr 26 27 = 26 := by unfold clsO; rw [if_neg hr']
      rw [e9] at E9
      refine Em.ret ?_
      simpa [addF, cF, addSs, tailC, hr'] using E9
end Go.Proofs.Qxb6500277aGreat
