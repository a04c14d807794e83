/- The real checker: all heads. -/
import Derived.Test.Qxb6500277aGreatCB2
namespace Go.Proofs.Qxb6500277aGreat
open Go Go.RowKit

section
variable {w w' : World} {A : Ca} {X : Cx} {cur : Nat} {s : Ck} {er po : Int} {n : Nat}
theorem RowP'.add {c n : Nat} {l : List Int} {f0 : Nat → Value} (B : Blk w c 420 f0) (h : RowP' w c n l) (hl : l.length < 4) (hn : n < 8) {k : Nat} (hk : k = n * 4 + l.length) (t : Int) : RowP' (w.setCell ⟨c, 382 + k, none⟩ (.int .i64 t)) c n (l ++ [t]) := by
  subst hk
  intro j hj
  simp only [List.length_append, List.length_singleton] at hj
  rw [(B.set (382 + (n * 4 + l.length)) (.int .i64 t)).cell (by omega)]
  by_cases e : j < l.length
  · rw [upd_other _ _ _ _ (by omega)]
    have := h j e
    rw [B.cell (by omega)] at this
    rw [this]
    simp [List.getD_eq_getElem?_getD, List.getElem?_append_left e]
  · obtain rfl : j = l.length := by omega
    rw [upd_same]
    simp [List.getD_eq_getElem?_getD]
theorem RowP'.frame {S : Nat → Prop} {c n : Nat} {l : List Int} (h : RowP' w c n l) (k : Fr S w w') (hc : ¬ S c) (hl : c < w.heap.size) : RowP' w' c n l := fun j hj => by rw [k.cell (p := ⟨c, _, none⟩) hl hc]; exact h j hj
set_option maxRecDepth 100000 in
set_option maxHeartbeats 8000000 in
theorem headsC (H : CM w A ⟨[], []⟩ 0 s 0 0) {gs : List Fnc} (hO : ∀ f ∈ gs, OkF f) (L : Lie A.ns 0 (flFs 0 gs)) : Calls Tryz.prog 64 #[.pointer (some ⟨A.c, 0, none⟩), .int .i64 (hdF 0 gs)] w (CH w A s (ckH 0 gs ⟨[], []⟩)) := by
  have h200 := H.le
  have hl0 : s.lim = [] := by have := H.lim; simpa using this
  have es : { s with lim := List.replicate 0 (0, 0) } = s := by simp [← hl0]
  have H0 : CM w A ⟨[], []⟩ 0 { s with lim := List.replicate 0 (0, 0) } 0 0 := by rw [es]; exact H
  clear H hl0 es
  go_enter Tryz.func64, Tryz.ntmps64
  go_wp2_with fail
  go_loopg [5] gs.length (fun g xv wr => ∃ (b' : Nat) (fs : List Fnc) (X : Cx), xv = .int .i64 (hdF b' fs) ∧ fs.length ≤ g ∧ Lie A.ns b' (flFs b' fs) ∧ (∀ f ∈ fs, OkF f) ∧ CM wr A X 0 { s with lim := List.replicate X.fs.length (0, 0) } 0 0 ∧ Fr (CS A) w wr ∧ ckH 0 gs ⟨[], []⟩ = ckH b' fs X)
  case atStart => exact ⟨0, gs, ⟨[], []⟩, rfl, Nat.le_refl _, L, hO, H0, Fr.refl _ _, rfl⟩
  case round =>
    clear H0 L hO
    obtain ⟨b', fs, X, rfl, hg, L, hO, C, F, hE⟩ := hrel
    obtain ⟨r0, r161, r162, r163, r164, r325, r414, r416, r417, r418, r419, hz⟩ := C.regs
    obtain ⟨hlt, hlt2, hlt3⟩ := C.blt
    cases fs with
    | nil =>
      rw [show hdF b' [] = -1 from rfl]
      have z0 : decide ((-1 : Int) ≥ 0) = false := by decide
      have HE : Hid (ckH 0 gs ⟨[], []⟩ = .ok X) := by show _ = _; rw [hE]; simp only [ckH]
      clear hE
      go_wp2_with fail
      go_ret
      exact CH.ok HE.out F C
    | cons f r =>
      obtain ⟨La, Lb⟩ := L.fns
      obtain ⟨Lp, Ls, hnB, hnF⟩ := La.fn
      obtain ⟨ok1, ok2, ok3⟩ := hO f (List.mem_cons_self ..)
      obtain ⟨J, hJ⟩ : ∃ J, J = b' + szF f - 1 := ⟨_, rfl⟩
      rw [show hdF b' (f :: r) = rtF b' f from rfl]
      rw [rtF_nat, ← hJ]
      rw [← hJ] at hnF
      obtain ⟨hk, hnb, r415, n0, n1, n2, n3, n4, n5, n6, n7, n8⟩ := C.node hnF
      try simp only at n0 n1 n2 n3 n4 n5 n6 n7 n8
      have hJi : (J : Int) < A.ns.length := by omega
      have hJ0 : decide ((J : Int) ≥ 0) = true := decide_eq_true (by omega)
      have hE2 : ckH 0 gs ⟨[], []⟩ = if 8 ≤ X.fs.length then .bad 19 f.p else if fndF f.s X.fs ≠ none then .bad 13 f.p else match f.ps[4]? with | some q => .bad 19 q.p | none => ckH (b' + szF f) r ⟨X.fs ++ [⟨rtF b' f, f.t, cI (f.ps.map (·.t)), cR (f.ps.map (·.t)), f.s⟩], X.pt ++ [f.ps.map (·.t)]⟩ := by
        rw [hE]; simp only [ckH]; rfl
      have HR : Hid (Lie A.ns (b' + szF f) (flFs (b' + szF f) r) ∧ (∀ f ∈ r, OkF f) ∧ r.length + 1 ≤ gk) := ⟨Lb, fun f hf => hO f (List.mem_cons_of_mem _ hf), hg⟩
      have Hnn : Hid _ := hnF
      have hrt : Hid (rtF b' f = (J : Nat)) := by show _ = _; rw [rtF_nat, ← hJ]
      clear hE La Lb L hO hg hJ ok3 Ls hnB hnF
      by_cases h8 : 8 ≤ X.fs.length
      · have z1 : decide (((X.fs.length : Nat) : Int) ≥ 8) = true := decide_eq_true (by omega)
        rw [if_pos h8] at hE2
        have HE : Hid (_ = _) := hE2
        have hN := failC C 19 f.p
        clear hE2 h8
        go_wp2_with fail
        refine hN.mono ?_
        rintro v w3 ⟨rfl, C3, k3⟩
        go_wp2_with fail
        go_ret
        exact CH.bad HE.out (F.trans k3 (fun _ _ h => h)) (by decide) C3
      · have z1 : decide (((X.fs.length : Nat) : Int) ≥ 8) = false := decide_eq_false (by omega)
        have z1' : decide (8 ≤ X.fs.length) = false := decide_eq_false h8
        rw [if_neg h8] at hE2
        have hF := fun n => (C.drewN n).findF n8
        have hx8 : X.fs.length < 8 := by omega
        clear h8
        go_wp2_with fail
        go_quiet (first | (go_at_call 67; refine Calls.quiet_of (hF _)))
        cases hf : fndF f.s X.fs with
        | some e =>
          rw [hf, if_pos (by simp)] at hE2
          have HE : Hid (_ = _) := hE2
          rw [show oi (some e) = (e : Int) from rfl]
          have z2 : decide ((e : Int) ≥ 0) = true := decide_eq_true (by omega)
          have HC : Hid (CM wr A X 0 _ 0 0) := C
          clear hE2 hf hF C
          go_wp2_with fail
          generalize hw0 : wr.drewN _ = w0
          have C2 := HC.out.same (w' := w0) (hw0 ▸ (Fr.refl _ _).drewN _)
          have F2 : Fr (CS A) w w0 := F.trans (hw0 ▸ CS_drewN _) (fun _ _ h => h)
          refine (failC C2 13 f.p).mono ?_
          rintro v w3 ⟨rfl, C3, k3⟩
          go_wp2_with fail
          go_ret
          exact CH.bad HE.out (F2.trans k3 (fun _ _ h => h)) (by decide) C3
        | none =>
          rw [hf, if_neg (by simp)] at hE2
          have HE : Hid (_ = _) := hE2
          rw [show oi none = -1 from rfl]
          have z2 : decide ((-1 : Int) ≥ 0) = false := by decide
          have Hf : Hid (_ = _) := hf
          have HC : Hid (CM wr A X 0 _ 0 0) := C
          clear hE2 hf hF C
          go_wp2_with fail
          generalize hw0 : wr.drewN _ = w0
          have C2 := HC.out.same (w' := w0) (hw0 ▸ (Fr.refl _ _).drewN _)
          have F2 : Fr (CS A) w w0 := F.trans (hw0 ▸ CS_drewN _) (fun _ _ h => h)
          clear HC F hw0 r0 r161 r162 r163 r164 r325 r414 r416 r417 r418 r419 hz hlt hlt2 hlt3 hnb r415 n0 n1 n2 n3 n4 n5 n6 n7
          obtain ⟨_, hnb, r415, n0, n1, n2, n3, n4, n5, n6, n7, n8⟩ := C2.node Hnn.out
          try simp only at n0 n1 n2 n3 n4 n5 n6 n7 n8
          obtain ⟨hlt, hlt2, hlt3⟩ := C2.blt
          have HC : Hid (CM w0 A X 0 _ 0 0 ∧ Fr (CS A) w w0) := ⟨C2, F2⟩
          clear C2 F2
          have BX : Blk ((w0.alloc (.cells #[.int .i64 (J : Nat), .int .i64 f.t, .int .i64 0, .int .i64 0, .int .i64 0, .int .i64 0, .string f.s] 109)).drew) w0.heap.size 7 (fBox J f.t 0 0 f.s) := Blk.drew (Blk.new w0 _ _ _ fun o ho => by
            have ho : o < 7 := ho
            rcases lt7c ho with rfl | rfl | rfl | rfl | rfl | rfl | rfl <;> rfl)
          have FX : Fr (fun _ => False) w0 ((w0.alloc (.cells #[.int .i64 (J : Nat), .int .i64 f.t, .int .i64 0, .int .i64 0, .int .i64 0, .int .i64 0, .string f.s] 109)).drew) := ((Fr.refl _ _).alloc _).drew
          have HX : Hid (_ ∧ _) := ⟨BX, FX⟩
          have HD : Hid (w0.heap.size ≠ A.c ∧ w0.heap.size ≠ A.nb ∧ w0.heap.size ≠ A.tb ∧ w0.heap.size ≠ A.rb) := ⟨by omega, by omega, by omega, by omega⟩
          have HB0 : Hid (w.heap.size ≤ w0.heap.size) := HC.out.2.size
          obtain ⟨fb, hfb⟩ : ∃ fb, w0.heap.size = fb := ⟨_, rfl⟩
          clear BX FX
          rw [hfb] at hlt hlt2 hlt3 hnb
          refine wp_region_text (by kernel_rfl) (by kernel_rfl) ?_
          go_wp2_with fail
          refine ⟨by kernel_rfl, ?_⟩
          go_wp2_with fail
          generalize hw1 : World.drew _ = w1
          have B1 : Blk w1 w0.heap.size 7 (fBox J f.t 0 0 f.s) := by rw [← hw1]; exact HX.out.1
          have F1 : Fr (fun _ => False) w0 w1 := by rw [← hw1]; exact HX.out.2
          have HC1 : Hid (CM w1 A X 0 { s with lim := List.replicate X.fs.length (0, 0) } 0 0 ∧ Fr (CS A) w w1 ∧ Blk w1 fb 7 (fBox J f.t 0 0 f.s)) := ⟨HC.out.1.same F1, HC.out.2.trans F1 (fun _ _ h => h.elim), by rw [← hfb]; exact B1⟩
          rw [hfb] at HD HB0
          clear HC HX hw1 B1 F1 hfb hnb r415 n0 n1 n2 n3 n4 n5 n6 n7 hlt hlt2 hlt3
          go_loopg [7] f.ps.length (fun g qv wq => ∃ (x' : Nat) (pre ps : List Prm) (pi pr : Nat), qv = .int .i64 (hdP x' ps) ∧ ps.length ≤ g ∧ f.ps = pre ++ ps ∧ pre.length ≤ 4 ∧ cI (pre.map (·.t)) = pi ∧ cR (pre.map (·.t)) = pr ∧ Lie A.ns x' (flP x' ps) ∧ CM wq A X 0 { s with lim := List.replicate X.fs.length (0, 0) } 0 0 ∧ Fr (CS A) w wq ∧ Blk wq fb 7 (fBox J f.t pi pr f.s) ∧ RowP' wq A.c X.fs.length (pre.map (·.t)))
          case atStart => exact ⟨b', [], f.ps, 0, 0, rfl, Nat.le_refl _, rfl, by simp, rfl, rfl, Lp, HC1.out.1, HC1.out.2.1, HC1.out.2.2, fun k hk => by simp at hk⟩
          case round =>
            clear HC1 Lp
            obtain ⟨x', pre, ps, pi, pr, rfl, hpg, hps, hp4, hpi, hpr, Lp, C, F, BX, hrow⟩ := hrel
            have hsum := cIR (pre.map (·.t))
            rw [hpi, hpr, List.length_map] at hsum
            have b0 := BX.cell (o := 0) (by omega)
            have b1 := BX.cell (o := 1) (by omega)
            have b2 := BX.cell (o := 2) (by omega)
            have b3 := BX.cell (o := 3) (by omega)
            have b4 := BX.cell (o := 4) (by omega)
            have b5 := BX.cell (o := 5) (by omega)
            have b6 := BX.cell (o := 6) (by omega)
            simp only [fBox] at b0 b1 b2 b3 b4 b5 b6
            have bz := BX.frozen
            have bl := BX.lt
            have hpi4 : pi ≤ 4 := by omega
            have hpr4 : pr ≤ 4 := by omega
            obtain ⟨y1, y2, y3, y4⟩ := HD.out
            obtain ⟨r0, r161, r162, r163, r164, r325, r414, r416, r417, r418, r419, hz⟩ := C.regs
            obtain ⟨hlt, hlt2, hlt3⟩ := C.blt
            cases ps with
            | nil =>
              rw [show hdP x' [] = -1 from rfl]
              have z3 : decide ((-1 : Int) ≥ 0) = false := by decide
              obtain ⟨f0, q1, q2, q3, q4, q5⟩ := C.blk
              obtain ⟨d1, d2, d3, d4, d5, d6⟩ := C.dis
              have hp0 : f.ps = pre := by rw [hps]; simp
              have hno : f.ps[4]? = none := List.getElem?_eq_none (by rw [hp0]; exact hp4)
              rw [hno] at HE
              simp only at HE
              have hrow' : ∀ k, k < (pre.map (·.t)).length → f0 (382 + (X.fs.length * 4 + k)) = .int .i64 ((pre.map (·.t)).getD k 0) := fun k hk => by
                have h1 := hrow k hk
                rw [List.length_map] at hk
                rw [q1.cell (by omega)] at h1
                injection h1
              obtain ⟨f1, B1, g0, g1, g2, g3, g4, g5, g6, e1⟩ := q1.set7 (326 + X.fs.length * 7) (.int .i64 (J : Nat)) (.int .i64 f.t) (.int .i64 pi) (.int .i64 pr) (.int .i64 0) (.int .i64 0) (.string f.s)
              have F1 := (Fr.refl (fun b => b = A.c) wr).set7 (c := A.c) rfl (326 + X.fs.length * 7) (.int .i64 (J : Nat)) (.int .i64 f.t) (.int .i64 pi) (.int .i64 pr) (.int .i64 0) (.int .i64 0) (.string f.s)
              have a0 := q1.cell (o := 326 + X.fs.length * 7) (by omega)
              have a1 := q1.cell (o := 326 + X.fs.length * 7 + 1) (by omega)
              have a2 := q1.cell (o := 326 + X.fs.length * 7 + 2) (by omega)
              have a3 := q1.cell (o := 326 + X.fs.length * 7 + 3) (by omega)
              have a4 := q1.cell (o := 326 + X.fs.length * 7 + 4) (by omega)
              have a5 := q1.cell (o := 326 + X.fs.length * 7 + 5) (by omega)
              have a6 := q1.cell (o := 326 + X.fs.length * 7 + 6) (by omega)
              have H1 : Hid (_ ∧ _) := ⟨B1.drew, F1.drew⟩
              have HA := And.intro C (And.intro q2 (And.intro q3 (And.intro q4 (And.intro q5 (And.intro hrow' (And.intro F (And.intro hp4 (And.intro hp0 (And.intro hpi hpr)))))))))
              have HA2 : Hid _ := HA
              clear HA C q2 q3 q4 q5 hrow' F hp4 hps hp0 hpi hpr hrow hno q1 B1 F1 hsum hpg Lp
              go_wp2_with fail
              refine wp_region_text (by kernel_rfl) (by kernel_rfl) ?_
              go_wp2_with fail
              refine ⟨by kernel_rfl, ?_⟩
              go_wp2_with fail
              generalize hw2 : World.drew _ = w2
              have B2 : Blk w2 A.c 420 f1 := by rw [← hw2]; exact H1.out.1
              have F2 : Fr (fun b => b = A.c) wr w2 := by rw [← hw2]; exact H1.out.2
              obtain ⟨C, q2, q3, q4, q5, hrow', F, hp4, hp0, hpi, hpr⟩ := HA2.out
              have T2 : Tab f1 165 (nmV X.fs) := q2.tf.congr fun k k1 k2 => e1 k (by omega)
              have P := pushT B2.drew T2 (by omega) (by rw [nmV_len]; omega) ⟨f.s, 0, 0, 0⟩ (by show f.s.size ≤ 4096; omega) 0 0 rfl rfl
              have b6' : w2.cell? ⟨fb, 6, none⟩ = some (.string f.s) := by rw [F2.cell (p := ⟨fb, 6, none⟩) bl y1]; exact b6
              have y7 := B2.lt
              have y8 : fb < w2.heap.size := Nat.lt_of_lt_of_le bl F2.size
              have HF2 : Hid _ := F2
              have HE1 := And.intro g0 (And.intro g1 (And.intro g2 (And.intro g3 (And.intro g4 (And.intro g5 (And.intro g6 e1))))))
              have HE1' : Hid _ := HE1
              clear hw2 H1 HE1 g0 g1 g2 g3 g4 g5 g6 e1 a0 a1 a2 a3 a4 a5 a6 B2 T2 F2 C q2 q3 q4 q5 hrow' F hp4 hp0 hpi hpr b0 b1 b2 b3 b4 b5 b6 bz bl r0 r161 r162 r163 r164 r325 r414 r416 r417 r418 r419 hz hlt hlt2 hlt3
              refine wp_region_text (by kernel_rfl) (by kernel_rfl) ?_
              go_wp2_with fail
              refine P.mono ?_
              rintro v w3 ⟨rfl, ⟨f2, B3, T3, e4⟩, F3⟩
              clear P
              obtain ⟨C, q2, q3, q4, q5, hrow', F, hp4, hp0, hpi, hpr⟩ := HA2.out
              obtain ⟨g0, g1, g2, g3, g4, g5, g6, e1⟩ := HE1'.out
              have F3' : Fr (fun b => b = A.c) wr w3 := (HF2.out.drew).trans F3 (fun _ _ h => h)
              have hl4 : (f.ps.map (·.t)).length ≤ 4 := by rw [List.length_map, hp0]; exact hp4
              have hxo := XOk.add C.xok hx8 (h0 := ⟨rtF b' f, f.t, cI (f.ps.map (·.t)), cR (f.ps.map (·.t)), f.s⟩) (p := f.ps.map (·.t)) hl4 rfl rfl ok1 (by show 0 ≤ rtF b' f ∧ rtF b' f < _; rw [hrt.out]; omega) (by show f.s.size ≤ 8; omega) Hf.out
              have R := CM.addF (h0 := ⟨rtF b' f, f.t, cI (f.ps.map (·.t)), cR (f.ps.map (·.t)), f.s⟩) (l := f.ps.map (·.t)) C hx8 q2 q3 q4 q5 (by rw [g0]; show _ = Value.int .i64 (rtF b' f); rw [hrt.out]) g1 (by rw [g2, hp0, hpi]) (by rw [g3, hp0, hpr]) g4 g5 g6 e1 T3 e4 (by rw [hp0]; exact hrow') F3' B3 hxo C.xok.pl hl4
              have HN : Hid (CM w3 A ⟨X.fs ++ [⟨rtF b' f, f.t, cI (f.ps.map (·.t)), cR (f.ps.map (·.t)), f.s⟩], X.pt ++ [f.ps.map (·.t)]⟩ 0 { s with lim := List.replicate (X.fs ++ [(⟨rtF b' f, f.t, cI (f.ps.map (·.t)), cR (f.ps.map (·.t)), f.s⟩ : Fh)]).length (0, 0) } 0 0 ∧ Fr (CS A) w w3) := by
                refine ⟨?_, F.trans (F3'.mono (S' := CS A) (fun _ _ h => .inl h)) (fun _ _ h => h)⟩
                rw [List.length_append, List.length_singleton, List.replicate_succ']
                exact R
              obtain ⟨_, hnb, r415, n0, n1, n2, n3, n4, n5, n6, n7, _⟩ := HN.out.1.node Hnn.out
              try simp only at n0 n1 n2 n3 n4 n5 n6 n7
              have hlt := HN.out.1.blt.1
              clear R hxo C q2 q3 q4 q5 hrow' F hp4 hp0 hpi hpr g0 g1 g2 g3 g4 g5 g6 e1 B3 T3 e4 F3 F3' hl4
              go_wp2_with fail
              refine ⟨by kernel_rfl, ?_⟩
              go_wp2_with fail
              go_roundg r.length
              case measure => have := HR.out.2.2; omega
              case rel => exact ⟨b' + szF f, r, _, rfl, Nat.le_refl _, HR.out.1, HR.out.2.1, HN.out.1, HN.out.2, HE.out⟩
            | cons q ps =>
              obtain ⟨hnq, Lq⟩ := Lp.prm
              rw [show hdP x' (q :: ps) = (x' : Nat) from rfl]
              have z3 : decide ((x' : Int) ≥ 0) = true := decide_eq_true (by omega)
              obtain ⟨hxl, hnb, r415, n0, n1, n2, n3, n4, n5, n6, n7, n8'⟩ := C.node hnq
              try simp only at n0 n1 n2 n3 n4 n5 n6 n7 n8'
              have hxi : (x' : Int) < A.ns.length := by omega
              by_cases h4 : 4 ≤ pre.length
              · have z4 : decide ((pi : Int) + (pr : Int) ≥ 4) = true := decide_eq_true (by omega)
                have h45 : f.ps[4]? = some q := by rw [hps, List.getElem?_append_right (by omega), show 4 - pre.length = 0 by omega]; rfl
                rw [h45] at HE
                have hN := failC C 19 q.p
                clear hps h4 h45 C hpi hpr hsum
                go_wp2_with fail
                refine hN.mono ?_
                rintro v w3 ⟨rfl, C3, k3⟩
                go_wp2_with fail
                go_ret
                exact CH.bad HE.out (F.trans k3 (fun _ _ h => h)) (by decide) C3
              · have z4 : decide ((pi : Int) + (pr : Int) ≥ 4) = false := decide_eq_false (by omega)
                have hpp : pi + pr < 4 := by omega
                obtain ⟨f0, q1, _⟩ := C.blk
                have cpt := q1.cell (o := 382 + (X.fs.length * 4 + pi + pr)) (by omega)
                obtain ⟨d1, d2, d3, d4, d5, d6⟩ := C.dis
                have d1' : A.nb ≠ A.c := fun e => d1 e.symm
                clear z2
                by_cases ht : 2 ≤ q.t
                · have z5 : decide (q.t ≥ 2) = true := decide_eq_true ht
                  have HI : Hid (cI ((pre ++ [q]).map (·.t)) = pi ∧ cR ((pre ++ [q]).map (·.t)) = pr + 1) := by
                    show _ ∧ _
                    rw [List.map_append, cI_app, cR_app, hpi, hpr]
                    simp only [List.map_cons, List.map_nil]
                    rw [cI_one, cR_one, if_pos ht, if_pos ht]
                    exact ⟨rfl, rfl⟩
                  obtain ⟨P1, P2⟩ := C.setPt hx8 (o := 382 + (X.fs.length * 4 + pi + pr)) (by omega) (by omega) q.t
                  have R1 := hrow.add q1 (by simp; omega) hx8 (k := X.fs.length * 4 + pi + pr) (by rw [List.length_map]; omega) q.t
                  have BY := (BX.setOther ⟨A.c, 382 + (X.fs.length * 4 + pi + pr), none⟩ (.int .i64 q.t) (by exact y1)).drew
                  have BZ := (BY.set 3 (.int .i64 ((pr : Int) + 1))).congr (fun o ho => fBox_pr _ _ _ _ _ o ho)
                  have FZ := ((Fr.refl (fun b => b = fb) (World.drew (World.setCell wr ⟨A.c, 382 + (X.fs.length * 4 + pi + pr), none⟩ (.int .i64 q.t)))).setC fb 3 (.int .i64 ((pr : Int) + 1)) (fun _ => rfl))
                  have P3 := (P1.same ((Fr.refl _ _).drew)).frame FZ (fun e => y1 e.symm) (fun _ e => y2 e.symm) (fun e => y3 e.symm) (fun e => y4 e.symm)
                  have R2 := (R1.frame ((Fr.refl (fun _ => False) _).drew) (fun h => h) (by simp; exact hlt)).frame FZ (fun e => y1 e.symm) (by simp; exact hlt)
                  have P4 := ((F.trans P2 (fun _ _ h => h)).drew).trans FZ (fun c hc e => absurd hc (Nat.not_lt.2 (by rw [e]; exact HB0.out)))
                  have HP := And.intro P3 (And.intro P4 (And.intro BZ R2))
                  have HP2 : Hid _ := HP
                  have HS : Hid (f.ps = (pre ++ [q]) ++ ps ∧ pre.length < 4 ∧ ps.length + 1 ≤ gk) := ⟨by rw [hps]; simp, by omega, hpg⟩
                  have HL : Hid _ := Lq
                  clear P1 P2 P3 P4 R1 R2 BY BZ FZ HP q1 C F BX hrow hps hp4 hpi hpr hsum hpg Lq Lp h4 ht
                  go_wp2_with fail
                  refine wp_region_text (by kernel_rfl) (by kernel_rfl) ?_
                  go_wp2_with fail
                  refine ⟨by kernel_rfl, ?_⟩
                  go_wp2_with fail
                  go_roundg ps.length
                  case measure => have := HS.out; omega
                  case rel => exact ⟨x' + 1, pre ++ [q], ps, pi, pr + 1, rfl, Nat.le_refl _, HS.out.1, by have := HS.out; simp; omega, HI.out.1, HI.out.2, HL.out, HP2.out.1, HP2.out.2.1, HP2.out.2.2.1, by have := HP2.out.2.2.2; rw [List.map_append]; exact this⟩
                · have z5 : decide (q.t ≥ 2) = false := decide_eq_false ht
                  have HI : Hid (cI ((pre ++ [q]).map (·.t)) = pi + 1 ∧ cR ((pre ++ [q]).map (·.t)) = pr) := by
                    show _ ∧ _
                    rw [List.map_append, cI_app, cR_app, hpi, hpr]
                    simp only [List.map_cons, List.map_nil]
                    rw [cI_one, cR_one, if_neg ht, if_neg ht]
                    exact ⟨rfl, rfl⟩
                  obtain ⟨P1, P2⟩ := C.setPt hx8 (o := 382 + (X.fs.length * 4 + pi + pr)) (by omega) (by omega) q.t
                  have R1 := hrow.add q1 (by simp; omega) hx8 (k := X.fs.length * 4 + pi + pr) (by rw [List.length_map]; omega) q.t
                  have BY := (BX.setOther ⟨A.c, 382 + (X.fs.length * 4 + pi + pr), none⟩ (.int .i64 q.t) (by exact y1)).drew
                  have BZ := (BY.set 2 (.int .i64 ((pi : Int) + 1))).congr (fun o ho => fBox_pi _ _ _ _ _ o ho)
                  have FZ := ((Fr.refl (fun b => b = fb) (World.drew (World.setCell wr ⟨A.c, 382 + (X.fs.length * 4 + pi + pr), none⟩ (.int .i64 q.t)))).setC fb 2 (.int .i64 ((pi : Int) + 1)) (fun _ => rfl))
                  have P3 := (P1.same ((Fr.refl _ _).drew)).frame FZ (fun e => y1 e.symm) (fun _ e => y2 e.symm) (fun e => y3 e.symm) (fun e => y4 e.symm)
                  have R2 := (R1.frame ((Fr.refl (fun _ => False) _).drew) (fun h => h) (by simp; exact hlt)).frame FZ (fun e => y1 e.symm) (by simp; exact hlt)
                  have P4 := ((F.trans P2 (fun _ _ h => h)).drew).trans FZ (fun c hc e => absurd hc (Nat.not_lt.2 (by rw [e]; exact HB0.out)))
                  have HP := And.intro P3 (And.intro P4 (And.intro BZ R2))
                  have HP2 : Hid _ := HP
                  have HS : Hid (f.ps = (pre ++ [q]) ++ ps ∧ pre.length < 4 ∧ ps.length + 1 ≤ gk) := ⟨by rw [hps]; simp, by omega, hpg⟩
                  have HL : Hid _ := Lq
                  clear P1 P2 P3 P4 R1 R2 BY BZ FZ HP q1 C F BX hrow hps hp4 hpi hpr hsum hpg Lq Lp h4 ht
                  go_wp2_with fail
                  refine wp_region_text (by kernel_rfl) (by kernel_rfl) ?_
                  go_wp2_with fail
                  refine ⟨by kernel_rfl, ?_⟩
                  go_wp2_with fail
                  go_roundg ps.length
                  case measure => have := HS.out; omega
                  case rel => exact ⟨x' + 1, pre ++ [q], ps, pi + 1, pr, rfl, Nat.le_refl _, HS.out.1, by have := HS.out; simp; omega, HI.out.1, HI.out.2, HL.out, HP2.out.1, HP2.out.2.1, HP2.out.2.2.1, by have := HP2.out.2.2.2; rw [List.map_append]; exact this⟩
end
end Go.Proofs.Qxb6500277aGreat
