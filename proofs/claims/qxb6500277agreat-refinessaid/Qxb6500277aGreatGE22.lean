/- The code generator: compile. -/
import Derived.Test.Qxb6500277aGreatGE21
namespace Go.Proofs.Qxb6500277aGreat
open Go Go.RowKit

theorem FxAt.get {w : World} {v : Value} {l : List (Nat × Nat)} (h : FxAt w v l) {i : Nat} (hi : i < l.length) : ∃ b c, v = .slice (some ⟨b, 0, none⟩) l.length c ∧ b < w.heap.size ∧ w.cell? ⟨b, i * 2, none⟩ = some (.int .i64 (l[i].1 : Nat)) ∧ w.cell? ⟨b, i * 2 + 1, none⟩ = some (.int .i64 (l[i].2 : Nat)) := by
  rcases h with ⟨_, rfl⟩ | ⟨b, cap, f, rfl, h1, h2, h3⟩
  · simp at hi
  · exact ⟨b, cap, rfl, h2.lt, by rw [h2.cell (by omega), (h3 i hi).1], by rw [h2.cell (by omega), (h3 i hi).2]⟩
theorem fills_len (en : Nat → Nat) : ∀ (l : List (Nat × Nat)) (C : List Nat), (fills en l C).length = C.length
  | [], _ => rfl
  | x :: l, C => by show (fills en l (fillL C x.1 (en x.2))).length = _; rw [fills_len en l, fillL_len]
theorem fills_take (en : Nat → Nat) (l : List (Nat × Nat)) (C : List Nat) {k : Nat} (h : k < l.length) : fills en (l.take (k + 1)) C = fillL (fills en (l.take k) C) l[k].1 (en l[k].2) := by
  rw [List.take_succ_eq_append_getElem h, fills_app]
  rfl
theorem enO_le (P : Pg) : ∀ (l : List Nat) (a i : Nat), enO P l a i ≤ a + sumF P l
  | [], _, _ => by simp [enO]
  | j :: l, a, i => by
    have := enO_le P l (a + nF (fiA P j)) i
    have e : sumF P (j :: l) = nF (fiA P j) + sumF P l := by simp [sumF]
    simp only [enO]
    split <;> omega
set_option maxRecDepth 100000 in
set_option maxHeartbeats 2000000 in
theorem compileG {g : Nat} {hd : Nat → Value} {P0 : Pg} {ns : List Nd} {rs : List FR} {w : World} {P : Nat → Prop} {B : Gb} {v t r f : Value} {root err pos : Int} {m : Nat} (h : GX w g P hd B) (A : AnsM w v t r f ns P0.ty P0.rf rs) (hb : ∀ b, inB4 v t r f b → b < w.heap.size ∧ ¬ P b) (htl : P0.ty.length = ns.length) (hrl : P0.rf.length = ns.length) (M : Cmp ⟨P0, hdC hd v root t r f m err pos, ns, rs, g, 0, 0⟩ m) : Calls Tryz.prog 46 #[.pointer (some ⟨g, 0, none⟩), chkV v root 0 0 t r f (m : Nat) err pos] w (EmR w g P (hdC hd v root t r f m err pos) ⟨codeP P0 m, [], fxL P0 (ordL P0.fns.length m) 0, (List.range P0.fns.length).map fun i => ((enP P0 m i : Nat) : Int)⟩) := by
  have hPl := h.lt
  obtain ⟨cv, hv, xv, ev, col, H⟩ := h
  obtain ⟨va, vk, rfl⟩ : ∃ a k, v = .slice a ns.length k := nlv_sl A.hv
  obtain ⟨ta, tk, rfl⟩ : ∃ a k, t = .slice a P0.ty.length k := ilv_sl A.ht
  obtain ⟨ra, rk, rfl⟩ : ∃ a k, r = .slice a P0.rf.length k := ilv_sl A.hr
  obtain ⟨fa, fk, rfl⟩ : ∃ a k, f = .slice a rs.length k := flv_sl A.hf
  obtain ⟨v, hv0⟩ : ∃ v, v = Value.slice va ns.length vk := ⟨_, rfl⟩
  obtain ⟨t, ht0⟩ : ∃ t, t = Value.slice ta P0.ty.length tk := ⟨_, rfl⟩
  obtain ⟨r, hr0⟩ : ∃ r, r = Value.slice ra P0.rf.length rk := ⟨_, rfl⟩
  obtain ⟨f, hf0⟩ : ∃ f, f = Value.slice fa rs.length fk := ⟨_, rfl⟩
  rw [← hv0, ← ht0, ← hr0, ← hf0] at A hb M
  rw [← hv0, ← ht0, ← hr0, ← hf0]
  obtain ⟨a1, a2, a3, a4, n1, n2, n3, n4, c1, c2, c3, c4, e1, e2, e3, e4, X⟩ := H.reset v root t r f m err pos
  have F2 := setG_fr w g v root t r f m err pos a1 a2 a3 a4 c1 c2 c3 c4
  obtain ⟨w4, hw4⟩ : ∃ w4, w4 = setG w g v root t r f m err pos a1 a2 a3 a4 c1 c2 c3 c4 := ⟨_, rfl⟩
  have hsz : w4.heap.size = w.heap.size := by rw [hw4]; simp [setG]
  rw [← hw4] at X F2
  have hF : Fr (fun _ => False) w4 (w4.alloc (.cells #[v, .int .i64 root, .int .i64 0, .int .i64 0, t, r, f, .int .i64 (m : Nat), .int .i64 err, .int .i64 pos] 69)) := (Fr.refl _ w4).alloc _
  have K5 := box10v_blk w4 v (.int .i64 root) (.int .i64 0) (.int .i64 0) t r f (.int .i64 (m : Nat)) (.int .i64 err) (.int .i64 pos)
  obtain ⟨w5, hw5⟩ : ∃ w5, w5 = w4.alloc (.cells #[v, .int .i64 root, .int .i64 0, .int .i64 0, t, r, f, .int .i64 (m : Nat), .int .i64 err, .int .i64 pos] 69) := ⟨_, rfl⟩
  rw [← hw5] at hF K5
  rw [hsz] at K5
  replace X := X.frame hF fun _ _ => id
  have A5 : AnsM w5 v t r f ns P0.ty P0.rf rs := (A.frame F2 fun b hb' e => (hb b hb').2 (by rw [e]; exact H.pg.1)).frame hF fun _ _ => id
  have hcb : ¬ P w.heap.size := fun hp => by have := hPl _ hp; omega
  have hcl : w.heap.size < w5.heap.size := K5.lt
  have F5 : Fr P w w5 := (F2.mono (S' := P) fun b _ e => by rw [e]; exact H.pg.1).trans hF fun b _ e => e.elim
  rw [hw4] at hw5
  have hgl := H.glt
  have hz := H.blk.frozen
  have d2 := H.cl (o := 2) (by omega)
  have d3 := H.cl (o := 3) (by omega)
  have d4 := H.cl (o := 4) (by omega)
  have d5 := H.cl (o := 5) (by omega)
  have d6 := H.cl (o := 6) (by omega)
  have d7 := H.cl (o := 7) (by omega)
  have d8 := H.cl (o := 8) (by omega)
  have d9 := H.cl (o := 9) (by omega)
  have d10 := H.cl (o := 10) (by omega)
  have d11 := H.cl (o := 11) (by omega)
  have d12 : _ = some cv := H.cl (o := 12) (by omega)
  have d13 : _ = some hv := H.cl (o := 13) (by omega)
  have d14 : _ = some xv := H.cl (o := 14) (by omega)
  have d15 : _ = some ev := H.cl (o := 15) (by omega)
  rw [e1] at d12
  rw [e2] at d13
  rw [e3] at d14
  rw [e4] at d15
  generalize gC hd cv hv xv ev 2 = z2 at d2
  generalize gC hd cv hv xv ev 3 = z3 at d3
  generalize gC hd cv hv xv ev 4 = z4 at d4
  generalize gC hd cv hv xv ev 5 = z5 at d5
  generalize gC hd cv hv xv ev 6 = z6 at d6
  generalize gC hd cv hv xv ev 7 = z7 at d7
  generalize gC hd cv hv xv ev 8 = z8 at d8
  generalize gC hd cv hv xv ev 9 = z9 at d9
  generalize gC hd cv hv xv ev 10 = z10 at d10
  generalize gC hd cv hv xv ev 11 = z11 at d11
  have HM : Hid _ := And.intro hPl (And.intro F5 (And.intro A5 (And.intro hb (And.intro hcb (And.intro htl hrl)))))
  have HX : Hid (True ∧ _) := ⟨trivial, X⟩
  have HK : Hid (True ∧ _) := ⟨trivial, K5⟩
  have Hw5 : Hid _ := hw5
  subst hv0 ht0 hr0 hf0
  clear H F2 hsz e1 e2 e3 e4 A hF hw5 hw4 A5 X K5 F5 hb hPl htl hrl
  unfold chkV
  go_enter Tryz.func46, Tryz.ntmps46
  go_upto_region 6 with fail
  have hw5 := Hw5.out
  unfold setG at hw5
  rw [← hw5]
  obtain ⟨hPl, F5, A5, hb, _, htl, hrl⟩ := HM.out
  obtain ⟨v, hv0⟩ : ∃ v, v = Value.slice va ns.length vk := ⟨_, rfl⟩
  obtain ⟨t, ht0⟩ : ∃ t, t = Value.slice ta P0.ty.length tk := ⟨_, rfl⟩
  obtain ⟨r, hr0⟩ : ∃ r, r = Value.slice ra P0.rf.length rk := ⟨_, rfl⟩
  have X := HX.out.2
  have K5 := HK.out.2
  rw [← hv0, ← ht0, ← hr0] at A5 hb M X K5
  rw [← hv0, ← ht0, ← hr0]
  have C5 : (⟨P0, hdC hd v root t r (.slice fa rs.length fk) m err pos, ns, rs, g, 0, 0⟩ : Ge).Cv w5 P := ⟨A5, fun b hb' => ⟨Nat.lt_of_lt_of_le (hb b hb').1 F5.size, (hb b hb').2⟩, htl, hrl⟩
  have E5 := Em.nil X
  have Hz : Hid _ := And.intro hPl F5
  obtain ⟨hd', hhd⟩ : ∃ hd', hd' = hdC hd v root t r (.slice fa rs.length fk) m err pos := ⟨_, rfl⟩
  rw [← hhd] at M C5 E5
  obtain ⟨cb, hcb'⟩ : ∃ cb, cb = w.heap.size := ⟨_, rfl⟩
  rw [← hcb'] at K5 hcb
  rw [← hcb']
  have Hhd : Hid _ := And.intro hhd (And.intro hcb' (And.intro hv0 (And.intro ht0 hr0)))
  have hrf : rs.length = P0.fns.length := M.rl
  obtain ⟨n, hn⟩ : ∃ n, n = P0.fns.length := ⟨_, rfl⟩
  have hn200 : n ≤ 200 := by rw [hn]; exact M.fn
  have Hn : Hid _ := And.intro hn hrf
  rw [hrf, ← hn] at K5
  rw [hrf, ← hn]
  clear HM hPl F5 A5 hb htl hrl X HX HK hhd hcb' hcl hgl hz d2 d3 d4 d5 d6 d7 d8 d9 d10 d11 d12 d13 d14 d15 Hw5 hw5 hv0 ht0 hr0 hn hrf
  go_wp2_with fail
  go_loopg [4] n (fun gm iv wr => ∃ i : Nat, iv = .int .i64 i ∧ i + gm = n ∧ Em w5 P g hd' wr ⟨[], [], [], List.replicate i (-1)⟩)
  case atStart => exact ⟨0, rfl, by omega, E5⟩
  case round =>
    obtain ⟨i, rfl, hg, Ei⟩ := hrel
    have hg' : i + gk = n := hg
    clear hg
    have m6 : wr.cell? ⟨cb, 6, none⟩ = some (.slice fa n fk) := (Ei.blk K5 hcb).cell (by omega)
    have hml := (Ei.blk K5 hcb).lt
    by_cases hlt : i < n
    · have hI : decide ((i : Int) < (n : Nat)) = true := decide_eq_true (by omega)
      obtain ⟨cv, hv, xv, ev, col, H⟩ := Ei.1
      have c15 : wr.cell? ⟨g, 15, none⟩ = some ev := H.cl (o := 15) (by omega)
      have hgl := H.glt
      have hz := H.blk.frozen
      have kA := (Fr.refl (fun _ => False) wr).alloc (.cells #[.int .i64 (-1)] 3)
      have HA := H.same kA
      have hO := HA.ent
      have hmade : KiP (wr.alloc (.cells #[.int .i64 (-1)] 3)) wr.heap.size [(-1 : Int)] := KiP.one ((Blk.new wr #[.int .i64 (-1)] 3 (fun _ => .int .i64 (-1)) (fun o ho => by
        have ho : o < 1 := by simpa using ho
        obtain rfl : o = 0 := by omega
        rfl)).cell (by simp))
      have Hh : Hid _ := And.intro HA (And.intro kA H.lt)
      have HEi : Hid (True ∧ _) := ⟨trivial, Ei⟩
      clear H HA kA Ei E5
      go_wp2_with (
        at_builtin
        refine wpList_appendI (by rfl) _ _ (by rfl) _ _ [(-1 : Int)] _ 1 1 (by rfl) (by rfl) rfl hO hmade (.inr (by simp)) (by simp; omega) ?_
        intro v' w8 hc5 hb5 f5
        obtain ⟨va', vc', hvv, _⟩ := hc5.sl
        simp only [List.length_append, List.length_cons, List.length_nil, Nat.zero_add, List.length_replicate] at hvv
        subst hvv
        have hcm := Hh.out.1.blk.frame f5 Hh.out.1.ene
        have cm1 := hcm.cell (o := 15) (by omega)
        have cml := hcm.lt
        have cmz := hcm.frozen
        have Hc5 : Hid _ := And.intro hc5 (And.intro hb5 f5)
        clear hc5 hb5 f5 hcm)
      go_roundg (gk - 1)
      case measure => omega
      case rel =>
        obtain ⟨hc5, hb5, f5⟩ := Hc5.out
        have key := Hh.out.1.setE f5 hc5 hb5 (fun b hb => hc5.bk hb)
        have E6 := HEi.out.2.then (e := .returned (.tuple #[])) (EmR.pre Hh.out.2.2 Hh.out.2.1 ⟨rfl, key⟩)
        refine ⟨i + 1, by simp, by omega, ?_⟩
        rw [List.replicate_succ']
        exact E6
    · have hI : decide ((i : Int) < (n : Nat)) = false := decide_eq_false (by omega)
      obtain rfl : i = n := by omega
      have m7 : wr.cell? ⟨cb, 7, none⟩ = some (.int .i64 (m : Nat)) := (Ei.blk K5 hcb).cell (by omega)
      obtain ⟨rm, hrm⟩ := M.at' m M.mn
      have hmn : m < i := by rw [Hn.out.1]; exact M.mn
      have hlen0 : sumF P0 (ordL P0.fns.length m) ≤ 3000 := by have := M.len; unfold codeP at this; rw [sumF_cdL] at this; exact this
      have q := functionG hrm M.fn Ei.1 (Ge.Cv.em C5 Ei) (by simp; exact hmn) (by
        have h1 := ord_mono P0 m 0 P0.fns.length (by omega)
        have h2 : sumF P0 (ordL 0 m) = nF (fiA P0 m) := by simp [ordL, sumF]
        simp only [List.length_nil]
        omega)
      clear hI
      go_wp2_with fail
      refine q.mono ?_
      rintro v w6 ⟨rfl, hE⟩
      have E6 := Ei.then (e := .returned (.tuple #[])) ⟨rfl, hE⟩
      clear hE q m6 m7 hml E5 Ei
      go_wp2_with fail
      go_loopg [5] i (fun gm jv wr => ∃ j : Nat, jv = .int .i64 j ∧ j + gm = i ∧ Em w5 P g hd' wr (addFs P0 ⟨[], [], [], List.replicate i (-1)⟩ (ordL j m)))
      case atStart => exact ⟨0, rfl, by omega, E6⟩
      case round =>
        obtain ⟨j, rfl, hg, Ej⟩ := hrel
        have hg2 : j + gk = i := hg
        clear hg
        have m6 : wr.cell? ⟨cb, 6, none⟩ = some (.slice fa i fk) := (Ej.blk K5 hcb).cell (by omega)
        have m7 : wr.cell? ⟨cb, 7, none⟩ = some (.int .i64 (m : Nat)) := (Ej.blk K5 hcb).cell (by omega)
        have hml := (Ej.blk K5 hcb).lt
        have hjl : sumF P0 (ordL j m) ≤ sumF P0 (ordL P0.fns.length m) := ord_mono P0 m j _ (by have := Hn.out.1; omega)
        have hcl : (addFs P0 ⟨[], [], [], List.replicate i (-1)⟩ (ordL j m)).code.length = sumF P0 (ordL j m) := by rw [addFs_code]; simp [sumF_cdL]
        by_cases hlt : j < i
        · have hI : decide ((j : Int) < (i : Nat)) = true := decide_eq_true (by omega)
          by_cases hjm : j = m
          · have z : ((j : Int) != (m : Nat)) = false := by simp [hjm]
            have Hjm : Hid _ := And.intro hjm hcl
            clear hjm hcl
            go_wp2_with fail
            go_roundg (gk - 1)
            case measure => omega
            case rel => exact ⟨j + 1, by simp, by omega, by rw [ord_succ, if_pos Hjm.out.1]; exact Ej⟩
          · have z : ((j : Int) != (m : Nat)) = true := by simp; omega
            obtain ⟨rj, hrj⟩ := M.at' j (by show j < P0.fns.length; rw [← Hn.out.1]; exact hlt)
            have hj1 : sumF P0 (ordL (j + 1) m) ≤ sumF P0 (ordL P0.fns.length m) := ord_mono P0 m (j + 1) _ (by have := Hn.out.1; omega)
            rw [ord_succ, if_neg hjm, sumF_app] at hj1
            have hj2 : sumF P0 [j] = nF (fiA P0 j) := by simp [sumF]
            have q := functionG hrj M.fn Ej.1 (Ge.Cv.em C5 Ej) (by rw [addFs_el]; simp; exact hlt) (by show _ + nF (fiA P0 j) ≤ _; rw [hcl]; omega)
            have Hjm : Hid _ := And.intro hjm (And.intro hcl hj2)
            clear hjm hcl hj2
            go_wp2_with fail
            refine q.mono ?_
            rintro v w7 ⟨rfl, hE⟩
            have E7 := Ej.then (e := .returned (.tuple #[])) ⟨rfl, hE⟩
            clear hE q m6 m7 hml
            go_wp2_with fail
            go_roundg (gk - 1)
            case measure => omega
            case rel =>
              refine ⟨j + 1, by simp, by omega, ?_⟩
              rw [ord_succ, if_neg Hjm.out.1, addFs_app]
              exact E7
        · have hI : decide ((j : Int) < (i : Nat)) = false := decide_eq_false (by omega)
          obtain rfl : j = i := by omega
          obtain ⟨k1, k2, k3, k4⟩ := compiled P0 m
          rw [← Hn.out.1] at k1 k2 k3 k4
          obtain ⟨B9, hB9⟩ : ∃ B9, B9 = addFs P0 ⟨[], [], [], List.replicate j (-1)⟩ (ordL j m) := ⟨_, rfl⟩
          rw [← hB9] at k1 k2 k3 k4 Ej hcl
          have hrow : RowIn P0 0 (sumF P0 (ordL j m)) B9.calls := by
            rw [k2]
            exact row_L _ _ fun a ha => by
              obtain ⟨ra', hra⟩ := M.at' a (by have := ord_lt hmn ha; rw [Hn.out.1] at this; exact this)
              exact hra.wt
          have hcl9 : B9.calls.length ≤ 3000 := by
            obtain ⟨cv, hv, xv, ev, col, H⟩ := Ej.1
            have := H.xl
            omega
          have Hk : Hid _ := And.intro k1 (And.intro k2 (And.intro k3 (And.intro k4 (And.intro hcl hB9))))
          clear k1 k2 k3 k4 hcl hB9
          go_wp2_with fail
          clear hI m6 m7 hml
          go_loopg [6] B9.calls.length (fun gm kv wr => ∃ k : Nat, kv = .int .i64 k ∧ k + gm = B9.calls.length ∧ Em w5 P g hd' wr { B9 with code := fills (enP P0 m) (B9.calls.take k) B9.code })
          case atStart => exact ⟨0, rfl, by omega, Ej⟩
          case round =>
            obtain ⟨k, rfl, hg, Ek⟩ := hrel
            have hg3 : k + gk = B9.calls.length := hg
            clear hg
            obtain ⟨cvk, hvk, xvk, evk, colk, HY⟩ := Ek.1
            have c14 : wr.cell? ⟨g, 14, none⟩ = some xvk := HY.cl (o := 14) (by omega)
            have hgl := HY.glt
            obtain ⟨xa, xc, hxe, _⟩ := HY.cal.sl
            rw [hxe] at c14
            have hlen9 : (fills (enP P0 m) (B9.calls.take k) B9.code).length = sumF P0 (ordL j m) := by rw [fills_len]; exact Hk.out.2.2.2.2.1
            have Hl9 : Hid _ := And.intro hlen9 hxe
            by_cases hlt : k < B9.calls.length
            · have hI : decide ((k : Int) < (B9.calls.length : Nat)) = true := decide_eq_true (by omega)
              have Ed := Ek.same ((Fr.refl _ _).drew)
              obtain ⟨cvd, hvd, xvd, evd, cold, HD⟩ := Ed.1
              have t14 : wr.drew.cell? ⟨g, 14, none⟩ = some xvd := HD.cl (o := 14) (by omega)
              have t15 : wr.drew.cell? ⟨g, 15, none⟩ = some evd := HD.cl (o := 15) (by omega)
              have hgd : g < wr.drew.heap.size := HD.glt
              obtain ⟨x1, x2, hx⟩ : ∃ x1 x2, B9.calls[k] = (x1, x2) := ⟨_, _, rfl⟩
              obtain ⟨xb, xk, y1, y2, y3, y4⟩ := HD.cal.get (i := k) hlt
              have hrw := hrow B9.calls[k] (List.getElem_mem hlt)
              simp only [hx] at y3 y4
              rw [hx] at hrw
              simp only [] at hrw
              have hel : B9.entry.length = P0.fns.length := by rw [Hk.out.2.2.2.1, Hn.out.1]; simp
              obtain ⟨eb, ek, u1, u2, u3, _⟩ := HD.ent.get (i := x2) (by show x2 < B9.entry.length; omega)
              have hev : B9.entry[x2]'(by omega) = ((enP P0 m x2 : Nat) : Int) := by
                have h1 := Hk.out.2.2.2.1
                have h2 : B9.entry[x2]? = some ((enP P0 m x2 : Nat) : Int) := by rw [h1]; simp [Hn.out.1, hrw.2.2]
                rw [List.getElem?_eq_getElem (by omega)] at h2
                injection h2
              have u4 : wr.drew.cell? ⟨eb, x2, none⟩ = some (.int .i64 ((enP P0 m x2 : Nat) : Int)) := by rw [u3]; exact congrArg (fun z => some (Value.int .i64 z)) hev
              rw [y1] at t14
              rw [u1] at t15
              simp only [] at t14 t15 y3 y4
              rw [hel] at t15
              have hen : enP P0 m x2 ≤ sumF P0 (ordL P0.fns.length m) := by have := enO_le P0 (ordL P0.fns.length m) 0 x2; unfold enP; omega
              have q := fillF Ed.1 x1 (enP P0 m x2) (by omega) (by show x1 + 1 < (fills _ _ _).length; rw [hlen9]; omega) (by show (fills _ _ _).length ≤ _; rw [hlen9]; omega)
              have hx2i : (x2 : Int) < P0.fns.length := by omega
              have hki : (k : Int) < B9.calls.length := by omega
              have Hq : Hid _ := And.intro hx (And.intro hel hrw)
              clear HY HD hxe hlen9 y1 u1 u3 hev hel hx hrow
              obtain ⟨ee, hee⟩ : ∃ ee, ee = enP P0 m x2 := ⟨_, rfl⟩
              rw [← hee] at q u4
              have Hee : Hid _ := hee
              clear hee
              go_upto_region 19 with fail
              refine wp_region_text (by kernel_rfl) (by kernel_rfl) ?_
              go_wp2_with fail
              refine q.mono ?_
              rintro v w7 ⟨rfl, hE⟩
              have E7 := Ed.then (e := .returned (.tuple #[])) ⟨rfl, hE⟩
              clear hE q
              go_wp2_with fail
              refine ⟨by kernel_rfl, ?_⟩
              go_wp2_with fail
              go_roundg (gk - 1)
              case measure => omega
              case rel =>
                refine ⟨k + 1, by simp, by omega, ?_⟩
                rw [fills_take _ _ _ hlt, Hq.out.1]
                rw [Hee.out] at E7
                exact E7
            · have hI : decide ((k : Int) < (B9.calls.length : Nat)) = false := decide_eq_false (by omega)
              obtain rfl : k = B9.calls.length := by omega
              clear HY hxe hlen9
              go_wp2_with fail
              go_end0
              obtain ⟨k1, k2, k3, k4, _⟩ := Hk.out
              rw [List.take_length, k1] at Ek
              have e1 : ({ B9 with code := codeP P0 m } : Gb) = ⟨codeP P0 m, [], fxL P0 (ordL P0.fns.length m) 0, (List.range P0.fns.length).map fun i => ((enP P0 m i : Nat) : Int)⟩ := by rw [k3, k2, k4, Hn.out.1]
              rw [e1, Hhd.out.1, Hhd.out.2.2.1, Hhd.out.2.2.2.1, Hhd.out.2.2.2.2] at Ek
              exact EmR.preP Hz.out.1 Hz.out.2 Ek.ret
end Go.Proofs.Qxb6500277aGreat
