/- The code generator: expr, leaves. -/
import Derived.Test.Qxb6500277aGreatGE8
import Derived.Test.Qxb6500277aGreatGP22
namespace Go.Proofs.Qxb6500277aGreat
open Go Go.RowKit

/-- An expression's code behind the buffer. -/
def addE (P0 : Pg) (B : Gb) (b : Nat) (e : Exp) : Gb := { B with code := B.code ++ cE P0 (fun _ => 0) B.code.length b e, calls := B.calls ++ fxE P0 B.code.length b e }
def addEs (P0 : Pg) (B : Gb) (b : Nat) (e : Exps) : Gb := { B with code := B.code ++ cEs P0 (fun _ => 0) B.code.length b e, calls := B.calls ++ fxEs P0 B.code.length b e }
theorem addE_len (P0 : Pg) (B : Gb) (b : Nat) (e : Exp) : (addE P0 B b e).code.length = B.code.length + nE e := by simp [addE, cE_len]
theorem addEs_len (P0 : Pg) (B : Gb) (b : Nat) (e : Exps) : (addEs P0 B b e).code.length = B.code.length + nEs e := by simp [addEs, cEs_len]
/-- What stays while a program is compiled. -/
structure Ge where
  P0 : Pg
  hd : Nat → Value
  ns : List Nd
  rs : List FR
  g : Nat
  li : Nat
  lr : Nat
structure Ge.Ok (G : Ge) : Prop where
  li : G.li ≤ 256
  lr : G.lr ≤ 256
  fn : G.P0.fns.length ≤ 200
def Ge.Cv (G : Ge) (w : World) (P : Nat → Prop) : Prop := Go.Proofs.Qxb6500277aGreat.Cv w P G.hd G.ns G.P0.ty G.P0.rf G.rs
/-- expr over all expressions of at most n nodes. -/
def ExG (G : Ge) (n : Nat) : Prop := ∀ (e : Exp), szE e ≤ n → TyE e → ∀ (w : World) (P : Nat → Prop) (B : Gb) (b : Nat) (nx x : Int), GX w G.g P G.hd B → G.Cv w P → Lie G.ns b (flE b nx e) → x = rtE b e → WtE G.P0 G.li G.lr b e → B.code.length + nE e ≤ 40000 → Calls Tryz.prog 192 #[.pointer (some ⟨G.g, 0, none⟩), .int .i64 x] w (EmR w G.g P G.hd (addE G.P0 B b e))
theorem ndC_blk (w : World) (nd : Nd) : Blk (w.alloc (.cells #[.int .i64 nd.kind, .int .i64 nd.a, .int .i64 nd.b, .int .i64 nd.c, .int .i64 nd.nx, .int .i64 nd.val, .int .i64 nd.pos, .string nd.name] 145)) w.heap.size 8 (ndCell nd) := Blk.new w _ _ _ fun o ho => by
  have ho : o < 8 := ho
  obtain rfl | rfl | rfl | rfl | rfl | rfl | rfl | rfl : o = 0 ∨ o = 1 ∨ o = 2 ∨ o = 3 ∨ o = 4 ∨ o = 5 ∨ o = 6 ∨ o = 7 := by omega
  all_goals rfl
/-- After the node has been read. -/
structure Nw (G : Ge) (w w2 : World) (P : Nat → Prop) (B : Gb) (nb : Nat) (nd : Nd) : Prop where
  em : Em w2 P G.g G.hd w2 B
  cv : G.Cv w2 P
  bk : Blk w2 nb 8 (ndCell nd)
  np : ¬ P nb
  fr : Fr (fun _ => False) w w2
  lt : ∀ b, P b → b < w.heap.size
theorem Nw.mk' {G : Ge} {w w1 : World} {P : Nat → Prop} {B : Gb} (h : GX w G.g P G.hd B) (hc : G.Cv w P) (f1 : Fr (fun _ => False) w w1) (nd : Nd) : Nw G w (w1.alloc (.cells #[.int .i64 nd.kind, .int .i64 nd.a, .int .i64 nd.b, .int .i64 nd.c, .int .i64 nd.nx, .int .i64 nd.val, .int .i64 nd.pos, .string nd.name] 145)) P B w1.heap.size nd :=
  ⟨Em.nil (h.frame (f1.alloc _) fun _ _ => id), Cv.same hc (f1.alloc _), ndC_blk w1 nd, fun hp => by have := h.lt _ hp; have := f1.size; omega, f1.alloc _, h.lt⟩
theorem Nw.done {G : Ge} {w w2 w3 : World} {P : Nat → Prop} {B B' : Gb} {nb : Nat} {nd : Nd} (h : Nw G w w2 P B nb nd) (k : Em w2 P G.g G.hd w3 B') : EmR w G.g P G.hd B' (.returned (.tuple #[])) w3 := EmR.pre h.lt h.fr k.ret
theorem Nw.c {G : Ge} {w w2 w3 : World} {P : Nat → Prop} {B B' : Gb} {nb : Nat} {nd : Nd} (h : Nw G w w2 P B nb nd) (k : Em w2 P G.g G.hd w3 B') : G.Cv w3 (Gw P w2 w3) := Cv.em h.cv k
theorem Nw.b {G : Ge} {w w2 w3 : World} {P : Nat → Prop} {B B' : Gb} {nb : Nat} {nd : Nd} (h : Nw G w w2 P B nb nd) (k : Em w2 P G.g G.hd w3 B') : Blk w3 nb 8 (ndCell nd) := k.blk h.bk h.np
theorem GX.regs {w : World} {g : Nat} {P : Nat → Prop} {hd : Nat → Value} {B : Gb} (h : GX w g P hd B) : w.cell? ⟨g, 2, none⟩ = some (hd 2) ∧ w.cell? ⟨g, 6, none⟩ = some (hd 6) ∧ w.cell? ⟨g, 7, none⟩ = some (hd 7) ∧ w.cell? ⟨g, 8, none⟩ = some (hd 8) ∧ w.cell? ⟨g, 9, none⟩ = some (hd 9) ∧ g < w.heap.size := by
  obtain ⟨cv, hv, xv, ev, col, H⟩ := h
  exact ⟨H.cl (o := 2) (by omega), H.cl (o := 6) (by omega), H.cl (o := 7) (by omega), H.cl (o := 8) (by omega), H.cl (o := 9) (by omega), H.glt⟩
set_option maxRecDepth 100000 in
set_option maxHeartbeats 2000000 in
theorem expr_num {G : Ge} (v p : Int) {w : World} {P : Nat → Prop} {B : Gb} {b : Nat} {nx x : Int} (h : GX w G.g P G.hd B) (hc : G.Cv w P) (L : Lie G.ns b (flE b nx (.num v p))) (hx : x = rtE b (.num v p)) (hl : B.code.length + nE (.num v p) ≤ 40000) : Calls Tryz.prog 192 #[.pointer (some ⟨G.g, 0, none⟩), .int .i64 x] w (EmR w G.g P G.hd (addE G.P0 B b (.num v p))) := by
  rw [rtE_nat] at hx
  subst hx
  have hN := L.one
  clear L
  obtain ⟨k, hk⟩ : ∃ k, k = b := ⟨_, rfl⟩
  rw [← hk] at hN
  have hke : b + szE (.num v p) - 1 = k := by rw [hk]; simp only [szE]; omega
  rw [hke]
  have hkl : k < G.ns.length := (List.getElem?_eq_some_iff.1 hN).1
  have qN := nodeG h hc hN
  obtain ⟨nd, hnd⟩ : ∃ nd : Nd, nd = ⟨10, -1, -1, -1, nx, v, p, ⟨#[]⟩⟩ := ⟨_, rfl⟩
  rw [← hnd] at qN hN
  have Hnd : Hid _ := And.intro hnd (And.intro hk hke)
  clear hnd hke hk
  go_enter Tryz.func192, Tryz.ntmps192
  go_wp2_with fail
  refine qN.mono ?_
  rintro v w1 ⟨rfl, f1⟩
  have N := Nw.mk' h hc f1 nd
  clear qN f1
  unfold ndV
  go_upto_region 1 with fail
  obtain ⟨nb, hnb⟩ : ∃ nb, nb = w1.heap.size := ⟨_, rfl⟩
  obtain ⟨w2, hw2⟩ : ∃ w2, w2 = w1.alloc (.cells #[.int .i64 nd.kind, .int .i64 nd.a, .int .i64 nd.b, .int .i64 nd.c, .int .i64 nd.nx, .int .i64 nd.val, .int .i64 nd.pos, .string nd.name] 145) := ⟨_, rfl⟩
  rw [← hw2, ← hnb] at N
  rw [← hw2, ← hnb]
  clear hw2 hnb h hc w1
  have d0 : nd.kind = 10 := by rw [Hnd.out.1]
  have d5 : nd.val = v := by rw [Hnd.out.1]
  have E := N.em
  have m0 : w2.cell? ⟨nb, 0, none⟩ = some (.int .i64 nd.kind) := N.bk.cell (by omega)
  have hnl := N.bk.lt
  rw [d0] at m0
  have m5 : w2.cell? ⟨nb, 5, none⟩ = some (.int .i64 nd.val) := (N.b E).cell (by omega)
  rw [d5] at m5
  have hnl_w2 := (N.b E).lt
  have q := numF E.1 v (by simp only [nE] at hl; omega)
  go_wp2_with fail
  refine q.mono ?_
  rintro v w3 ⟨rfl, hE⟩
  clear q
  have E3 := E.then (e := .returned (.tuple #[])) ⟨rfl, hE⟩
  clear hE
  go_wp2_with fail
  go_end0
  exact N.done (by simpa [addE, cE, fxE] using E3)
set_option maxRecDepth 100000 in
set_option maxHeartbeats 2000000 in
theorem expr_boo {G : Ge} (v p : Int) {w : World} {P : Nat → Prop} {B : Gb} {b : Nat} {nx x : Int} (h : GX w G.g P G.hd B) (hc : G.Cv w P) (L : Lie G.ns b (flE b nx (.boo v p))) (hx : x = rtE b (.boo v p)) (hl : B.code.length + nE (.boo v p) ≤ 40000) : Calls Tryz.prog 192 #[.pointer (some ⟨G.g, 0, none⟩), .int .i64 x] w (EmR w G.g P G.hd (addE G.P0 B b (.boo v p))) := by
  rw [rtE_nat] at hx
  subst hx
  have hN := L.one
  clear L
  obtain ⟨k, hk⟩ : ∃ k, k = b := ⟨_, rfl⟩
  rw [← hk] at hN
  have hke : b + szE (.boo v p) - 1 = k := by rw [hk]; simp only [szE]; omega
  rw [hke]
  have hkl : k < G.ns.length := (List.getElem?_eq_some_iff.1 hN).1
  have qN := nodeG h hc hN
  obtain ⟨nd, hnd⟩ : ∃ nd : Nd, nd = ⟨11, -1, -1, -1, nx, v, p, ⟨#[]⟩⟩ := ⟨_, rfl⟩
  rw [← hnd] at qN hN
  have Hnd : Hid _ := And.intro hnd (And.intro hk hke)
  clear hnd hke hk
  go_enter Tryz.func192, Tryz.ntmps192
  go_wp2_with fail
  refine qN.mono ?_
  rintro v w1 ⟨rfl, f1⟩
  have N := Nw.mk' h hc f1 nd
  clear qN f1
  unfold ndV
  go_upto_region 1 with fail
  obtain ⟨nb, hnb⟩ : ∃ nb, nb = w1.heap.size := ⟨_, rfl⟩
  obtain ⟨w2, hw2⟩ : ∃ w2, w2 = w1.alloc (.cells #[.int .i64 nd.kind, .int .i64 nd.a, .int .i64 nd.b, .int .i64 nd.c, .int .i64 nd.nx, .int .i64 nd.val, .int .i64 nd.pos, .string nd.name] 145) := ⟨_, rfl⟩
  rw [← hw2, ← hnb] at N
  rw [← hw2, ← hnb]
  clear hw2 hnb h hc w1
  have d0 : nd.kind = 11 := by rw [Hnd.out.1]
  have d5 : nd.val = v := by rw [Hnd.out.1]
  have E := N.em
  have m0 : w2.cell? ⟨nb, 0, none⟩ = some (.int .i64 nd.kind) := N.bk.cell (by omega)
  have hnl := N.bk.lt
  rw [d0] at m0
  have m5 : w2.cell? ⟨nb, 5, none⟩ = some (.int .i64 nd.val) := (N.b E).cell (by omega)
  rw [d5] at m5
  have hnl_w2 := (N.b E).lt
  have q := numF E.1 v (by simp only [nE] at hl; omega)
  go_wp2_with fail
  refine q.mono ?_
  rintro v w3 ⟨rfl, hE⟩
  clear q
  have E3 := E.then (e := .returned (.tuple #[])) ⟨rfl, hE⟩
  clear hE
  go_wp2_with fail
  go_end0
  exact N.done (by simpa [addE, cE, fxE] using E3)
set_option maxRecDepth 100000 in
set_option maxHeartbeats 2000000 in
theorem expr_rd {G : Ge} (p : Int) {w : World} {P : Nat → Prop} {B : Gb} {b : Nat} {nx x : Int} (h : GX w G.g P G.hd B) (hc : G.Cv w P) (L : Lie G.ns b (flE b nx (.rd p))) (hx : x = rtE b (.rd p)) (hl : B.code.length + nE (.rd p) ≤ 40000) : Calls Tryz.prog 192 #[.pointer (some ⟨G.g, 0, none⟩), .int .i64 x] w (EmR w G.g P G.hd (addE G.P0 B b (.rd p))) := by
  rw [rtE_nat] at hx
  subst hx
  have hN := L.one
  clear L
  obtain ⟨k, hk⟩ : ∃ k, k = b := ⟨_, rfl⟩
  rw [← hk] at hN
  have hke : b + szE (.rd p) - 1 = k := by rw [hk]; simp only [szE]; omega
  rw [hke]
  have hkl : k < G.ns.length := (List.getElem?_eq_some_iff.1 hN).1
  have qN := nodeG h hc hN
  obtain ⟨nd, hnd⟩ : ∃ nd : Nd, nd = ⟨17, -1, -1, -1, nx, 0, p, ⟨#[]⟩⟩ := ⟨_, rfl⟩
  rw [← hnd] at qN hN
  have Hnd : Hid _ := And.intro hnd (And.intro hk hke)
  clear hnd hke hk
  go_enter Tryz.func192, Tryz.ntmps192
  go_wp2_with fail
  refine qN.mono ?_
  rintro v w1 ⟨rfl, f1⟩
  have N := Nw.mk' h hc f1 nd
  clear qN f1
  unfold ndV
  go_upto_region 1 with fail
  obtain ⟨nb, hnb⟩ : ∃ nb, nb = w1.heap.size := ⟨_, rfl⟩
  obtain ⟨w2, hw2⟩ : ∃ w2, w2 = w1.alloc (.cells #[.int .i64 nd.kind, .int .i64 nd.a, .int .i64 nd.b, .int .i64 nd.c, .int .i64 nd.nx, .int .i64 nd.val, .int .i64 nd.pos, .string nd.name] 145) := ⟨_, rfl⟩
  rw [← hw2, ← hnb] at N
  rw [← hw2, ← hnb]
  clear hw2 hnb h hc w1
  have d0 : nd.kind = 17 := by rw [Hnd.out.1]
  have E := N.em
  have m0 : w2.cell? ⟨nb, 0, none⟩ = some (.int .i64 nd.kind) := N.bk.cell (by omega)
  have hnl := N.bk.lt
  rw [d0] at m0
  have q := opF E.1 36 (by omega) (by simp only [nE] at hl; omega)
  go_wp2_with fail
  refine q.mono ?_
  rintro v w3 ⟨rfl, hE⟩
  clear q
  have E3 := E.then (e := .returned (.tuple #[])) ⟨rfl, hE⟩
  clear hE
  go_wp2_with fail
  go_end0
  exact N.done (by simpa [addE, cE, fxE] using E3)
set_option maxRecDepth 100000 in
set_option maxHeartbeats 2000000 in
theorem expr_var {G : Ge} (o : G.Ok) (s : ByteArray) (p : Int) {w : World} {P : Nat → Prop} {B : Gb} {b : Nat} {nx x : Int} (h : GX w G.g P G.hd B) (hc : G.Cv w P) (L : Lie G.ns b (flE b nx (.var s p))) (hx : x = rtE b (.var s p)) (W : WtE G.P0 G.li G.lr b (.var s p)) (hl : B.code.length + nE (.var s p) ≤ 40000) : Calls Tryz.prog 192 #[.pointer (some ⟨G.g, 0, none⟩), .int .i64 x] w (EmR w G.g P G.hd (addE G.P0 B b (.var s p))) := by
  rw [rtE_nat] at hx
  subst hx
  have hN := L.one
  clear L
  obtain ⟨k, hk⟩ : ∃ k, k = b := ⟨_, rfl⟩
  rw [← hk] at hN
  have hke : b + szE (.var s p) - 1 = k := by rw [hk]; simp only [szE]; omega
  rw [hke]
  have hkl : k < G.ns.length := (List.getElem?_eq_some_iff.1 hN).1
  have qN := nodeG h hc hN
  obtain ⟨nd, hnd⟩ : ∃ nd : Nd, nd = ⟨12, -1, -1, -1, nx, 0, p, s⟩ := ⟨_, rfl⟩
  rw [← hnd] at qN hN
  have Hnd : Hid _ := And.intro hnd (And.intro hk hke)
  clear hnd hke hk
  go_enter Tryz.func192, Tryz.ntmps192
  go_wp2_with fail
  refine qN.mono ?_
  rintro v w1 ⟨rfl, f1⟩
  have N := Nw.mk' h hc f1 nd
  clear qN f1
  unfold ndV
  go_upto_region 1 with fail
  obtain ⟨nb, hnb⟩ : ∃ nb, nb = w1.heap.size := ⟨_, rfl⟩
  obtain ⟨w2, hw2⟩ : ∃ w2, w2 = w1.alloc (.cells #[.int .i64 nd.kind, .int .i64 nd.a, .int .i64 nd.b, .int .i64 nd.c, .int .i64 nd.nx, .int .i64 nd.val, .int .i64 nd.pos, .string nd.name] 145) := ⟨_, rfl⟩
  rw [← hw2, ← hnb] at N
  rw [← hw2, ← hnb]
  clear hw2 hnb h hc w1
  have d0 : nd.kind = 12 := by rw [Hnd.out.1]
  have E := N.em
  have m0 : w2.cell? ⟨nb, 0, none⟩ = some (.int .i64 nd.kind) := N.bk.cell (by omega)
  have hnl := N.bk.lt
  rw [d0] at m0
  obtain ⟨_, r6, r7, _, _, hgl⟩ := GX.regs E.1
  obtain ⟨tb, t1, t2, t3⟩ := ILV.at (N.c E).an.ht (i := k) (by rw [(N.c E).tl]; exact hkl)
  rw [t1, (N.c E).tl] at r6
  have htk : G.P0.ty.getD k (-1) = tyA G.P0 k := rfl
  rw [htk] at t3
  have hnl2 := (N.c E).an.nl
  have hki : (k : Int) < G.ns.length := by omega
  have qc := classF (tyA G.P0 k) 2 4 w2
  clear t1 htk
  obtain ⟨rb, s1, s2, s3⟩ := ILV.at (N.c E).an.hr (i := k) (by rw [(N.c E).rl]; exact hkl)
  rw [s1, (N.c E).rl] at r7
  have hr : rfA G.P0 k < 256 := by
    have hkb := Hnd.out.2.1
    have h1 := o.li
    have h2 := o.lr
    rw [hkb]
    simp only [WtE] at W
    split at W <;> omega
  rw [rfA_get hr (by omega)] at s3
  have qs := slotF E.1 (clsO (tyA G.P0 k) 2 4) (rfA G.P0 k) (by unfold clsO; split <;> omega) hr (by simp only [nE] at hl; omega)
  clear s1 W hr
  go_wp2_with fail
  refine qc.mono ?_
  rintro v _ ⟨rfl, rfl⟩
  clear qc
  go_wp2_with fail
  refine qs.mono ?_
  rintro v w3 ⟨rfl, hE⟩
  have E3 := E.then (e := .returned (.tuple #[])) ⟨rfl, hE⟩
  clear hE qs
  go_wp2_with fail
  go_end0
  have hkb := Hnd.out.2.1
  rw [hkb] at E3
  exact N.done (by simpa [addE, cE, fxE] using E3)
end Go.Proofs.Qxb6500277aGreat
